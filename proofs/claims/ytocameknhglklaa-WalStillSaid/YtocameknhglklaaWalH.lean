/- wal: the calls, with all that was appended kept beside; the disk never dies. -/
import Derived.Test.YtocameknhglklaaWalF
namespace Go.Proofs.Ytocameknhglklaa
open Go.RowKit
set_option linter.unusedSimpArgs false
set_option linter.unusedVariables false
set_option maxRecDepth 100000

theorem writes_waits (L : LSt) (bs : Bytes) : ∀ (k i : Nat) (D : DSt), (L.writes bs k i D).1.waits.length ≤ D.waits.length + k
  | 0, i, D => Nat.le_refl _
  | k + 1, i, D => by
    have h1 := write_waits D (L.ring (L.start + L.used + i) : Nat) (chunk bs i)
    rw [LSt.writes]
    split
    · have h2 := writes_waits L bs k (i + 1) (D.write (L.ring (L.start + L.used + i) : Nat) (chunk bs i)).1
      omega
    · omega
theorem append_waits (L : LSt) (D : DSt) (b : Batch) : (L.append D b).2.1.waits.length ≤ D.waits.length + needB b := by
  unfold LSt.append
  split
  · exact Nat.le_add_right _ _
  · have h := writes_waits L (encB (L.last + 1) b) (needB b) 0 D
    dsimp only
    split <;> exact h
structure Hist (w : World) (lb db : Nat) (L : LSt) (D : DSt) (F : Nat → Prop) (T : Nat) (all : List Batch) : Prop where
  wal : WalAt w lb db L D F
  inv : Inv L D T all
  fuel : D.fuel = -1
theorem Hist.upd {w w' : World} {lb db : Nat} {L : LSt} {D : DSt} {F : Nat → Prop} {T : Nat} {all : List Batch} (h : Hist w lb db L D F T all) {H : Nat → Prop} (hu : Upd H w w') (hf : ∀ k, F k → ¬ H k) : Hist w' lb db L D F T all := ⟨h.wal.upd hu hf, h.inv, h.fuel⟩

theorem make_live {w : World} {db : Nat} {D : DSt} {F : Nat → Prop} (hD : DiskAt w db D F) (fr n : Nat) (h2 : 2 ≤ n) (hf : fr + n ≤ D.secs.length) (hwt : D.waits.length < 99999999990) (hd : D.dead = false) (hfu : D.fuel = -1) (frI nI : Int) (hfI : frI = (fr : Nat)) (hnI : nI = (n : Nat)) :
    Calls Try.prog 15 #[.pointer (some ⟨db, 0, none⟩), .int .i64 frI, .int .i64 nI] w fun e w' => ∃ lb F', e = .returned (.tuple #[.pointer (some ⟨lb, 0, none⟩), .int .i64 0]) ∧ Hist w' lb db (LSt.made fr n) (makeD D fr n).1 F' 0 [] ∧ Upd F w w' ∧ (∀ k, F' k → F k ∨ w.heap.size ≤ k) ∧ (makeD D fr n).1.waits = [] ∧ (makeD D fr n).1.secs.length = D.secs.length := by
  subst hfI; subst hnI
  obtain ⟨i1, i2, i3, i4, i5⟩ := make_inv hD.1 h2 hf hd (by omega)
  refine (make_ok hD fr n h2 hf hwt).mono ?_
  rintro e w' ⟨p, rfl, hp⟩
  rw [i1] at hp ⊢
  rcases hp with ⟨_, lb, F', rfl, g1, g2, g3⟩ | ⟨h, _⟩
  · exact ⟨lb, F', rfl, ⟨g1, i2, i3.trans hfu⟩, g2, g3, i4, i5⟩
  · exact absurd rfl h

/-- What an Append leaves. -/
def AppPost (w : World) (lb db : Nat) (L : LSt) (D : DSt) (F : Nat → Prop) (T : Nat) (all : List Batch) (b : Batch) (a r : Int) (w' : World) : Prop :=
  (L.check b ≠ 0 ∧ L.check b ≠ 10 ∧ a = 0 ∧ r = L.check b ∧ ∃ F', Hist w' lb db L D F' T all ∧ Upd F w w' ∧ (∀ k, F' k → F k ∨ w.heap.size ≤ k)) ∨
  (L.check b = 0 ∧ a = ((all.length + 1 : Nat) : Int) ∧ r = 0 ∧ ∃ L' D' F', Hist w' lb db L' D' F' T (all ++ [b]) ∧ Upd F w w' ∧ (∀ k, F' k → F k ∨ w.heap.size ≤ k) ∧ L'.synced = L.synced ∧ L'.fr = L.fr ∧ L'.n = L.n ∧ D'.waits.length ≤ D.waits.length + 4096 ∧ D'.secs.length = D.secs.length)
theorem hist_append {w : World} {lb db : Nat} {L : LSt} {D : DSt} {F : Nat → Prop} {T : Nat} {all : List Batch} (h : Hist w lb db L D F T all) (hwt : D.waits.length < 99999900000) (xa : Option Addr) (xc : Nat) (b : Batch) (hb : Sees w 1 (.slice xa b.length xc) b.length (strsV b))
    (hbF : ∀ x, xa = some x → 0 < b.length → ¬ F x.block) (hl : all.length + 1 < 1000000000000000000) :
    Calls Try.prog 16 #[.pointer (some ⟨lb, 0, none⟩), .slice xa b.length xc] w fun e w' => ∃ a r, e = .returned (.tuple #[.int .i64 a, .int .i64 r]) ∧ AppPost w lb db L D F T all b a r w' := by
  have hFlb : F lb := by
    obtain ⟨lv, G, _, _, _, _, _, _, hF⟩ := h.wal
    exact (hF lb).2 (.inl rfl)
  refine (append_ok h.wal hwt xa xc b hb (fun x hx h0 e => hbF x hx h0 (by rw [e]; exact hFlb)) (by rw [h.inv.last]; exact hl)).mono ?_
  rintro e w' ⟨rfl, F', g1, g2, g3⟩
  refine ⟨_, _, rfl, ?_⟩
  rcases append_inv h.inv b (by rw [h.inv.last]; exact hl) with ⟨a1, a2, a3⟩ | ⟨a1, a2, a3, a4, a5, a6, a7, a8⟩ | ⟨a1, a2, a3, a4, a5, a6⟩
  · rw [a2] at g1 ⊢
    exact .inl ⟨a1, a3, rfl, rfl, F', ⟨g1, h.inv, h.fuel⟩, g2, g3⟩
  · rw [a2]
    have hw := append_waits L D b
    have hn : needB b ≤ 4096 := by have := a3.ok.used; rw [a7, a6] at this; have := h.inv.ok.fit; omega
    have hs : (L.append D b).2.1.secs.length = D.secs.length := by
      rcases writes_spec L (encB (L.last + 1) b) h.inv.ok.two (needB b) 0 D h.inv.live h.inv.fit with ⟨b1, b2, b3, b4, b5⟩ | ⟨b1, b2, b3, b4, b5⟩
      · unfold LSt.append
        rw [if_neg (by omega)]
        dsimp only
        rw [if_pos b1, b3]
      · have := h.fuel; omega
    exact .inr ⟨a1, rfl, rfl, _, _, F', ⟨g1, a3, (a8 (by rw [h.fuel]; decide)).trans h.fuel⟩, g2, g3, a4, a5, a6, by omega, hs⟩
  · have := h.fuel; omega
theorem hist_sync {w : World} {lb db : Nat} {L : LSt} {D : DSt} {F : Nat → Prop} {T : Nat} {all : List Batch} (h : Hist w lb db L D F T all) (hwt : D.waits.length < 99999999990) :
    Calls Try.prog 17 #[.pointer (some ⟨lb, 0, none⟩)] w fun e w' => ∃ D' F', e = .returned (.int .i64 0) ∧ Hist w' lb db { L with synced := all.length } D' F' T all ∧ Upd F w w' ∧ (∀ k, F' k → F k ∨ w.heap.size ≤ k) ∧ D'.waits = [] := by
  refine (sync_ok h.wal hwt).mono ?_
  rintro e w' ⟨rfl, F', g1, g2, g3⟩
  rcases sync_inv h.inv with ⟨a1, a2, a3, a4, a5⟩ | ⟨a1, a2, a3, a4, a5⟩
  · rw [a1]
    rw [a3] at a2 g1
    exact ⟨_, F', rfl, ⟨g1, a2, (a5 (by rw [h.fuel]; decide)).trans h.fuel⟩, g2, g3, a4⟩
  · have := h.fuel; omega
/-- What a Trim leaves. -/
def TrimPost (w : World) (lb db : Nat) (L : LSt) (D : DSt) (F : Nat → Prop) (T : Nat) (all : List Batch) (u r : Int) (w' : World) : Prop :=
  ((u < 0 ∨ (L.synced : Int) < u) ∧ r = 1 ∧ ∃ F', Hist w' lb db L D F' T all ∧ Upd F w w' ∧ (∀ k, F' k → F k ∨ w.heap.size ≤ k)) ∨
  (0 ≤ u ∧ u ≤ (L.synced : Int) ∧ r = 0 ∧ ∃ L' D' F', Hist w' lb db L' D' F' (max T u.toNat) all ∧ Upd F w w' ∧ (∀ k, F' k → F k ∨ w.heap.size ≤ k) ∧ L'.synced = L.synced ∧ L'.fr = L.fr ∧ L'.n = L.n ∧ D'.waits = [])
theorem hist_trim {w : World} {lb db : Nat} {L : LSt} {D : DSt} {F : Nat → Prop} {T : Nat} {all : List Batch} (h : Hist w lb db L D F T all) (hwt : D.waits.length < 99999999990) (u : Int) (hu : u ≤ 9223372036854775807) :
    Calls Try.prog 18 #[.pointer (some ⟨lb, 0, none⟩), .int .i64 u] w fun e w' => ∃ r, e = .returned (.int .i64 r) ∧ TrimPost w lb db L D F T all u r w' := by
  refine (trim_ok h.wal hwt u hu).mono ?_
  rintro e w' ⟨rfl, F', g1, g2, g3⟩
  refine ⟨_, rfl, ?_⟩
  rcases trim_inv h.inv u with ⟨a1, a2⟩ | ⟨a1, a2, a3, a4, a5, a6, a7, a8, a9⟩ | ⟨a1, a2, a3, a4, a5, a6, a7⟩
  · rw [a2] at g1 ⊢
    exact .inl ⟨a1, rfl, F', ⟨g1, h.inv, h.fuel⟩, g2, g3⟩
  · exact .inr ⟨a1, a2, a3, _, _, F', ⟨g1, a4, (a9 (by rw [h.fuel]; decide)).trans h.fuel⟩, g2, g3, a5, a6, a7, a8⟩
  · have := h.fuel; omega
theorem hist_room {w : World} {lb db : Nat} {L : LSt} {D : DSt} {F : Nat → Prop} {T : Nat} {all : List Batch} (h : Hist w lb db L D F T all) (R : Nat) (hR : L.n - 1 - needsB (all.drop T) = R) :
    Calls Try.prog 19 #[.pointer (some ⟨lb, 0, none⟩)] w fun e w' => e = .returned (.int .i64 (R : Nat)) ∧ w' = w.drew := by
  obtain ⟨lv, G, h0, h1, h2, _⟩ := h.wal
  have := room_ok h1 h0
  rw [h.inv.used, hR] at this
  exact this
theorem hist_first {w : World} {lb db : Nat} {L : LSt} {D : DSt} {F : Nat → Prop} {T : Nat} {all : List Batch} (h : Hist w lb db L D F T all) :
    Calls Try.prog 20 #[.pointer (some ⟨lb, 0, none⟩)] w fun e w' => e = .returned (.int .i64 ((T + 1 : Nat) : Int)) ∧ w = w' := by
  obtain ⟨lv, G, h0, h1, h2, _⟩ := h.wal
  have := first_ok h1 h2 h0
  rw [h.inv.first] at this
  exact this
theorem hist_last {w : World} {lb db : Nat} {L : LSt} {D : DSt} {F : Nat → Prop} {T : Nat} {all : List Batch} (h : Hist w lb db L D F T all) :
    Calls Try.prog 22 #[.pointer (some ⟨lb, 0, none⟩)] w fun e w' => e = .returned (.int .i64 (all.length : Nat)) ∧ w = w' := by
  obtain ⟨lv, G, h0, h1, h2, _⟩ := h.wal
  have := last_ok9 h1
  rw [h.inv.last] at this
  exact this
theorem hist_synced {w : World} {lb db : Nat} {L : LSt} {D : DSt} {F : Nat → Prop} {T : Nat} {all : List Batch} (h : Hist w lb db L D F T all) :
    Calls Try.prog 33 #[.pointer (some ⟨lb, 0, none⟩)] w fun e w' => e = .returned (.int .i64 (L.synced : Nat)) ∧ w = w' := by
  obtain ⟨lv, G, h0, h1, h2, _⟩ := h.wal
  exact synced_ok9 h1
theorem WalAt.disk {w : World} {lb db : Nat} {L : LSt} {D : DSt} {F : Nat → Prop} (h : WalAt w lb db L D F) : ∃ G, DiskAt w db D G ∧ (∀ k, G k → F k) := by
  obtain ⟨lv, G, h0, h1, h2, h3, h4, h5, h6⟩ := h
  exact ⟨G, h3, fun k hk => (h6 k).2 (.inr (.inr hk))⟩
/-- Open, on a disk that shows a log. -/
theorem open_live {w : World} {db : Nat} {D : DSt} {F : Nat → Prop} (hD : DiskAt w db D F) (fr n T s start : Nat) (all : List Batch) (hwt : D.waits.length < 99999999990) (hd : D.dead = false) (hfu : D.fuel = -1) (hT : T ≤ s) (hs : s ≤ all.length)
    (hg : Good D.secs fr n start (T + 1) s (seg all T s)) (hw : ∀ p ∈ D.waits, p.1 ≠ fr ∧ ∀ i, i < needsB (seg all T s) → p.1 ≠ ringAt fr n (start + i)) (frI nI : Int) (hfI : frI = (fr : Nat)) (hnI : nI = (n : Nat)) :
    Calls Try.prog 21 #[.pointer (some ⟨db, 0, none⟩), .int .i64 frI, .int .i64 nI] w fun e w' => ∃ lb x c, e = .returned (.tuple #[.pointer (some ⟨lb, 0, none⟩), .slice x (s - T) c, .int .i64 0]) ∧
      ∃ (F' : Nat → Prop) (vs : List Value) (A : Nat → Prop), Hist w' lb db (LSt.opened fr n start (T + 1) s (seg all T s)) D F' T (all.take s) ∧ Upd (fun _ => False) w w' ∧ (∀ k, F' k → F k ∨ w.heap.size ≤ k) ∧ Mid w' 1 (.slice x (s - T) c) (s - T) vs ∧ RowsAt w' vs (seg all T s) A ∧
        (∀ k, A k → w.heap.size ≤ k ∧ k < w'.heap.size ∧ ¬ F' k ∧ (Value.slice x (s - T) c).ownBlock ≠ some k) ∧ (∀ k, (Value.slice x (s - T) c).ownBlock = some k → w.heap.size ≤ k ∧ ¬ F' k) := by
  subst hfI; subst hnI
  have hg2 := hg.avoid _ hw
  have hinv := opened_inv hd hT hs (by have := hD.1.most; have := hg.fit; omega) hg hw
  have hm := hg2.mark
  refine (open_good hD fr n hg.two hg.fit hwt hd start (T + 1) s (seg all T s) _ hm (pad_length (by rw [markB_length]; decide)) rfl hg2).mono ?_
  rintro e w' ⟨lb, x, c, rfl, F', vs, A, g1, g2, g3, g4, g5, g6, g7⟩
  rw [seg_length hs] at g4 g6 g7 ⊢
  exact ⟨lb, x, c, rfl, F', vs, A, ⟨g1, hinv, hfu⟩, g2, g3, g4, g5, g6, g7⟩
end Go.Proofs.Ytocameknhglklaa

/- wal: Make, Sync. -/
import Derived.Test.YtocameknhglklaaWal5
namespace Go.Proofs.Ytocameknhglklaa
open Go.RowKit
set_option linter.unusedSimpArgs false
set_option linter.unusedVariables false
set_option maxRecDepth 100000

/-- A log and its disk; F: all blocks that are theirs. -/
def WalAt (w : World) (lb db : Nat) (L : LSt) (D : DSt) (F : Nat → Prop) : Prop :=
  ∃ lv G, L.Ok ∧ Cells9 w lb (preL L db lv) ∧ Mid w 2 lv L.list.length (listV L.list) ∧ DiskAt w db D G ∧ ¬ G lb ∧ (∀ k, lv.ownBlock = some k → ¬ G k ∧ k ≠ lb) ∧ (∀ k, F k ↔ k = lb ∨ lv.ownBlock = some k ∨ G k)
theorem WalAt.ok {w : World} {lb db : Nat} {L : LSt} {D : DSt} {F : Nat → Prop} (h : WalAt w lb db L D F) : L.Ok := by
  obtain ⟨lv, G, h0, _⟩ := h
  exact h0
theorem WalAt.lt {w : World} {lb db : Nat} {L : LSt} {D : DSt} {F : Nat → Prop} (h : WalAt w lb db L D F) : ∀ k, F k → k < w.heap.size := by
  obtain ⟨lv, G, h0, h1, h2, h3, h4, h5, h6⟩ := h
  intro k hk
  rcases (h6 k).1 hk with rfl | hk | hk
  · exact h1.lt
  · exact h2.lt k hk
  · exact h3.lt k hk
theorem WalAt.upd {w w' : World} {lb db : Nat} {L : LSt} {D : DSt} {F H : Nat → Prop} (h : WalAt w lb db L D F) (hu : Upd H w w') (hf : ∀ k, F k → ¬ H k) : WalAt w' lb db L D F := by
  obtain ⟨lv, G, h0, h1, h2, h3, h4, h5, h6⟩ := h
  exact ⟨lv, G, h0, h1.upd hu (hf lb ((h6 lb).2 (.inl rfl))), h2.upd hu (fun k hk => hf k ((h6 k).2 (.inr (.inl hk)))), h3.upd hu (fun k hk => hf k ((h6 k).2 (.inr (.inr hk)))), h4, h5, h6⟩
/-- What a call leaves. -/
def WalPost (w : World) (lb db : Nat) (L : LSt) (D : DSt) (F : Nat → Prop) (w' : World) : Prop := ∃ F', WalAt w' lb db L D F' ∧ Upd F w w' ∧ (∀ k, F' k → F k ∨ w.heap.size ≤ k)
theorem walPost_of_raw {w w' : World} {lb db : Nat} {L : LSt} {lv : Value} {D : DSt} {F G : Nat → Prop} (hOk : L.Ok) (hm : Mid w' 2 lv L.list.length (listV L.list)) (h4 : ¬ G lb) (hlt : lb < w.heap.size) (hlvlt : ∀ k, lv.ownBlock = some k → k < w.heap.size)
    (h5 : ∀ k, lv.ownBlock = some k → ¬ G k ∧ k ≠ lb) (h6 : ∀ k, F k ↔ k = lb ∨ lv.ownBlock = some k ∨ G k) (h : RawPost w lb db L lv D G w') : WalPost w lb db L D F w' := by
  obtain ⟨G', r1, r2, r3, r4⟩ := h
  refine ⟨fun k => k = lb ∨ lv.ownBlock = some k ∨ G' k, ⟨lv, G', hOk, r1, hm, r2, ?_, ?_, fun k => Iff.rfl⟩, r3.mono (fun k _ hk => ?_), fun k hk => ?_⟩
  · intro hg
    rcases r4 _ hg with h | h
    · exact h4 h
    · omega
  · intro k hk
    refine ⟨fun hg => ?_, (h5 k hk).2⟩
    rcases r4 _ hg with h | h
    · exact (h5 k hk).1 h
    · have := hlvlt k hk; omega
  · rcases hk with rfl | hk
    · exact (h6 _).2 (.inl rfl)
    · exact (h6 _).2 (.inr (.inr hk))
  · rcases hk with rfl | hk | hk
    · exact .inl ((h6 _).2 (.inl rfl))
    · exact .inl ((h6 _).2 (.inr (.inl hk)))
    · rcases r4 _ hk with h | h
      · exact .inl ((h6 _).2 (.inr (.inr h)))
      · exact .inr h

theorem mark_fst (L : LSt) (D : DSt) : ∃ d, (L.mark D).1 = { L with dead := d } := by
  have hf : ∀ e, ∃ d, (L.fail e).1 = { L with dead := d } := by
    intro e
    unfold LSt.fail
    split
    · exact ⟨_, rfl⟩
    · exact ⟨_, rfl⟩
  unfold LSt.mark
  dsimp only
  split
  · exact hf _
  · exact hf _
theorem sync_nil (w : World) : Calls Try.prog 17 #[.pointer none] w fun e w' => e = .returned (.int .i64 2) ∧ w = w' := by
  go_enter Try.func17, Try.ntmps17
  go_wp2_with fail
  go_ret
  exact ⟨rfl, rfl⟩

set_option maxHeartbeats 1000000 in
theorem sync_ok {w : World} {lb db : Nat} {L : LSt} {D : DSt} {F : Nat → Prop} (h : WalAt w lb db L D F) (hwt : D.waits.length < 99999999990) :
    Calls Try.prog 17 #[.pointer (some ⟨lb, 0, none⟩)] w fun e w' => e = .returned (.int .i64 (L.sync D).2.2) ∧ WalPost w lb db (L.sync D).1 (L.sync D).2.1 F w' := by
  obtain ⟨lv, G, hOk, hC, hM, hD, hG, hlv, hF⟩ := id h
  obtain ⟨c0, c1, c2, c3, c4, c5, c6, c7, c8⟩ := nine hC
  obtain ⟨de, hde⟩ : ∃ de, L.dead = de := ⟨_, rfl⟩
  have hfr := hC.frozen
  have H := Lib.hid (And.intro hOk (And.intro hC (And.intro hM (And.intro hD (And.intro hG (And.intro hlv hF))))))
  have Hh := Lib.hid h
  have Hwt := Lib.hid hwt
  clear hOk hC hM hD hG hlv hF h hwt c1 c2 c3 c4 c5
  cases de with
  | true =>
    rw [hde] at c8
    have hs : L.sync D = (L, D, 10) := by rw [LSt.sync, if_pos hde]
    rw [hs]
    have Hde := Lib.hid hde
    clear hs hde c6 c7 hfr
    go_enter Try.func17, Try.ntmps17
    go_wp2_with fail
    go_ret
    exact ⟨rfl, F, Hh.out, Upd.refl _ _, fun k hk => .inl hk⟩
  | false =>
    rw [hde] at c8
    obtain ⟨⟨D1, r⟩, hfl⟩ : ∃ p, D.flush = p := ⟨_, rfl⟩
    have hs : L.sync D = if r = 0 then (if (({ L with synced := L.last } : LSt).mark D1).2.2 = 0 then (({ L with synced := L.last } : LSt).mark D1) else ({ (({ L with synced := L.last } : LSt).mark D1).1 with synced := L.synced }, (({ L with synced := L.last } : LSt).mark D1).2.1, (({ L with synced := L.last } : LSt).mark D1).2.2)) else ((L.fail r).1, D1, (L.fail r).2) := by
      unfold LSt.sync
      rw [if_neg (by rw [hde]; decide)]
      simp only [hfl]
    have Hde := Lib.hid hde
    have Hs := Lib.hid hs
    have Hfl := Lib.hid hfl
    clear hde hs hfl
    go_enter Try.func17, Try.ntmps17
    go_wp2_with fail
    refine (flush_disk H.out.2.2.2.1 (by have := Hwt.out; omega) Hfl.out).mono ?_
    rintro e w1 ⟨rfl, hD1, hu1⟩
    dsimp only
    have hC1 := H.out.2.1.upd hu1 H.out.2.2.2.2.1
    have hM1 := H.out.2.2.1.upd hu1 (fun k hk => (H.out.2.2.2.2.2.1 k hk).1)
    by_cases hr : r = 0
    · have hs := Hs.out
      rw [if_pos hr] at hs
      have Hs := Lib.hid hs
      subst hr
      obtain ⟨d0, d1, d2, d3, d4, d5, d6, d7, d8⟩ := nine hC1
      have hfr1 := hC1.frozen
      have H1 := Lib.hid (And.intro hD1 (And.intro hu1 (And.intro hC1 hM1)))
      clear hs hD1 hu1 hC1 hM1 c0 c6 c7 c8 hfr d0 d1 d2 d3 d4 d5 d8
      go_wp2_with fail
      have hC2 : Cells9 (w1.setCell ⟨lb, 7, none⟩ (.int .i64 L.last)) lb (preL { L with synced := L.last } db lv) := H1.out.2.2.1.set 7 (by decide) _
      have hu2 : Upd (fun k => k = lb) w1 (w1.setCell ⟨lb, 7, none⟩ (.int .i64 L.last)) := (Upd.refl _ _).setCell _ (.inl rfl)
      have hwt1 : D1.waits.length < 99999999990 := by
        have h1 := Hfl.out
        have h2 := Hwt.out
        unfold DSt.flush at h1
        split at h1
        · cases h1
        · split at h1
          · cases h1
          · cases h1; exact (by decide : (0 : Nat) < 99999999990)
      refine (mark_raw hC2 (H1.out.2.2.2.upd hu2 (fun k hk => (H.out.2.2.2.2.2.1 k hk).2)) H.out.1.synced_last (H1.out.1.upd hu2 (fun k hk e => H.out.2.2.2.2.1 (e ▸ hk))) H.out.2.2.2.2.1 H.out.2.2.2.2.2.1 hwt1).mono ?_
      rintro e w3 ⟨rfl, hraw⟩
      dsimp only
      obtain ⟨⟨L2, D2, r2⟩, hmk⟩ : ∃ p, ({ L with synced := L.last } : LSt).mark D1 = p := ⟨_, rfl⟩
      have hmok := (H.out.1.synced_last).mark D1
      rw [hmk] at hraw hmok
      have hs := Hs.out
      rw [hmk] at hs
      rw [hmk]
      dsimp only at hraw hs hmok ⊢
      have hlist : L2.list = L.list := by
        obtain ⟨d, h1⟩ := mark_fst ({ L with synced := L.last } : LSt) D1
        rw [hmk] at h1
        dsimp only at h1
        rw [h1]
      have hlast : L2.last = L.last := by
        obtain ⟨d, h1⟩ := mark_fst ({ L with synced := L.last } : LSt) D1
        rw [hmk] at h1
        dsimp only at h1
        rw [h1]
      have hun : Upd (fun k => k = lb ∨ G k) w w3 := by
        obtain ⟨G', r1, r2, r3, r4⟩ := hraw
        exact ((H1.out.2.1.mono (fun _ _ h => .inr h)).trans (hu2.mono (fun _ _ h => .inl h))).trans r3
      have hM3 : Mid w3 2 lv L2.list.length (listV L2.list) := by
        rw [hlist]
        refine H.out.2.2.1.upd hun (fun k hk h => ?_)
        rcases h with h | h
        · exact (H.out.2.2.2.2.2.1 k hk).2 h
        · exact (H.out.2.2.2.2.2.1 k hk).1 h
      have hraw' : RawPost w lb db L2 lv D2 G w3 := by
        obtain ⟨G', r1, r2, r3, r4⟩ := hraw
        refine ⟨G', r1, r2, hun, fun k hk => ?_⟩
        rcases r4 k hk with h | h
        · exact .inl h
        · have h1 := H1.out.2.1.size
          have h2 := hu2.size
          exact .inr (by omega)
      have H3 := Lib.hid (And.intro hraw' (And.intro hM3 (And.intro hlast hmok)))
      clear hraw hraw' hM3 hlist hlast hun hmk hwt1 hC2 hu2 hmok
      by_cases hr2 : r2 = 0
      · rw [if_pos hr2] at hs
        subst hr2
        have Hs := Lib.hid hs
        clear hs
        go_wp2_with fail
        go_ret
        rw [Hs.out]
        refine ⟨rfl, walPost_of_raw H3.out.2.2.2 H3.out.2.1 H.out.2.2.2.2.1 H.out.2.1.lt (fun k hk => H.out.2.2.1.lt k hk) H.out.2.2.2.2.2.1 H.out.2.2.2.2.2.2 H3.out.1⟩
      · rw [if_neg hr2] at hs
        have hne : (r2 != 0) = true := by simp [hr2]
        have Hs := Lib.hid hs
        have hfr3 : w3.frozen? ⟨lb, 7, none⟩ = false := by
          obtain ⟨G', r1, _⟩ := H3.out.1
          exact r1.frozen 7
        obtain ⟨v7, hv7⟩ : ∃ v, w3.cell? ⟨lb, 7, none⟩ = some v := by
          obtain ⟨G', r1, _⟩ := H3.out.1
          exact ⟨_, (nine r1).2.2.2.2.2.2.2.1⟩
        clear hs hr2
        go_wp2_with fail
        go_ret
        rw [Hs.out]
        have hsok : ({ L2 with synced := L.synced } : LSt).Ok := by
          have h1 := H3.out.2.2.2
          have h2 := H3.out.2.2.1
          exact ⟨h1.two, h1.fit, h1.start, h1.used, h1.sum, h1.needs, h1.nums, h1.last, by show L.synced ≤ L2.last; rw [h2]; exact H.out.1.synced⟩
        refine ⟨rfl, walPost_of_raw hsok ?_ H.out.2.2.2.2.1 H.out.2.1.lt (fun k hk => H.out.2.2.1.lt k hk) H.out.2.2.2.2.2.1 H.out.2.2.2.2.2.2 ?_⟩
        · exact H3.out.2.1.upd ((Upd.refl (fun k => k = lb) _).setCell _ (.inl rfl)) (fun k hk => (H.out.2.2.2.2.2.1 k hk).2)
        · obtain ⟨G', r1, r2', r3, r4⟩ := H3.out.1
          refine ⟨G', r1.set 7 (by decide) _, r2'.upd ((Upd.refl (fun k => k = lb) _).setCell _ (.inl rfl)) (fun k hk e => ?_), r3.setCell _ (.inl (.inl rfl)), r4⟩
          rcases r4 k hk with h | h
          · exact H.out.2.2.2.2.1 (e ▸ h)
          · have := H.out.2.1.lt; omega
    · have hs := Hs.out
      rw [if_neg hr] at hs
      have Hs := Lib.hid hs
      have hne : (r != 0) = true := by simp [hr]
      have H1 := Lib.hid (And.intro hD1 (And.intro hu1 (And.intro hC1 hM1)))
      clear hs hD1 hu1 hC1 hM1 c0 c6 c7 c8 hr hfr
      go_wp2_with fail
      refine (fail_log lb db L lv r _ H1.out.2.2.1).mono ?_
      rintro e w2 ⟨rfl, hu2, hC2⟩
      dsimp only
      have H2 := Lib.hid (And.intro hu2 hC2)
      clear hu2 hC2
      go_wp2_with fail
      go_ret
      rw [Hs.out]
      refine ⟨by rw [fail_snd]; rfl, walPost_of_raw (H.out.1.fail r) ?_ H.out.2.2.2.2.1 H.out.2.1.lt (fun k hk => H.out.2.2.1.lt k hk) H.out.2.2.2.2.2.1 H.out.2.2.2.2.2.2 ?_⟩
      · have hl : (L.fail r).1.list = L.list := by unfold LSt.fail; split <;> rfl
        rw [hl]
        exact H1.out.2.2.2.upd H2.out.1 (fun k hk => (H.out.2.2.2.2.2.1 k hk).2)
      · exact ⟨G, H2.out.2, H1.out.1.upd H2.out.1 (fun k hk e => H.out.2.2.2.2.1 (e ▸ hk)), (H1.out.2.1.mono (fun _ _ h => .inr h)).trans (H2.out.1.mono (fun _ _ h => .inl h)), fun k hk => .inl hk⟩
end Go.Proofs.Ytocameknhglklaa

/- docketlaw03.WalStill: its walk. -/
import Derived.Test.YtocameknhglklaaOpenW
import Derived.Test.YtocameknhglklaaWalRound
import Derived.Test.YtocameknhglklaaTold
namespace Go.Proofs.Ytocameknhglklaa
open Go.RowKit
set_option linter.unusedSimpArgs false
set_option linter.unusedVariables false
set_option maxRecDepth 100000

/-- The first loop: what was appended, and the list of it. -/
def StillR (w wr : World) (lb db k : Nat) (L : LSt) (D : DSt) (F : Nat → Prop) (all : List Batch) (al : Nat) (x : Option Addr) (c : Nat) (vs : List Value) : Prop :=
  Hist wr lb db L D F 0 all ∧ L.fr = 0 ∧ L.n = 40 ∧ D.waits.length ≤ 4096 * k ∧ D.secs.length = 40 ∧ all.length = al ∧ al ≤ k ∧ Upd (fun _ => False) w wr ∧ (∀ q, F q → w.heap.size ≤ q) ∧
    Mid wr 1 (.slice x al c) al vs ∧ RowsAt wr vs all (fun q => q < w.heap.size) ∧ (∀ q, (Value.slice x al c).ownBlock = some q → w.heap.size ≤ q ∧ ¬ F q)
theorem still_same {w wr w4 : World} {lb db k : Nat} {L : LSt} {D : DSt} {F : Nat → Prop} {all : List Batch} {al : Nat} {x : Option Addr} {c : Nat} {vs : List Value} (h : StillR w wr lb db k L D F all al x c vs)
    {F' : Nat → Prop} (hH : Hist w4 lb db L D F' 0 all) (hu : Upd F wr w4) (hF : ∀ k, F' k → F k ∨ wr.heap.size ≤ k) : StillR w w4 lb db (k + 1) L D F' all al x c vs := by
  obtain ⟨h1, h2, h3, h4, h5, h6, h7, h8, h9, h10, h11, h12⟩ := h
  have hz := h8.size
  refine ⟨hH, h2, h3, by omega, h5, h6, by omega, h8.then hu (fun q hq => .inr (h9 q hq)), fun q hq => ?_, h10.upd hu (fun q hq => (h12 q hq).2), h11.upd hu (fun q hq hf => by have := h9 q hf; omega), fun q hq => ⟨(h12 q hq).1, fun hf => ?_⟩⟩
  · rcases hF q hq with h | h
    · exact h9 q h
    · omega
  · rcases hF q hf with h | h
    · exact (h12 q hq).2 h
    · have := h10.lt q hq; omega
theorem still_step {w wr w4 w5 : World} {lb db k : Nat} {L : LSt} {D : DSt} {F : Nat → Prop} {all : List Batch} {al : Nat} {x : Option Addr} {c : Nat} {vs : List Value} (h : StillR w wr lb db k L D F all al x c vs)
    {b : Batch} {L' : LSt} {D' : DSt} {F' : Nat → Prop} (hH : Hist w4 lb db L' D' F' 0 (all ++ [b])) (hu : Upd F wr w4) (hF : ∀ k, F' k → F k ∨ wr.heap.size ≤ k) (hfr : L'.fr = L.fr) (hn : L'.n = L.n) (hw : D'.waits.length ≤ D.waits.length + 4096) (hs : D'.secs.length = D.secs.length)
    {o : Obj} {x' : Option Addr} {c' : Nat} {v : Value} (hm : Mid w5 1 (.slice x' (al + 1) c') (al + 1) (vs ++ [v])) (hu5 : Upd (fun q => (Value.slice x al c).ownBlock = some q) (w4.alloc o) w5)
    (hb : (Value.slice x' (al + 1) c').ownBlock = (Value.slice x al c).ownBlock ∨ (Value.slice x' (al + 1) c').ownBlock = some (w4.alloc o).heap.size)
    (hv : Sees w 1 v b.length (strsV b)) (hvl : ∀ q, v.ownBlock = some q → 0 < b.length → q < w.heap.size) : StillR w w5 lb db (k + 1) L' D' F' (all ++ [b]) (al + 1) x' c' (vs ++ [v]) := by
  obtain ⟨h1, h2, h3, h4, h5, h6, h7, h8, h9, h10, h11, h12⟩ := h
  have hz := h8.size
  have hz4 := hu.size
  have hFlt := hH.wal.lt
  have hF' : ∀ q, F' q → w.heap.size ≤ q := fun q hq => by
    rcases hF q hq with h | h
    · exact h9 q h
    · omega
  have hnF' : ∀ q, (Value.slice x al c).ownBlock = some q → ¬ F' q := fun q hq hf => by
    rcases hF q hf with h | h
    · exact (h12 q hq).2 h
    · have := h10.lt q hq; omega
  have hal : Upd (fun _ => False) w4 (w4.alloc o) := (Upd.refl _ w4).alloc o
  have hsz : w4.heap.size ≤ (w4.alloc o).heap.size := hal.size
  have hU4 : Upd (fun _ => False) w w4 := h8.then hu (fun q hq => .inr (h9 q hq))
  have hU5 : Upd (fun _ => False) w w5 := (hU4.trans hal).then hu5 (fun q hq => .inr (h12 q hq).1)
  have hr5 : RowsAt w5 vs all (fun q => q < w.heap.size) := ((h11.upd hu (fun q hq hf => by have := h9 q hf; omega)).upd hal (fun _ _ h => h)).upd hu5 (fun q hq hf => by have := (h12 q hf).1; omega)
  refine ⟨(hH.upd hal (fun _ _ h => h)).upd hu5 (fun q hq hf => hnF' q hf hq), hfr.trans h2, hn.trans h3, by omega, hs.trans h5, by simp [h6], by omega, hU5, hF', hm, hr5.snoc v b (hv.upd hU5 (fun _ _ _ h => h)) hvl (fun _ h => h), fun q hq => ?_⟩
  rcases hb with h | h
  · rw [h] at hq
    exact ⟨(h12 q hq).1, hnF' q hq⟩
  · rw [h] at hq
    cases hq
    refine ⟨by omega, fun hf => ?_⟩
    have := hFlt _ hf
    omega
/-- The second loop: a disk, and the list. -/
def StillO (w wr : World) (db rb st : Nat) (D : DSt) (G : Nat → Prop) (all : List Batch) (al : Nat) (x : Option Addr) (c : Nat) (vs : List Value) : Prop :=
  DiskAt wr db D G ∧ D.waits = [] ∧ D.dead = false ∧ D.fuel = -1 ∧ Good D.secs 0 40 st 1 al (seg all 0 al) ∧ all.length = al ∧ wr.cell? ⟨rb, 1, none⟩ = some (.slice x al c) ∧ ¬ G rb ∧
    Sees wr 1 (.slice x al c) al vs ∧ RowsAt wr vs all (fun q => q < w.heap.size) ∧ Upd (fun _ => False) w wr ∧ (∀ q, G q → w.heap.size ≤ q) ∧ (∀ q, (Value.slice x al c).ownBlock = some q → ¬ G q)
theorem still_upd {w wr w' : World} {db rb st : Nat} {D : DSt} {G : Nat → Prop} {all : List Batch} {al : Nat} {x : Option Addr} {c : Nat} {vs : List Value} (h : StillO w wr db rb st D G all al x c vs) (hu : Upd (fun _ => False) wr w') : StillO w w' db rb st D G all al x c vs := by
  obtain ⟨h1, h2, h3, h4, h5, h6, h7, h8, h9, h10, h11, h12, h13⟩ := h
  exact ⟨h1.upd hu (fun _ _ h => h), h2, h3, h4, h5, h6, hu.cell_some (a := ⟨rb, 1, none⟩) h7 (fun h => h), h8, h9.upd hu (fun _ _ _ h => h), h10.upd hu (fun _ _ h => h), h11.trans hu, h12, h13⟩
theorem still_crash {w wr w' : World} {db rb st : Nat} {D : DSt} {G : Nat → Prop} {all : List Batch} {al : Nat} {x : Option Addr} {c : Nat} {vs : List Value} (h : StillO w wr db rb st D G all al x c vs) {keep : List Bool} (hD : DiskAt w' db (D.crash keep) G) (hu : Upd G wr w') : StillO w w' db rb st D G all al x c vs := by
  obtain ⟨h1, h2, h3, h4, h5, h6, h7, h8, h9, h10, h11, h12, h13⟩ := h
  have e : D.crash keep = D := by
    obtain ⟨secs, waits, fuel, dead⟩ := D
    subst h2
    subst h3
    subst h4
    rfl
  rw [e] at hD
  have hz := h11.size
  exact ⟨hD, h2, h3, h4, h5, h6, hu.cell_some (a := ⟨rb, 1, none⟩) h7 h8, h8, h9.upd hu (fun q hq _ => h13 q hq), h10.upd hu (fun q hq hf => by have := h12 q hf; omega), h11.then hu (fun q hq => .inr (h12 q hq)), h12, h13⟩

set_option maxHeartbeats 2000000 in
theorem walStill_walk (xa : Option Addr) (xc : Nat) (bss : List Batch) (ka : Option Addr) (kc : Nat) (keep : List Bool) (w : World) (hB : BatchesAt w xa xc bss) (hke : Sees w 1 (.slice ka keep.length kc) keep.length (boolsV keep)) (hklt : ∀ x, ka = some x → 0 < keep.length → x.block < w.heap.size) :
    Calls Try.prog 5 #[.slice xa bss.length xc, .slice ka keep.length kc] w fun e w' => e = .returned (.bool true) ∧ Below w.heap.size w w' := by
  obtain ⟨ws, hS, hR, hxl, hmx⟩ := hB
  obtain ⟨m, hmm⟩ : ∃ m, bss.length = m := ⟨_, rfl⟩
  obtain ⟨kn, hkn⟩ : ∃ kn, keep.length = kn := ⟨_, rfl⟩
  have H := Lib.hid (And.intro hS (And.intro hR (And.intro hxl (And.intro hke (And.intro hklt (And.intro hmm hkn))))))
  rw [hmm, hkn]
  have hm := hS.2.1
  rw [hmm] at hm
  have hmI : (m : Int) ≤ 9223372036854775807 := by simp only [maxLen] at hm; omega
  clear hS hR hxl hmx hke hklt hmm hkn hm
  go_enter Try.func5, Try.ntmps5
  go_wp2_with fail
  refine (wal_fixed _).mono ?_
  rintro e w1 ⟨rfl, hu1⟩
  dsimp only
  have HU1 := Lib.hid hu1
  clear hu1
  by_cases hbig : 60 < m
  · have q0 : decide ((m : Int) > 60) = true := by simp; omega
    go_wp2_with fail
    refine (wal_fixed _).mono ?_
    rintro e w2 ⟨rfl, hu2⟩
    dsimp only
    have HU2 := Lib.hid (HU1.out.trans hu2)
    clear hu2
    go_wp2_with fail
    go_ret
    exact ⟨rfl, HU2.out.below0⟩
  have hms : m ≤ 60 := by omega
  have q0 : decide ((m : Int) > 60) = false := by simp; omega
  clear hbig
  go_wp2_with fail
  refine (new_disk 40 w1).mono ?_
  rintro e w2 ⟨db, F, rfl, hD, hu, hF⟩
  dsimp only
  have H2 := Lib.hid (And.intro hD (And.intro hu hF))
  clear hD hu hF
  have hnl := new_len 40 (by omega) (by omega) 40 rfl
  have Hnl := Lib.hid hnl
  clear hnl
  go_wp2_with fail
  refine (make_live H2.out.1 0 40 (by omega) (by rw [Hnl.out]; omega) (by show 0 < 99999999990; decide) rfl rfl 0 40 rfl rfl).mono ?_
  rintro e w3 ⟨lb, F3, rfl, hH, hu, hF, hwt, hsl⟩
  dsimp only
  have HR0 : Hid (StillR w w3 lb db 0 (LSt.made 0 40) (makeD (DSt.new 40) 0 40).1 F3 [] 0 none 0 []) := by
    have hz1 := HU1.out.size
    have hz2 := H2.out.2.1.size
    refine ⟨hH, rfl, rfl, by rw [hwt]; exact Nat.zero_le _, hsl.trans Hnl.out, rfl, Nat.le_refl _, (HU1.out.trans H2.out.2.1).then hu (fun k hk => .inr (by have := H2.out.2.2 k hk; omega)), fun k hk => ?_, Mid.nil _ _, RowsAt.nil _ _, fun q hq => by cases hq⟩
    rcases hF k hk with h | h
    · have := H2.out.2.2 k h; omega
    · omega
  clear hH hu hF hwt hsl H2 Hnl
  go_wp2_with fail
  go_loopw [8, 9] (fun t i wr => ∃ (k : Nat) (L : LSt) (D : DSt) (F : Nat → Prop) (all : List Batch) (al : Nat) (x : Option Addr) (c : Nat) (vs : List Value), k ≤ m ∧ i = .int .i64 k ∧ t = .slice x al c ∧ Hid (StillR w wr lb db k L D F all al x c vs)) (fun _ i _ => m - (intOf i).toNat)
  case atStart => exact ⟨0, _, _, _, _, _, _, _, _, Nat.zero_le _, rfl, rfl, HR0⟩
  case round =>
    clear HR0
    obtain ⟨k, L, D, F, all, al, x, c, vs, hk, rfl, rfl, HR⟩ := hrel
    by_cases hlt : k < m
    · obtain ⟨b, hbk⟩ : ∃ b, bss[k]'(by rw [H.out.2.2.2.2.2.1]; exact hlt) = b := ⟨_, rfl⟩
      obtain ⟨hS, hR, hxl, -, -, hmm, -⟩ := H.out
      have hkb : k < bss.length := by omega
      have hkv : k < ws.length := by rw [hR.1]; exact hkb
      have hrow := hR.2 k hkv hkb
      rw [hbk] at hrow
      obtain ⟨x1, c1, e1⟩ := hrow.1.shape
      rw [e1] at hrow
      have hU := HR.out.2.2.2.2.2.2.2.1
      obtain ⟨_, _, xo, cc, e', hcc⟩ := hS
      cases e'
      obtain ⟨gl, ol, rfl, hrr⟩ := hcc (by omega)
      have hca : w.cell? ⟨gl, ol + k, none⟩ = some (.slice x1 b.length c1) := by
        have := hrr k _ (List.getElem?_eq_getElem hkv)
        rw [e1] at this; exact this
      have hcell := hU.cell_some (a := ⟨gl, ol + k, none⟩) hca (fun h => h)
      have Hrow := Lib.hid (And.intro hrow hca)
      have hkm : (k : Int) < (m : Int) := by omega
      clear hR hxl hmm hkb hkv hrow e1 hU hcc hrr hbk hca
      go_wp2_with fail
      have hal := HR.out.2.2.2.2.2.2.1
      have hae := HR.out.2.2.2.2.2.1
      refine (hist_append HR.out.1 (by have := HR.out.2.2.2.1; omega) x1 c1 b (Hrow.out.1.1.upd HR.out.2.2.2.2.2.2.2.1 (fun _ _ _ h => h)) (fun y hy h0 hf => by
        have h3 := HR.out.2.2.2.2.2.2.2.2.1 _ hf
        have h4 := Hrow.out.1.2 y.block (by rw [hy]; rfl) h0
        omega) (by rw [hae]; omega)).mono ?_
      rintro e w4 ⟨a1, r1, rfl, hp⟩
      dsimp only
      rcases hp with ⟨hc0, hc1, ha1, hr1, F4, hH4, hu4, hF4⟩ | ⟨hc0, ha1, hr1, L4, D4, F4, hH4, hu4, hF4, hy4, hfr4, hn4, hw4, hs4⟩
      · have HR4 : Hid (StillR w w4 lb db (k + 1) L D F4 all al x c vs) := still_same HR.out hH4 hu4 hF4
        have q1 : (r1 == 0) = false := by rw [hr1]; simpa using hc0
        clear hal hae hc0 hc1 ha1 hr1 hH4 hu4 hF4 hcell
        go_wp2_with fail
        exact ⟨⟨k + 1, _, _, _, _, _, _, _, _, by omega, by go_num, rfl, HR4⟩, by simp [intOf]; omega⟩
      · subst hr1
        have H4 := Lib.hid (And.intro hH4 (And.intro hu4 (And.intro hF4 (And.intro hfr4 (And.intro hn4 (And.intro hw4 hs4))))))
        have hcell4 := (HR.out.2.2.2.2.2.2.2.1.then hu4 (fun q hq => .inr (HR.out.2.2.2.2.2.2.2.2.1 q hq))).cell_some (a := ⟨gl, ol + k, none⟩) Hrow.out.2 (fun h => h)
        have halb : al ≤ 60 := by omega
        have hxs := rangeAt_of_row (heap_alloc_new w4 (.cells ([.slice x1 b.length c1] : List Value).toArray 22)) (off := 0) (xs := [.slice x1 b.length c1]) rfl
        have hxm := (HR.out.2.2.2.2.2.2.2.2.2.1.upd hu4 (fun q hq => (HR.out.2.2.2.2.2.2.2.2.2.2.2 q hq).2)).upd ((Upd.refl (fun _ => False) w4).alloc (.cells ([.slice x1 b.length c1] : List Value).toArray 22)) (fun _ _ h => h)
        have Hxm := Lib.hid (And.intro hxm hxs)
        clear hal hae hc0 ha1 hH4 hu4 hF4 hy4 hfr4 hn4 hw4 hs4 hcell hxs hxm
        go_wp2_with ((with_reducible apply wpl_append_mid 22 1 24 _ (.slice x al c) al vs 1 [.slice x1 b.length c1]))
        · exact Try.underlying39
        · exact infoSS
        · rfl
        · rfl
        · exact Hxm.out.1
        · exact Sees.at rfl (by decide) Hxm.out.2
        · intro u hu; simp at hu; rw [hu]; rfl
        · unfold maxLen; omega
        · omega
        intro x2 c2 w5 hm5 hu5 hb5
        try (simp only [Act.put, List.setIfInBounds_toArray, List.set_cons_zero, List.set_cons_succ])
        have HR5 : Hid (StillR w w5 lb db (k + 1) L4 D4 F4 (all ++ [b]) (al + 1) x2 c2 (vs ++ [.slice x1 b.length c1])) :=
          still_step HR.out H4.out.1 H4.out.2.1 H4.out.2.2.1 H4.out.2.2.2.1 H4.out.2.2.2.2.1 H4.out.2.2.2.2.2.1 H4.out.2.2.2.2.2.2 hm5 hu5 hb5 Hrow.out.1.1 Hrow.out.1.2
        clear hm5 hu5 hb5 hcell4
        go_wp2_with fail
        exact ⟨⟨k + 1, _, _, _, _, _, _, _, _, by omega, by go_num, rfl, HR5⟩, by simp [intOf]; omega⟩
    · obtain rfl : k = m := by omega
      clear hlt
      go_wp2_with fail
      refine (hist_sync HR.out.1 (by have := HR.out.2.2.2.1; omega)).mono ?_
      rintro e w5 ⟨D5, F5, rfl, hH5, hu5, hF5, hw5⟩
      dsimp only
      have hS5 : Hid (Upd (fun _ => False) w w5 ∧ Mid w5 1 (.slice x al c) al vs ∧ RowsAt w5 vs all (fun q => q < w.heap.size) ∧ (∀ q, F5 q → w.heap.size ≤ q ∧ q < w5.heap.size) ∧ (∀ q, (Value.slice x al c).ownBlock = some q → ¬ F5 q) ∧ D5.waits = [] ∧ Hist w5 lb db { L with synced := all.length } D5 F5 0 all) := by
        obtain ⟨h1, h2, h3, h4, h5, h6, h7, h8, h9, h10, h11, h12⟩ := HR.out
        have hz := h8.size
        have hF : ∀ q, F5 q → w.heap.size ≤ q := fun q hq => by
          rcases hF5 q hq with h | h
          · exact h9 q h
          · omega
        refine ⟨h8.then hu5 (fun q hq => .inr (h9 q hq)), h10.upd hu5 (fun q hq => (h12 q hq).2), h11.upd hu5 (fun q hq hf => by have := h9 q hf; omega), fun q hq => ⟨hF q hq, hH5.wal.lt q hq⟩, fun q hq hf => ?_, hw5, hH5⟩
        rcases hF5 q hf with h | h
        · exact (h12 q hq).2 h
        · have := h10.lt q hq; omega
      have halb : al ≤ 60 := by have := HR.out.2.2.2.2.2.2.1; omega
      clear hH5 hu5 hF5 hw5
      go_wp2_with fail
      have hO : ∃ (rb st : Nat) (D : DSt) (G : Nat → Prop), rb = w5.heap.size ∧ Hid (StillO w (w5.alloc (.cells #[.int .i64 0, .slice x al c, .int .i64 0, .int .i64 0] 46)) db rb st D G all al x c vs) := by
        obtain ⟨h1, h2, h3, h4, h5, h6, h7⟩ := hS5.out
        obtain ⟨G, hG, hGF⟩ := h7.wal.disk
        have hlen := HR.out.2.2.2.2.2.1
        have hgood : Good D5.secs 0 40 L.start 1 al (seg all 0 al) := by
          have h := h7.inv.good
          have e1 : ({ L with synced := all.length } : LSt).fr = 0 := HR.out.2.1
          have e2 : ({ L with synced := all.length } : LSt).n = 40 := HR.out.2.2.1
          have e3 : ({ L with synced := all.length } : LSt).synced = al := hlen
          rw [e1, e2, e3] at h
          exact h
        have hal0 : Upd (fun _ => False) w5 (w5.alloc (.cells #[.int .i64 0, .slice x al c, .int .i64 0, .int .i64 0] 46)) := (Upd.refl _ w5).alloc _
        refine ⟨w5.heap.size, L.start, D5, G, rfl, hG.upd hal0 (fun _ _ h => h), h6, h7.inv.live, h7.fuel, hgood, hlen, ?_, fun hf => ?_, h2.sees.upd hal0 (fun _ _ _ h => h), h3.upd hal0 (fun _ _ h => h), h1.trans hal0, fun q hq => (h4 q (hGF q hq)).1, fun q hq hf => h5 q hq (hGF q hf)⟩
        · exact (rangeAt_of_row (heap_alloc_new w5 (.cells ([.int .i64 0, .slice x al c, .int .i64 0, .int .i64 0] : List Value).toArray 46)) (off := 0) (xs := [.int .i64 0, .slice x al c, .int .i64 0, .int .i64 0]) rfl) 1 _ rfl
        · have := (h4 _ (hGF _ hf)).2
          omega
      obtain ⟨rb, st, D, G, hrb, HO⟩ := hO
      rw [← hrb]
      clear hS5 hrb HR
      go_loopw [13] (fun t wr => ∃ (j : Nat), j ≤ 3 ∧ t = .int .i64 j ∧ Hid (StillO w wr db rb st D G all al x c vs)) (fun t _ => 3 - (intOf t).toNat)
      case atStart => exact ⟨0, Nat.zero_le _, rfl, HO⟩
      case round =>
        clear HO
        obtain ⟨j, hj, rfl, HO⟩ := hrel
        by_cases hlt : j < 3
        · have hj3 : (j : Int) < 3 := by omega
          go_wp2_with fail
          have hlen := HO.out.2.2.2.2.2.1
          refine (open_live HO.out.1 0 40 0 al st all (by rw [HO.out.2.1]; decide) HO.out.2.2.1 HO.out.2.2.2.1 (Nat.zero_le _) (by omega) HO.out.2.2.2.2.1 (fun p hp => by rw [HO.out.2.1] at hp; cases hp) 0 40 rfl rfl).mono ?_
          rintro e w8 ⟨lb2, x8, c8, rfl, F8, vs8, A8, hH8, hu8, hF8, hm8, hr8, -, -⟩
          dsimp only
          have HO8 : Hid (StillO w w8 db rb st D G all al x c vs) := still_upd HO.out hu8
          rw [Nat.sub_zero] at hm8 ⊢
          have hsg := seg_length (all := all) (T := 0) (s := al) (by omega)
          rw [Nat.sub_zero] at hsg
          have hm8' := hm8.sees
          have hcl := HO8.out.2.2.2.2.2.2.1
          have htold := told_ok (cl := c) (cg := c8) (xg := x8) (by rw [hlen]; exact hcl) (by rw [hlen]; exact HO8.out.2.2.2.2.2.2.2.2.1) HO8.out.2.2.2.2.2.2.2.2.2.1 (by rw [hsg]; exact hm8') hr8 1 al (Nat.le_refl _) (by rw [hsg]) (by omega) (by omega) (fun i h => by
            simp only [seg, List.drop_zero, List.getElem_take]
            congr 1
            omega) 1 (al : Int) rfl rfl
          rw [hsg] at htold
          have Htold := Lib.hid htold
          clear hlen hH8 hu8 hF8 hm8 hr8 hsg hm8' hcl htold HO
          go_wp2_with fail
          refine Htold.out.mono ?_
          rintro e w9 ⟨rfl, hu9⟩
          dsimp only
          have HO9 : Hid (StillO w w9 db rb st D G all al x c vs) := still_upd HO8.out hu9
          clear Htold HO8 hu9
          go_wp2_with fail
          obtain ⟨_, _, _, hke, hklt, _, hkn⟩ := H.out
          have hcr := crash_disk HO9.out.1 (by rw [HO9.out.2.1]; decide) ka kc keep (hke.upd HO9.out.2.2.2.2.2.2.2.2.2.2.1 (fun _ _ _ h => h)) (fun y hy h0 hf => by
            have h3 := HO9.out.2.2.2.2.2.2.2.2.2.2.2.1 _ hf
            have h4 := hklt y hy h0
            omega)
          rw [hkn] at hcr
          refine hcr.mono ?_
          rintro e w10 ⟨rfl, hD10, hu10⟩
          dsimp only
          have HO10 : Hid (StillO w w10 db rb st D G all al x c vs) := still_crash HO9.out hD10 hu10
          clear hke hklt hkn hcr hD10 hu10 HO9
          go_wp2_with fail
          exact ⟨⟨j + 1, by omega, by go_num, HO10⟩, by simp [intOf]; omega⟩
        · obtain rfl : j = 3 := by omega
          clear hlt
          go_wp2_with fail
          go_ret
          exact ⟨rfl, HO.out.2.2.2.2.2.2.2.2.2.2.1.below0⟩
end Go.Proofs.Ytocameknhglklaa

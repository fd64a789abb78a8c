/- docketlaw05.SpaceCounts: its walk. -/
import Derived.Test.YtndhcimepgcfaaaSpc1
import Derived.Test.YtndhcimepgcfaaaKLog
namespace Go.Proofs.Ytndhcimepgcfaaa
open Go Go.RowKit
set_option linter.unusedSimpArgs false
set_option linter.unusedVariables false
set_option maxRecDepth 100000
set_option maxHeartbeats 8000000 in
theorem spaceCounts_walk (bl : Nat) (hbl : bl ≤ 255) (xo : Option Addr) (xc : Nat) (ops : List Bool) (w : World) (hs : Sees w 1 (.slice xo ops.length xc) ops.length (boolsV ops)) :
    Calls Try.prog 3 #[.int .u8 bl, .slice xo ops.length xc] w fun e w' => e = .returned (.bool true) ∧ Below w.heap.size w w' := by
  obtain ⟨N, hN⟩ : ∃ N, 2 + bl = N := ⟨_, rfl⟩
  have hN2 : 2 ≤ N := by omega
  have hN3 : N ≤ 257 := by omega
  have hNI : 2 + (bl : Int) = (N : Int) := by omega
  have hbI : (bl : Int) ≤ 255 := by omega
  obtain ⟨m, hmm⟩ : ∃ m, ops.length = m := ⟨_, rfl⟩
  have hsm := hs.2.1
  have H := Lib.hid (And.intro hs hmm)
  rw [hmm] at hsm ⊢
  have hmI : (m : Int) ≤ 9223372036854775807 := by simp only [maxLen] at hsm; omega
  have hNb : (N : Int) ≤ 257 := by omega
  have hNb2 : (2 : Int) ≤ (N : Int) := by omega
  clear hs hmm hsm hN hbl
  go_enter Try.func3, Try.ntmps3
  go_wp2_with fail
  refine (sp_fixed w).mono ?_
  rintro e w1 ⟨rfl, hu1⟩
  dsimp only
  have HU1 := Lib.hid hu1
  clear hu1
  go_wp2_with fail
  try rw [hNI]
  refine (pages_ok N (by omega) (by omega) w1).mono ?_
  rintro e w2 ⟨pb, tb, rfl, hP⟩
  dsimp only
  have HP : Hid (PagesPost w1 N tb [] w2) := hP
  obtain ⟨pb', mb0, db, lb, fb, ot, D, G, HT⟩ := HP.out
  have HT := Lib.hid HT
  clear hP HP
  go_wp2_with fail
  try rw [hNI]
  refine (spmake_ok HT.out.1 (by omega) (N : Int) (by omega) (by omega)).mono ?_
  rintro e w3 ⟨rfl, hT3, hu3⟩
  dsimp only
  have H3 := Lib.hid (And.intro hT3 ((HU1.out.trans HT.out.2.1).then hu3 (fun q hq => .inr (by have := HT.out.2.2 q (.inr (.inr (.inl hq))); have := HU1.out.size; omega))))
  clear hT3 hu3 HT HU1
  go_wp2_with fail
  try rw [hNI]
  refine (spload_ok H3.out.1 (by omega) three (look_putB _ _ _) three_length N hN2 (by omega)).mono ?_
  rintro e w4 ⟨p, r, rfl, hp⟩
  obtain ⟨_, mb, rfl, rfl, hm, hM, hu4⟩ := Or.resolve_right hp (fun h => h.1 (good_three N hN2))
  dsimp only
  have hz := H3.out.2.size
  have HC0 : Hid (CountsM w w4 mb N three [] 0 none 0) := CountsM.start hM (H3.out.2.trans hu4) (by omega)
  clear hp hm hM hu4 H3 hz
  go_wp2_with fail
  go_loopw [10, 11] (fun t i wr => ∃ (k : Nat) (now : Bytes) (mine : List Nat) (ml : Nat) (x : Option Addr) (c : Nat), k ≤ m ∧ i = .int .i64 k ∧ t = .slice x ml c ∧ Hid (CountsM w wr mb N now mine ml x c)) (fun _ i _ => m - (intOf i).toNat)
  case atStart => exact ⟨0, _, _, _, _, _, Nat.zero_le _, rfl, rfl, HC0⟩
  case round =>
    clear HC0
    obtain ⟨k, now, mine, ml, x, c, hk, rfl, rfl, HC⟩ := hrel
    have hmax := HC.out.max hN2 (by omega)
    have hmlI : (ml : Int) ≤ 255 := by omega
    by_cases hlt : k < m
    · have hkm : (k : Int) < (m : Int) := by omega
      obtain ⟨hs, hmm⟩ := H.out
      obtain ⟨_, _, x', c', e', hc⟩ := hs.upd HC.out.upd (fun _ _ _ h => h)
      cases e'
      obtain ⟨gb, go, rfl, hrange⟩ := hc (by omega)
      obtain ⟨op, hop⟩ : ∃ op, ops[k]'(by omega) = op := ⟨_, rfl⟩
      have hcell : wr.cell? ⟨gb, go + k, none⟩ = some (.bool op) := hrange k _ (by simp [boolsV, hop, show k < ops.length by omega])
      clear hs hc hrange hop hmm
      cases op with
      | true =>
        go_wp2_with fail
        refine (mtake_ok HC.out.map (by omega)).mono ?_
        rintro e w5 ⟨a, r, rfl, hp⟩
        dsimp only
        rcases HC.out.taken hN2 (by omega) hp with ⟨h1, rfl, hu⟩ | ⟨h1, rfl, b, rfl, h2, h3, h4, hM5, hu5⟩
        · have HC5 : Hid (CountsM w w5 mb N now mine ml x c) := HC.out.step hu
          have e1 : ((ml : Int) == (N : Int) - 2) = true := by rw [beq_iff_eq]; omega
          have hus := mused_ok HC5.out.map
          rw [HC5.out.used] at hus
          have hus2 : ((2 + ml : Nat) : Int) = 2 + (ml : Int) := by omega
          rw [hus2] at hus
          have Hus := Lib.hid hus
          clear hp h1 hu HC hus hus2
          go_wp2_with fail
          refine Hus.out.mono ?_
          rintro e w6 ⟨rfl, rfl⟩
          dsimp only
          go_wp2_with fail
          exact ⟨⟨k + 1, _, _, _, _, _, by omega, by go_num, rfl, HC5⟩, by simp [intOf]; omega⟩
        · have e1 : ((ml : Int) == (N : Int) - 2) = false := by rw [beq_eq_false_iff_ne]; omega
          have hbI2 : (b : Int) ≤ 257 := by omega
          have H5 := Lib.hid (And.intro h2 (And.intro h3 (And.intro h4 (And.intro hM5 hu5))))
          have hmid := (HC.out.mid.upd hu5 (fun q hq => (HC.out.own q hq).2)).upd ((Upd.refl (fun _ => False) w5).alloc (.cells ([.int .i64 (b : Int)] : List Value).toArray 3)) (fun _ _ h => h)
          have hxs := rangeAt_of_row (heap_alloc_new w5 (.cells ([.int .i64 (b : Int)] : List Value).toArray 3)) (off := 0) (xs := [.int .i64 (b : Int)]) rfl
          have Hxm := Lib.hid (And.intro hmid hxs)
          clear hp h1 h2 h3 h4 hM5 hu5 hmid hxs
          go_wp2_with ((with_reducible apply wpl_append_mid 3 1 8 _ (.slice x ml c) ml (intsV mine) 1 [.int .i64 (b : Int)]))
          · exact Try.underlying33
          · exact infoInt
          · rfl
          · rfl
          · exact Hxm.out.1
          · exact Sees.at rfl (by decide) Hxm.out.2
          · intro u hu; simp at hu; rw [hu]; rfl
          · unfold maxLen; omega
          · omega
          intro x2 c2 w6 hm6 hu6 hb6
          try (simp only [Act.put, List.setIfInBounds_toArray, List.set_cons_zero, List.set_cons_succ])
          have HC6 : Hid (CountsM w w6 mb N (setB now b) (mine ++ [b]) (ml + 1) x2 c2) := HC.out.app (by omega) H5.out.1 H5.out.2.1 H5.out.2.2.1 H5.out.2.2.2.1 H5.out.2.2.2.2 (by simpa [intsV] using hm6) hu6 hb6
          have hus := mused_ok HC6.out.map
          rw [HC6.out.used] at hus
          have hus2 : ((2 + (ml + 1) : Nat) : Int) = 2 + ((ml : Int) + 1) := by omega
          rw [hus2] at hus
          have Hus := Lib.hid hus
          clear hm6 hu6 hb6 HC hus hus2 H5 Hxm
          go_wp2_with fail
          refine Hus.out.mono ?_
          rintro e w7 ⟨rfl, rfl⟩
          dsimp only
          go_wp2_with fail
          exact ⟨⟨k + 1, _, _, _, _, _, by omega, by go_num, rfl, HC6⟩, by simp [intOf]; omega⟩
      | false =>
        cases mine with
        | nil =>
          have hml : ml = 0 := by have := HC.out.len; simpa using this.symm
          subst hml
          have hus := mused_ok HC.out.map
          rw [HC.out.used] at hus
          have Hus := Lib.hid hus
          clear hus
          go_wp2_with fail
          refine Hus.out.mono ?_
          rintro e w7 ⟨rfl, rfl⟩
          dsimp only
          go_wp2_with fail
          exact ⟨⟨k + 1, _, _, _, _, _, by omega, by go_num, rfl, HC⟩, by simp [intOf]; omega⟩
        | cons b r =>
          obtain ⟨l1, rfl⟩ : ∃ l1, ml = l1 + 1 := ⟨r.length, by have := HC.out.len; simpa using this.symm⟩
          have hx : ∃ g off, x = some ⟨g, off, none⟩ ∧ l1 + 1 ≤ c ∧ wr.cell? ⟨g, off, none⟩ = some (.int .i64 (b : Int)) := by
            obtain ⟨_, ⟨_, e⟩ | ⟨g, off, cap, e, e1, e2, e3, e4, e5⟩⟩ := HC.out.mid
            · omega
            · cases e
              exact ⟨g, off, rfl, e1, e4 0 _ rfl⟩
          obtain ⟨g, off, rfl, hcap, hcb⟩ := hx
          obtain ⟨c1, rfl⟩ : ∃ c1, c = c1 + 1 := ⟨c - 1, by omega⟩
          have hb := HC.out.rng b List.mem_cons_self
          have hbI2 : (b : Int) ≤ 257 := by omega
          have hgm : g ≠ mb := (HC.out.own g rfl).2
          have hhas : hasM N now (b : Int) = true := by
            have := HC.out.has b (by omega)
            simp [hasM, this]; omega
          have hfr := free_good HC.out.map (by omega) (b : Int) (by omega) hhas
          rw [Int.toNat_natCast] at hfr
          have Hfr := Lib.hid (And.intro hfr (And.intro hb hgm))
          have hml2 : (((l1 + 1 : Nat) : Int) > 0) := by omega
          obtain ⟨o', ho'⟩ : ∃ o', (if c1 + 1 = 1 then off else off + 1) = o' := ⟨_, rfl⟩
          have hsl : ∀ u, (Instr.slice 33 (.slice (some ⟨g, off, none⟩) (l1 + 1) (c1 + 1)) (some (.int .i64 1)) none none).run Try.prog u = .ok (.slice (some ⟨g, o', none⟩) l1 c1) u := fun u =>
            slice_fromA 33 3 Try.underlying33 (by kernel_rfl) g off (l1 + 1) (c1 + 1) 1 1 l1 c1 o' rfl (by omega) (by omega) (by omega) ho' u
          clear hfr hb hhas
          go_wp2_with fail
          refine Hfr.out.1.mono ?_
          rintro e w5 ⟨rfl, hM5, hu5⟩
          dsimp only
          have hcb5 := hu5.cell_some (a := ⟨g, off, none⟩) hcb Hfr.out.2.2
          have HC5 : Hid (CountsM w w5 mb N (cutB now b) r l1 (some ⟨g, o', none⟩) c1) := HC.out.back (by omega) rfl hM5 hu5 rfl ho'
          have hbad := free_bad HC5.out.map (by omega) (b : Int) (.inr (by
            have := Hfr.out.2.1
            simp [hasM, has_cut now HC.out.map.l1 b b (by omega)]))
          have hus := mused_ok HC5.out.map
          rw [HC5.out.used] at hus
          have hus2 : ((2 + l1 : Nat) : Int) = 2 + (l1 : Int) := by omega
          rw [hus2] at hus
          have Hus := Lib.hid (And.intro hus hbad)
          clear hM5 hu5 hbad hus hus2 HC hcb ho'
          go_wp2_with fail
          refine Hus.out.2.mono ?_
          rintro e w6 ⟨rfl, rfl⟩
          dsimp only
          go_wp2_with fail
          refine Hus.out.1.mono ?_
          rintro e w6 ⟨rfl, rfl⟩
          dsimp only
          go_wp2_with fail
          exact ⟨⟨k + 1, _, _, _, _, _, by omega, by go_num, rfl, HC5⟩, by simp [intOf]; omega⟩
    · obtain rfl : k = m := by omega
      clear hlt
      go_wp2_with fail
      go_loop [14] (fun i => ∃ j : Nat, j ≤ ml ∧ i = .int .i64 j) (fun i => ml - (intOf i).toNat)
      case atStart => exact ⟨0, Nat.zero_le _, rfl⟩
      case round =>
        obtain ⟨j, hj, rfl⟩ := hrel
        by_cases hlj : j < ml
        · have hjl : j < mine.length := by rw [HC.out.len]; exact hlj
          have hjI : (j : Int) < (ml : Int) := by omega
          obtain ⟨b, hb⟩ : ∃ b, mine[j] = b := ⟨_, rfl⟩
          have hx : ∃ g off, x = some ⟨g, off, none⟩ ∧ wr.cell? ⟨g, off + j, none⟩ = some (.int .i64 (b : Int)) := by
            obtain ⟨_, ⟨_, e⟩ | ⟨g, off, cap, e, e1, e2, e3, e4, e5⟩⟩ := HC.out.mid
            · omega
            · cases e
              exact ⟨g, off, rfl, e4 j _ (by simp [intsV, hb, hjl])⟩
          obtain ⟨g, off, rfl, hcb⟩ := hx
          have hmem : b ∈ mine := hb ▸ List.getElem_mem hjl
          have hrng := HC.out.rng b hmem
          have hbI2 : (b : Int) ≤ 257 := by omega
          have hh := mhas_ok HC.out.map (by omega) (b : Int)
          rw [show hasM N now (b : Int) = true by have := HC.out.has b (by omega); simp [hasM, this, hmem]; omega] at hh
          have Hh := Lib.hid hh
          clear hh hmem hrng hb hjl
          go_wp2_with fail
          refine Hh.out.mono ?_
          rintro e w5 ⟨rfl, rfl⟩
          dsimp only
          go_wp2_with fail
          exact ⟨⟨j + 1, by omega, by go_num⟩, by simp [intOf]; omega⟩
        · obtain rfl : j = ml := by omega
          have h0 := mhas_ok HC.out.map (by omega) 0
          have h1 := mhas_ok HC.out.map (by omega) 1
          rw [show hasM N now 0 = true by have := HC.out.has 0 (by omega); simp [hasM, this]; omega] at h0
          rw [show hasM N now 1 = true by have := HC.out.has 1 (by omega); simp [hasM, this]; omega] at h1
          have Hh := Lib.hid (And.intro h0 h1)
          clear h0 h1 hlj
          go_wp2_with fail
          refine Hh.out.1.mono ?_
          rintro e w5 ⟨rfl, rfl⟩
          dsimp only
          go_wp2_with fail
          refine Hh.out.2.mono ?_
          rintro e w5 ⟨rfl, rfl⟩
          dsimp only
          go_wp2_with fail
          go_ret
          exact ⟨rfl, HC.out.upd.below0⟩
end Go.Proofs.Ytndhcimepgcfaaa

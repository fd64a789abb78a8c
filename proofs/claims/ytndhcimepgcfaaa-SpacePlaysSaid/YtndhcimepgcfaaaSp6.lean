/- docketlaw05.fixed. -/
import Derived.Test.YtndhcimepgcfaaaSp5
namespace Go.Proofs.Ytndhcimepgcfaaa
open Go Go.RowKit
set_option linter.unusedSimpArgs false
set_option linter.unusedVariables false
set_option maxRecDepth 100000
/-- A Take, where the least free block is known. -/
theorem take_least {w : World} {mb N : Nat} {now old : Bytes} (h : MapS w mb N now old) (hN : N ≤ 4096) (b : Nat) (hb : b < N) (hf : Free2 now old b = true) (hl : ∀ c, c < b → Free2 now old c = false) :
    Calls Try.prog 12 #[.pointer (some ⟨mb, 0, none⟩)] w fun e w' => e = .returned (.tuple #[.int .i64 b, .int .i64 0]) ∧ MapS w' mb N (setB now b) old ∧ Upd (fun q => q = mb) w w' := by
  refine (mtake_ok h hN).mono ?_
  rintro e w' ⟨a, r, rfl, ⟨b', h1, h2, h3, rfl, rfl, h4, h5⟩ | ⟨h1, _⟩⟩
  · have : b' = b := by
      rcases Nat.lt_trichotomy b' b with h | h | h
      · rw [hl b' h] at h2; cases h2
      · exact h
      · rw [h3 b h] at hf; cases hf
    subst this
    exact ⟨rfl, h4, h5⟩
  · rw [h1 b hb] at hf; cases hf
theorem free_good {w : World} {mb N : Nat} {now old : Bytes} (h : MapS w mb N now old) (hN : N ≤ 4096) (b : Int) (h2 : 2 ≤ b) (hh : hasM N now b = true) : Calls Try.prog 13 #[.pointer (some ⟨mb, 0, none⟩), .int .i64 b] w fun e w' => e = .returned (.int .i64 0) ∧ MapS w' mb N (cutB now b.toNat) old ∧ Upd (fun q => q = mb) w w' := by
  refine (mfree_ok h hN b).mono ?_
  rintro e w' ⟨r, rfl, ⟨h1, _⟩ | ⟨_, _, rfl, h4, h5⟩⟩
  · rcases h1 with h1 | h1
    · omega
    · rw [hh] at h1; cases h1
  · exact ⟨rfl, h4, h5⟩
theorem free_bad {w : World} {mb N : Nat} {now old : Bytes} (h : MapS w mb N now old) (hN : N ≤ 4096) (b : Int) (hh : b < 2 ∨ hasM N now b = false) : Calls Try.prog 13 #[.pointer (some ⟨mb, 0, none⟩), .int .i64 b] w fun e w' => e = .returned (.int .i64 1) ∧ w = w' := by
  refine (mfree_ok h hN b).mono ?_
  rintro e w' ⟨r, rfl, ⟨_, rfl, rfl⟩ | ⟨h1, h2, _⟩⟩
  · exact ⟨rfl, rfl⟩
  · rcases hh with h | h
    · omega
    · rw [h2] at h; cases h
set_option maxHeartbeats 4000000 in
theorem sp_fixed (w : World) : Calls Try.prog 8 #[] w fun e w' => e = .returned (.bool true) ∧ Upd (fun _ => False) w w' := by
  go_enter Try.func8, Try.ntmps8
  go_wp2_with fail
  refine (pages_ok 10 (by decide) (by decide) w).mono ?_
  rintro e w1 ⟨pb, tb, rfl, hP⟩
  dsimp only
  have HP : Hid (PagesPost w 10 tb [] w1) := hP
  obtain ⟨pb', mb, db, lb, fb, ot, D, G, HT⟩ := HP.out
  have HT := Lib.hid HT
  clear hP HP
  go_wp2_with fail
  refine (spmake_ok HT.out.1 (by decide) 10 (by decide) (by decide)).mono ?_
  rintro e w2 ⟨rfl, hT2, hu2⟩
  dsimp only
  have H2 := Lib.hid (And.intro hT2 (HT.out.2.1.then hu2 (fun q hq => .inr (HT.out.2.2 q (.inr (.inr (.inl hq)))))))
  clear hT2 hu2
  go_wp2_with fail
  refine (spload_ok H2.out.1 (by decide) three (look_putB _ _ _) three_length 10 (by decide) (by decide)).mono ?_
  rintro e w3 ⟨p, r, rfl, hp⟩
  obtain ⟨_, m, rfl, rfl, hm, hM, hu3⟩ := Or.resolve_right hp (fun h => h.1 (good_three 10 (by decide)))
  dsimp only
  have hz := H2.out.2.size
  have H3 := Lib.hid (And.intro hM (And.intro (H2.out.2.trans hu3) (show w.heap.size ≤ m by omega)))
  clear hm hM hu3 H2 HT hz
  go_wp2_with fail
  have hus := mused_ok H3.out.1
  rw [used_three] at hus
  refine hus.mono ?_
  clear hus
  rintro e w4 ⟨rfl, rfl⟩
  dsimp only
  go_wp2_with fail
  refine (take_least H3.out.1 (by decide) 2 (by decide) (by simp [Free2, has_three]) (fun c hc => by simp [Free2, has_three]; omega)).mono ?_
  rintro e w4 ⟨rfl, hM4, hu4⟩
  dsimp only
  have H4 := Lib.hid (And.intro hM4 (H3.out.2.1.then hu4 (fun q hq => .inr (by have := H3.out.2.2; omega))))
  have hm := H3.out.2.2
  clear hM4 hu4 H3
  go_wp2_with fail
  refine (take_least H4.out.1 (by decide) 3 (by decide) (by simp [Free2, has_three, has_set _ three_length]) (fun c hc => by simp [Free2, has_three, has_set _ three_length]; omega)).mono ?_
  rintro e w5 ⟨rfl, hM5, hu5⟩
  dsimp only
  have H5 := Lib.hid (And.intro hM5 (H4.out.2.then hu5 (fun q hq => .inr (by omega))))
  clear hM5 hu5 H4
  go_wp2_with fail
  have hl3 : (setB three 2).length = 512 := (setB_length _ _).trans three_length
  have hl4 : (setB (setB three 2) 3).length = 512 := (setB_length _ _).trans hl3
  have Hl := Lib.hid (And.intro hl3 hl4)
  clear hl3 hl4
  refine (free_good H5.out.1 (by decide) 2 (by decide) (by simp [hasM, has_set _ Hl.out.1, has_set _ three_length])).mono ?_
  rintro e w6 ⟨rfl, hM6, hu6⟩
  dsimp only
  have H6 := Lib.hid (And.intro hM6 (H5.out.2.then hu6 (fun q hq => .inr (by omega))))
  clear hM6 hu6 H5
  go_wp2_with fail
  have hh3 := mhas_ok H6.out.1 (by decide) 3
  rw [show hasM 10 (cutB (setB (setB three 2) 3) (2 : Int).toNat) 3 = true by simp [hasM, has_cut _ Hl.out.2, has_set _ Hl.out.1]] at hh3
  refine hh3.mono ?_
  clear hh3
  rintro e w7 ⟨rfl, rfl⟩
  dsimp only
  go_wp2_with fail
  have hh2 := mhas_ok H6.out.1 (by decide) 2
  rw [show hasM 10 (cutB (setB (setB three 2) 3) (2 : Int).toNat) 2 = false by simp [hasM, has_cut _ Hl.out.2]] at hh2
  refine hh2.mono ?_
  clear hh2
  rintro e w7 ⟨rfl, rfl⟩
  dsimp only
  go_wp2_with fail
  refine (free_bad H6.out.1 (by decide) 1 (.inl (by decide))).mono ?_
  rintro e w7 ⟨rfl, rfl⟩
  dsimp only
  go_wp2_with fail
  go_ret
  exact ⟨rfl, H6.out.2⟩
end Go.Proofs.Ytndhcimepgcfaaa

/- uri: segment, Good, bare, digit, plain, Within. -/
import Derived.Test.YtbhmeagliebfdaaDoorGs4
namespace Go.Proofs.YtbhmeagliebfdaaDoor
open Go Go.RowKit
set_option linter.unusedSimpArgs false
set_option linter.unusedVariables false
set_option maxRecDepth 100000
theorem bs_nil_iff (s : By) : (bs s).toList.isEmpty = decide (s = []) := by
  rw [Lib.toList_data, bs_data]
  cases s <;> simp
theorem bs_beq (s t : By) : ((bs s).toList == t) = decide (s = t) := by
  rw [Lib.toList_data, bs_data]
  by_cases h : s = t
  · simp [h]
  · simp [h]
theorem bs_eq_iff (s t : By) : (bs s = bs t) ↔ s = t := ⟨bs_inj, fun h => by rw [h]⟩
theorem segment_ok {w : World} (s : By) (hs : s.length ≤ maxLen) (hG : Glob w) :
    Calls Tryd.prog 27 #[.string (bs s)] w fun e w' => e = .returned (.bool (segP s)) ∧ Upd (fun _ => False) w w' := by
  obtain ⟨S, hS⟩ : ∃ S, bs s = S := ⟨_, rfl⟩
  have hsz := bs_size s
  have n1 := bs_nil_iff s
  have n2 := bs_beq s [46]
  have n3 := bs_beq s [46, 46]
  have hv := valid_ok s (by unfold maxLen at hs; omega) hG
  rw [hS] at hsz n1 n2 n3 hv ⊢
  have Hc : Hid (s.length ≤ 64 → ∀ w, Calls Tryd.prog 34 #[.string S, .string ⟨#[47, 0]⟩] w fun e w' => e = .returned (.bool (slP s)) ∧ Upd (fun _ => False) w w') := Lib.hid (fun h w => by rw [← hS]; exact cany_sl s (by omega) w)
  have Hv := Lib.hid hv
  have Hs := Lib.hid hsz
  clear hv hG hS
  by_cases h1 : s = []
  · rw [decide_eq_true h1] at n1
    have hr : segP s = false := by rw [h1]; rfl
    rw [hr]
    clear h1 n2 n3 hsz
    go_enter Tryd.func27, Tryd.ntmps27
    go_wp2_with fail
    go_ret
    exact ⟨rfl, Upd.refl _ _⟩
  by_cases h2 : s = [46]
  · rw [decide_eq_true h2] at n2
    rw [decide_eq_false h1] at n1
    have hr : segP s = false := by rw [h2]; rfl
    rw [hr]
    clear h1 h2 n3 hsz
    go_enter Tryd.func27, Tryd.ntmps27
    go_wp2_with fail
    go_ret
    exact ⟨rfl, Upd.refl _ _⟩
  by_cases h3 : s = [46, 46]
  · rw [decide_eq_true h3] at n3
    rw [decide_eq_false h1] at n1
    rw [decide_eq_false h2] at n2
    have hr : segP s = false := by rw [h3]; rfl
    rw [hr]
    clear h1 h2 h3 hsz
    go_enter Tryd.func27, Tryd.ntmps27
    go_wp2_with fail
    go_ret
    exact ⟨rfl, Upd.refl _ _⟩
  rw [decide_eq_false h1] at n1
  rw [decide_eq_false h2] at n2
  rw [decide_eq_false h3] at n3
  by_cases h4 : s.length ≤ 64
  · have hr : segP s = (Lib.validD s && !slP s) := by simp [segP, saneP, slP, h1, h2, h3, h4]
    rw [hr]
    have h4I : (S.size : Int) ≤ 64 := by omega
    have hc := Hc.out h4
    have Hc2 := Lib.hid hc
    clear h1 h2 h3 hsz Hc hc hr h4
    cases hvd : Lib.validD s
    · rw [hvd] at Hv
      clear hvd
      go_enter Tryd.func27, Tryd.ntmps27
      go_wp2_with fail
      refine Hv.out.mono ?_
      rintro e w1 ⟨rfl, hu⟩
      dsimp only
      go_wp2_with fail
      go_ret
      exact ⟨rfl, hu⟩
    · rw [hvd] at Hv
      clear hvd
      go_enter Tryd.func27, Tryd.ntmps27
      go_wp2_with fail
      refine Hv.out.mono ?_
      rintro e w1 ⟨rfl, hu⟩
      dsimp only
      go_wp2_with fail
      refine (Hc2.out w1).mono ?_
      rintro e w2 ⟨rfl, hu2⟩
      dsimp only
      go_wp2_with fail
      go_ret
      exact ⟨rfl, hu.trans hu2⟩
  · have hr : segP s = false := by simp [segP, h4]
    rw [hr]
    have h4I : (64 : Int) < (S.size : Int) := by omega
    clear h1 h2 h3 hsz Hc hr h4
    go_enter Tryd.func27, Tryd.ntmps27
    go_wp2_with fail
    go_ret
    exact ⟨rfl, Upd.refl _ _⟩
end Go.Proofs.YtbhmeagliebfdaaDoor

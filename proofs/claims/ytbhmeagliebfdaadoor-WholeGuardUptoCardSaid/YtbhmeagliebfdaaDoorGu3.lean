/- uri: bare, digit, Within. -/
import Derived.Test.YtbhmeagliebfdaaDoorGu2
namespace Go.Proofs.YtbhmeagliebfdaaDoor
open Go Go.RowKit
set_option linter.unusedSimpArgs false
set_option linter.unusedVariables false
set_option maxRecDepth 100000
theorem idx_bare (c : UInt8) : decide ((0 : Int) ≤ Lib.indexByte [45, 46, 95, 126] c) = decide (c = 45 ∨ c = 46 ∨ c = 95 ∨ c = 126) := by
  by_cases h1 : c = 45
  · subst h1; rfl
  by_cases h2 : c = 46
  · subst h2; rfl
  by_cases h3 : c = 95
  · subst h3; rfl
  by_cases h4 : c = 126
  · subst h4; rfl
  have e1 : ((45 : UInt8) == c) = false := beq_eq_false_iff_ne.2 (fun e => h1 e.symm)
  have e2 : ((46 : UInt8) == c) = false := beq_eq_false_iff_ne.2 (fun e => h2 e.symm)
  have e3 : ((95 : UInt8) == c) = false := beq_eq_false_iff_ne.2 (fun e => h3 e.symm)
  have e4 : ((126 : UInt8) == c) = false := beq_eq_false_iff_ne.2 (fun e => h4 e.symm)
  simp [Lib.indexByte, e1, e2, e3, e4, h1, h2, h3, h4]
theorem bare_ok (c : UInt8) (w : World) : Calls Tryd.prog 14 #[.int .u8 (c.toNat : Nat)] w fun e w' => e = .returned (.bool (bareP c)) ∧ w' = w := by
  have hib := indexByte_ok [45, 46, 95, 126] c w
  have hd := idx_bare c
  obtain ⟨y, hy⟩ : ∃ y, Lib.indexByte [45, 46, 95, 126] c = y := ⟨_, rfl⟩
  rw [hy] at hib hd
  have Hb : Hid (bareP c = (decide (97 ≤ c.toNat ∧ c.toNat ≤ 122) || decide (65 ≤ c.toNat ∧ c.toNat ≤ 90) || decide (48 ≤ c.toNat ∧ c.toNat ≤ 57) || decide ((0 : Int) ≤ y))) := Lib.hid (by rw [hd]; rfl)
  have Hib := Lib.hid hib
  clear hib hd hy
  obtain ⟨z, hz⟩ : ∃ z : Nat, c.toNat = z := ⟨_, rfl⟩
  rw [hz] at Hb Hib ⊢
  by_cases a1 : 97 ≤ z ∧ z ≤ 122
  · have i1 : (97 : Int) ≤ (z : Int) := by omega
    have i2 : (z : Int) ≤ 122 := by omega
    have Hr : Hid (bareP c = true) := Lib.hid (by rw [Hb.out, decide_eq_true a1]; rfl)
    clear a1 hz Hb Hib
    go_enter Tryd.func14, Tryd.ntmps14
    go_wp2_with fail
    go_ret
    exact ⟨by rw [Hr.out]; rfl, rfl⟩
  by_cases a2 : 65 ≤ z ∧ z ≤ 90
  · have i1 : ¬ ((97 : Int) ≤ (z : Int)) := by omega
    have i2 : (65 : Int) ≤ (z : Int) := by omega
    have i3 : (z : Int) ≤ 90 := by omega
    have Hr : Hid (bareP c = true) := Lib.hid (by rw [Hb.out, decide_eq_true a2]; simp)
    clear a1 a2 hz Hb Hib
    go_enter Tryd.func14, Tryd.ntmps14
    go_wp2_with fail
    go_ret
    exact ⟨by rw [Hr.out]; rfl, rfl⟩
  by_cases a3 : 48 ≤ z ∧ z ≤ 57
  · have i1 : ¬ ((97 : Int) ≤ (z : Int)) := by omega
    have i2 : ¬ ((65 : Int) ≤ (z : Int)) := by omega
    have i3 : (48 : Int) ≤ (z : Int) := by omega
    have i4 : (z : Int) ≤ 57 := by omega
    have Hr : Hid (bareP c = true) := Lib.hid (by rw [Hb.out, decide_eq_true a3]; simp)
    clear a1 a2 a3 hz Hb Hib
    go_enter Tryd.func14, Tryd.ntmps14
    go_wp2_with fail
    go_ret
    exact ⟨by rw [Hr.out]; rfl, rfl⟩
  have Hr : Hid (bareP c = decide ((0 : Int) ≤ y)) := Lib.hid (by rw [Hb.out, decide_eq_false a1, decide_eq_false a2, decide_eq_false a3]; rfl)
  have HA := Lib.hid (And.intro a1 (And.intro a2 a3))
  clear hz Hb a1 a2 a3
  rcases (by have := HA.out; omega : z < 48 ∨ (57 < z ∧ z < 65) ∨ (90 < z ∧ z < 97) ∨ 122 < z) with h | h | h | h
  · have i1 : ¬ ((97 : Int) ≤ (z : Int)) := by omega
    have i2 : ¬ ((65 : Int) ≤ (z : Int)) := by omega
    have i3 : ¬ ((48 : Int) ≤ (z : Int)) := by omega
    clear h
    go_enter Tryd.func14, Tryd.ntmps14
    go_wp2_with fail
    refine Hib.out.mono ?_
    rintro e w1 ⟨rfl, rfl⟩
    dsimp only
    go_wp2_with fail
    go_ret
    exact ⟨by rw [Hr.out]; simp, rfl⟩
  · have i1 : ¬ ((97 : Int) ≤ (z : Int)) := by omega
    have i2 : ¬ ((65 : Int) ≤ (z : Int)) := by omega
    have i3 : (48 : Int) ≤ (z : Int) := by omega
    have i4 : ¬ ((z : Int) ≤ 57) := by omega
    clear h
    go_enter Tryd.func14, Tryd.ntmps14
    go_wp2_with fail
    refine Hib.out.mono ?_
    rintro e w1 ⟨rfl, rfl⟩
    dsimp only
    go_wp2_with fail
    go_ret
    exact ⟨by rw [Hr.out]; simp, rfl⟩
  · have i1 : ¬ ((97 : Int) ≤ (z : Int)) := by omega
    have i2 : (65 : Int) ≤ (z : Int) := by omega
    have i2' : ¬ ((z : Int) ≤ 90) := by omega
    have i3 : (48 : Int) ≤ (z : Int) := by omega
    have i4 : ¬ ((z : Int) ≤ 57) := by omega
    clear h
    go_enter Tryd.func14, Tryd.ntmps14
    go_wp2_with fail
    refine Hib.out.mono ?_
    rintro e w1 ⟨rfl, rfl⟩
    dsimp only
    go_wp2_with fail
    go_ret
    exact ⟨by rw [Hr.out]; simp, rfl⟩
  · have i1 : (97 : Int) ≤ (z : Int) := by omega
    have i1' : ¬ ((z : Int) ≤ 122) := by omega
    have i2 : (65 : Int) ≤ (z : Int) := by omega
    have i2' : ¬ ((z : Int) ≤ 90) := by omega
    have i3 : (48 : Int) ≤ (z : Int) := by omega
    have i4 : ¬ ((z : Int) ≤ 57) := by omega
    clear h
    go_enter Tryd.func14, Tryd.ntmps14
    go_wp2_with fail
    refine Hib.out.mono ?_
    rintro e w1 ⟨rfl, rfl⟩
    dsimp only
    go_wp2_with fail
    go_ret
    exact ⟨by rw [Hr.out]; simp, rfl⟩
theorem digit_ok (c : UInt8) (w : World) : Calls Tryd.prog 64 #[.int .u8 (c.toNat : Nat)] w fun e w' => e = .returned (.int .i64 (digP c)) ∧ w' = w := by
  have hlt : c.toNat < 256 := c.toNat_lt
  unfold digP
  obtain ⟨z, hz⟩ : ∃ z : Nat, c.toNat = z := ⟨_, rfl⟩
  rw [hz] at hlt ⊢
  by_cases a1 : 48 ≤ z ∧ z ≤ 57
  · rw [if_pos a1]
    have i1 : (48 : Int) ≤ (z : Int) := by omega
    have i2 : (z : Int) ≤ 57 := by omega
    have hw : IntKind.u8.wrap ((z : Int) - 48) = (z : Int) - 48 := by rw [IntKind.wrap_u8]; omega
    have hw2 : IntKind.i64.wrap ((z : Int) - 48) = (z : Int) - 48 := by rw [IntKind.wrap_i64]; omega
    clear a1 hz hlt
    go_enter Tryd.func64, Tryd.ntmps64
    go_wp2_with fail
    go_ret
    exact ⟨rfl, rfl⟩
  rw [if_neg a1]
  by_cases a2 : 97 ≤ z ∧ z ≤ 102
  · rw [if_pos a2]
    have i1 : (48 : Int) ≤ (z : Int) := by omega
    have i2 : ¬ ((z : Int) ≤ 57) := by omega
    have i3 : (97 : Int) ≤ (z : Int) := by omega
    have i4 : (z : Int) ≤ 102 := by omega
    have hw : IntKind.u8.wrap ((z : Int) - 97) = (z : Int) - 97 := by rw [IntKind.wrap_u8]; omega
    have hw2 : IntKind.i64.wrap ((z : Int) - 97) = (z : Int) - 97 := by rw [IntKind.wrap_i64]; omega
    have hw3 : (z : Int) - 97 + 10 = (z : Int) - 87 := by omega
    clear a1 a2 hz hlt
    go_enter Tryd.func64, Tryd.ntmps64
    go_wp2_with fail
    go_ret
    exact ⟨by simp [hw3], rfl⟩
  rw [if_neg a2]
  by_cases a3 : 65 ≤ z ∧ z ≤ 70
  · rw [if_pos a3]
    have i1 : (48 : Int) ≤ (z : Int) := by omega
    have i2 : ¬ ((z : Int) ≤ 57) := by omega
    have i3 : ¬ ((97 : Int) ≤ (z : Int)) := by omega
    have i5 : (65 : Int) ≤ (z : Int) := by omega
    have i6 : (z : Int) ≤ 70 := by omega
    have hw : IntKind.u8.wrap ((z : Int) - 65) = (z : Int) - 65 := by rw [IntKind.wrap_u8]; omega
    have hw2 : IntKind.i64.wrap ((z : Int) - 65) = (z : Int) - 65 := by rw [IntKind.wrap_i64]; omega
    have hw3 : (z : Int) - 65 + 10 = (z : Int) - 55 := by omega
    clear a1 a2 a3 hz hlt
    go_enter Tryd.func64, Tryd.ntmps64
    go_wp2_with fail
    go_ret
    exact ⟨by simp [hw3], rfl⟩
  rw [if_neg a3]
  have HA := Lib.hid (And.intro a1 (And.intro a2 a3))
  clear hz a1 a2 a3 hlt
  go_enter Tryd.func64, Tryd.ntmps64
  go_wp2_with fail
  all_goals first
    | (go_ret; exact ⟨rfl, rfl⟩)
    | (exfalso; have := HA.out; omega)
end Go.Proofs.YtbhmeagliebfdaaDoor

/- Bits of a map, in plain words; docketlaw05.fixed. -/
import Derived.Test.YtndhcimepgcfaaaSp4
namespace Go.Proofs.Ytndhcimepgcfaaa
open Go Go.RowKit
set_option linter.unusedSimpArgs false
set_option linter.unusedVariables false
set_option maxRecDepth 100000
theorem findIx_snoc (k : Int) (v : Value) : ∀ (es : List (Int × Value)) (i : Nat), findIx k es i = none → findIx k (es ++ [(k, v)]) i = some (i + es.length, v)
  | [], i, _ => by simp [findIx]
  | p :: r, i, h => by
    rw [findIx] at h
    split at h
    · cases h
    · rename_i hk
      rw [List.cons_append, findIx, if_neg hk, findIx_snoc k v r (i + 1) h]
      simp; omega
theorem findIx_set (k : Int) (v : Value) : ∀ (es : List (Int × Value)) (i j : Nat) (u : Value), findIx k es i = some (j, u) → findIx k (es.set (j - i) (k, v)) i = some (j, v)
  | [], i, j, u, h => by cases h
  | p :: r, i, j, u, h => by
    rw [findIx] at h
    split at h
    · cases h
      rw [Nat.sub_self, List.set_cons_zero, findIx, if_pos rfl]
    · rename_i hk
      have h1 := (findIx_lt k r (i + 1) j u h).1
      rw [show j - i = (j - (i + 1)) + 1 by omega, List.set_cons_succ, findIx, if_neg hk]
      exact findIx_set k v r (i + 1) j u h
theorem look_put (es : List (Int × Value)) (k : Int) (v : Value) : lookV (putV es k v) k = some v := by
  unfold lookV putV
  cases h : findIx k es 0 with
  | none => simp only [findIx_snoc k v es 0 h]; rfl
  | some p =>
    obtain ⟨j, u⟩ := p
    have := findIx_set k v es 0 j u h
    rw [Nat.sub_zero] at this
    simp only [this]
    rfl
theorem look_putB (es : List (Int × Bytes)) (k : Int) (x : Bytes) : lookV (imgs (putB es k x)) k = some (.agg (bvs x).toArray) := by rw [imgs_putB, look_put]
/-! Bits. -/
theorem set_bits : ∀ (y : Fin 256) (r s : Fin 8), (if y.val / 2 ^ r.val % 2 = 1 then y.val else y.val + 2 ^ r.val) / 2 ^ s.val % 2 = if s.val = r.val then 1 else y.val / 2 ^ s.val % 2 := by decide +kernel
theorem cut_bits : ∀ (y : Fin 256) (r s : Fin 8), (if y.val / 2 ^ r.val % 2 = 1 then y.val - 2 ^ r.val else y.val) / 2 ^ s.val % 2 = if s.val = r.val then 0 else y.val / 2 ^ s.val % 2 := by decide +kernel
theorem getD_set_same (l : Bytes) (i : Nat) (x : UInt8) (h : i < l.length) : (l.set i x).getD i 0 = x := by simp [List.getD, h]
theorem getD_set_other (l : Bytes) (i j : Nat) (x : UInt8) (h : i ≠ j) : (l.set i x).getD j 0 = l.getD j 0 := by simp [List.getD, List.getElem?_set_ne h]
theorem has_set (l : Bytes) (hl : l.length = 512) (b c : Nat) (hb : b < 4096) : hasB (setB l b) c = (decide (c = b) || hasB l c) := by
  have hy := (l.getD (b / 8) 0).toNat_lt
  by_cases h : c / 8 = b / 8
  · have hs := set_bits ⟨(l.getD (b / 8) 0).toNat, hy⟩ ⟨b % 8, by omega⟩ ⟨c % 8, by omega⟩
    have ha := add_bit ⟨(l.getD (b / 8) 0).toNat, hy⟩ ⟨b % 8, by omega⟩
    simp only at hs ha
    rw [hasB, setB, h, getD_set_same _ _ _ (by omega), u8_nat _ ha, hs]
    by_cases h2 : c % 8 = b % 8
    · rw [if_pos h2]
      have : c = b := by omega
      simp [this]
    · rw [if_neg h2]
      have : c ≠ b := fun e => h2 (by rw [e])
      simp [this, hasB, h]
  · have : c ≠ b := fun e => h (by rw [e])
    rw [hasB, setB, getD_set_other _ _ _ _ (fun e => h e.symm)]
    simp [this, hasB]
theorem has_cut (l : Bytes) (hl : l.length = 512) (b c : Nat) (hb : b < 4096) : hasB (cutB l b) c = (!decide (c = b) && hasB l c) := by
  have hy := (l.getD (b / 8) 0).toNat_lt
  by_cases h : c / 8 = b / 8
  · have hs := cut_bits ⟨(l.getD (b / 8) 0).toNat, hy⟩ ⟨b % 8, by omega⟩ ⟨c % 8, by omega⟩
    have ha := sub_bit ⟨(l.getD (b / 8) 0).toNat, hy⟩ ⟨b % 8, by omega⟩
    simp only at hs ha
    rw [hasB, cutB, h, getD_set_same _ _ _ (by omega), u8_nat _ ha, hs]
    by_cases h2 : c % 8 = b % 8
    · rw [if_pos h2]
      have : c = b := by omega
      simp [this]
    · rw [if_neg h2]
      have : c ≠ b := fun e => h2 (by rw [e])
      simp [this, hasB, h]
  · have : c ≠ b := fun e => h (by rw [e])
    rw [hasB, cutB, getD_set_other _ _ _ _ (fun e => h e.symm)]
    simp [this, hasB]
/-- The map by which only the first two are taken. -/
abbrev three : Bytes := pad [3]
theorem three_length : three.length = 512 := pad_length (by decide)
theorem three_get (i : Nat) : three.getD i 0 = if i = 0 then 3 else 0 := by
  cases i with
  | zero => rfl
  | succ i =>
    show (List.replicate 511 (0 : UInt8)).getD i 0 = 0
    unfold List.getD
    rw [List.getElem?_replicate]
    split <;> rfl
theorem has_three (b : Nat) : hasB three b = decide (b < 2) := by
  rw [hasB, three_get]
  by_cases h : b / 8 = 0
  · rw [if_pos h]
    have : b < 8 := by omega
    have key : ∀ b : Fin 8, ((3 : UInt8).toNat / 2 ^ (b.val % 8) % 2 == 1) = decide (b.val < 2) := by decide
    exact key ⟨b, this⟩
  · rw [if_neg h]
    have : ¬ b < 2 := by omega
    simp [this]
theorem used_three : usedB three = 2 := by decide +kernel
theorem good_three (n : Nat) (h : 2 ≤ n) : GoodM n three := ⟨by rw [has_three]; rfl, by rw [has_three]; rfl, fun c h1 h2 => by rw [has_three]; simp; omega⟩
theorem setB_length (l : Bytes) (b : Nat) : (setB l b).length = l.length := by rw [setB, List.length_set]
theorem cutB_length (l : Bytes) (b : Nat) : (cutB l b).length = l.length := by rw [cutB, List.length_set]
end Go.Proofs.Ytndhcimepgcfaaa

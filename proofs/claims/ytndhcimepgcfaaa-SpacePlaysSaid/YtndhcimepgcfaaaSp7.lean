/- Counting bits, in plain words; package space, where it is refused. -/
import Derived.Test.YtndhcimepgcfaaaSp6
namespace Go.Proofs.Ytndhcimepgcfaaa
open Go Go.RowKit
set_option linter.unusedSimpArgs false
set_option linter.unusedVariables false
set_option maxRecDepth 100000
/-- How many of the first n meet p. -/
def cnt (p : Nat → Bool) : Nat → Nat
  | 0 => 0
  | n + 1 => cnt p n + if p n then 1 else 0
theorem cnt_le (p : Nat → Bool) : ∀ n, cnt p n ≤ n
  | 0 => Nat.le_refl _
  | n + 1 => by
    have := cnt_le p n
    rw [cnt]
    split <;> omega
theorem cnt_add (p : Nat → Bool) (n : Nat) : ∀ m, cnt p (n + m) = cnt p n + cnt (fun r => p (n + r)) m
  | 0 => by simp [cnt]
  | m + 1 => by
    rw [← Nat.add_assoc, cnt, cnt_add p n m, cnt]
    omega
theorem cnt_congr {p q : Nat → Bool} : ∀ {n : Nat}, (∀ i, i < n → p i = q i) → cnt p n = cnt q n
  | 0, _ => rfl
  | n + 1, h => by rw [cnt, cnt, cnt_congr (fun i hi => h i (by omega)), h n (by omega)]
theorem cnt_zero {p : Nat → Bool} : ∀ {n : Nat}, (∀ i, i < n → p i = false) → cnt p n = 0
  | 0, _ => rfl
  | n + 1, h => by rw [cnt, cnt_zero (fun i hi => h i (by omega)), h n (by omega)]; rfl
theorem cnt_full {p : Nat → Bool} : ∀ {n : Nat}, cnt p n = n → ∀ i, i < n → p i = true
  | 0, _, i, hi => by omega
  | n + 1, h, i, hi => by
    have := cnt_le p n
    rw [cnt] at h
    split at h
    · rename_i hn
      by_cases hi2 : i = n
      · rw [hi2]; exact hn
      · exact cnt_full (n := n) (by omega) i (by omega)
    · omega
theorem cnt_all {p : Nat → Bool} : ∀ {n : Nat}, (∀ i, i < n → p i = true) → cnt p n = n
  | 0, _ => rfl
  | n + 1, h => by rw [cnt, cnt_all (fun i hi => h i (by omega)), h n (by omega)]; rfl
theorem cnt_turn {p q : Nat → Bool} (b : Nat) : ∀ {n : Nat}, (∀ i, i < n → i ≠ b → p i = q i) → b < n → p b = false → q b = true → cnt q n = cnt p n + 1
  | 0, _, h, _, _ => by omega
  | n + 1, h, hb, hp, hq => by
    rw [cnt, cnt]
    by_cases hbn : b = n
    · subst hbn
      rw [hp, hq, cnt_congr (fun i hi => h i (by omega) (by omega))]
      simp
    · rw [cnt_turn b (fun i hi hne => h i (by omega) hne) (by omega) hp hq, h n (by omega) (fun e => hbn e.symm)]
      omega
theorem pop_count : ∀ v : Fin 256, popC v.val = cnt (fun r => v.val / 2 ^ r % 2 == 1) 8 := by decide +kernel
theorem used_take (l : Bytes) : ∀ k, k ≤ l.length → usedB (l.take k) = cnt (hasB l) (8 * k)
  | 0, _ => rfl
  | k + 1, h => by
    rw [usedB_succ l k (by omega), used_take l k (by omega), show 8 * (k + 1) = 8 * k + 8 by omega, cnt_add]
    congr 1
    rw [pop_count ⟨l[k].toNat, l[k].toNat_lt⟩]
    refine cnt_congr (fun r hr => ?_)
    have d1 : (8 * k + r) / 8 = k := by omega
    have d2 : (8 * k + r) % 8 = r := by omega
    rw [hasB, d1, d2]
    simp [List.getD, show k < l.length by omega]
theorem used_cnt (l : Bytes) : usedB l = cnt (hasB l) (8 * l.length) := by
  have := used_take l l.length (Nat.le_refl _)
  rwa [List.take_length] at this
/-- A map on N blocks: nothing is taken from N on. -/
theorem used_N {l : Bytes} (hl : l.length = 512) {N : Nat} (hN : N ≤ 4096) (h : ∀ c, N ≤ c → c < 4096 → hasB l c = false) : usedB l = cnt (hasB l) N := by
  rw [used_cnt, hl, show 8 * 512 = N + (4096 - N) by omega, cnt_add, cnt_zero (fun i hi => h (N + i) (by omega) (by omega))]
  omega
theorem used_set {l : Bytes} (hl : l.length = 512) {b : Nat} (hb : b < 4096) (h : hasB l b = false) : usedB (setB l b) = usedB l + 1 := by
  rw [used_cnt, used_cnt, setB_length, hl]
  exact cnt_turn b (fun i hi hne => by rw [has_set l hl b i hb]; simp [hne]) hb h (by rw [has_set l hl b b hb]; simp)
theorem used_cut {l : Bytes} (hl : l.length = 512) {b : Nat} (hb : b < 4096) (h : hasB l b = true) : usedB l = usedB (cutB l b) + 1 := by
  rw [used_cnt, used_cnt, cutB_length, hl]
  exact cnt_turn b (fun i hi hne => by rw [has_cut l hl b i hb]; simp [hne]) hb (by rw [has_cut l hl b b hb]; simp) h
/-! Refusals. -/
theorem spcheck_bad (w : World) (t : Value) (ty : TypeId) (n : Int) (h : n < 2 ∨ 4096 < n) : Calls Try.prog 28 #[.iface 25 t, .int .i64 n] w fun e w' => e = .returned (.int .i64 1) ∧ w = w' := by
  by_cases h2 : n < 2
  · have q1 : decide (n < 2) = true := by simpa using h2
    go_enter Try.func28, Try.ntmps28
    go_wp2_with fail
    go_ret
    exact ⟨rfl, rfl⟩
  · have q1 : decide (n < 2) = false := by simpa using h2
    have q2 : decide (n > 4096) = true := by simp; omega
    go_enter Try.func28, Try.ntmps28
    go_wp2_with fail
    go_ret
    exact ⟨rfl, rfl⟩
theorem spcheck_nil (w : World) (n : Int) : Calls Try.prog 28 #[.nilIface, .int .i64 n] w fun e w' => e = .returned (.int .i64 1) ∧ w = w' := by
  go_enter Try.func28, Try.ntmps28
  go_wp2_with fail
  go_ret
  exact ⟨rfl, rfl⟩
theorem spmake_err (w : World) (p : Value) (n : Int) (hc : Calls Try.prog 28 #[p, .int .i64 n] w fun e w' => e = .returned (.int .i64 1) ∧ w = w') : Calls Try.prog 10 #[p, .int .i64 n] w fun e w' => e = .returned (.int .i64 1) ∧ w = w' := by
  have H := Lib.hid hc
  clear hc
  go_enter Try.func10, Try.ntmps10
  go_wp2_with fail
  refine H.out.mono ?_
  rintro e w1 ⟨rfl, rfl⟩
  dsimp only
  go_wp2_with fail
  go_ret
  exact ⟨rfl, rfl⟩
theorem spload_err (w : World) (p : Value) (n : Int) (hc : Calls Try.prog 28 #[p, .int .i64 n] w fun e w' => e = .returned (.int .i64 1) ∧ w = w') : Calls Try.prog 11 #[p, .int .i64 n] w fun e w' => e = .returned (.tuple #[.pointer none, .int .i64 1]) ∧ w = w' := by
  have H := Lib.hid hc
  clear hc
  go_enter Try.func11, Try.ntmps11
  go_wp2_with fail
  refine H.out.mono ?_
  rintro e w1 ⟨rfl, rfl⟩
  dsimp only
  go_wp2_with fail
  go_ret2
  exact ⟨rfl, rfl⟩
theorem store_none (w : World) (mb : Nat) : Calls Try.prog 19 #[.pointer (some ⟨mb, 0, none⟩), .nilIface] w fun e w' => e = .returned (.int .i64 1) ∧ w = w' := by
  go_enter Try.func19, Try.ntmps19
  go_wp2_with fail
  go_ret
  exact ⟨rfl, rfl⟩
end Go.Proofs.Ytndhcimepgcfaaa

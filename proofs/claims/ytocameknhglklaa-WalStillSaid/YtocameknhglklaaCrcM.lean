/- The sums of layer 1, in plain words: the register as 32 bits. -/
import Derived.Test.YtocameknhglklaaMem
namespace Go.Proofs.Ytocameknhglklaa
set_option linter.unusedSimpArgs false
set_option maxRecDepth 100000

def poly : BitVec 32 := 0x82F63B78#32
/-- One bit's worth. -/
def step1 (r : BitVec 32) : BitVec 32 := if r.getLsbD 0 then (r >>> 1) ^^^ poly else r >>> 1
def steps : Nat → BitVec 32 → BitVec 32
  | 0, r => r
  | n + 1, r => steps n (step1 r)
/-- One byte's worth, as the code has it. -/
def eat (r : BitVec 32) (b : UInt8) : BitVec 32 := steps 8 ((r &&& 255#32) ^^^ BitVec.ofNat 32 b.toNat) ^^^ (r >>> 8)
def regs (r : BitVec 32) (bs : List UInt8) : BitVec 32 := bs.foldl eat r
/-- Update. -/
def updB (s : BitVec 32) (bs : List UInt8) : BitVec 32 := ~~~ (regs (~~~ s) bs)

theorem regs_append (r : BitVec 32) (a b : List UInt8) : regs r (a ++ b) = regs (regs r a) b := by simp [regs]
theorem updB_append (s : BitVec 32) (a b : List UInt8) : updB s (a ++ b) = updB (updB s a) b := by simp [updB, regs_append]
theorem updB_nil (s : BitVec 32) : updB s [] = s := by simp [updB, regs]
theorem regs_take_succ (r : BitVec 32) (bs : List UInt8) (k : Nat) (hk : k < bs.length) : regs r (bs.take (k + 1)) = eat (regs r (bs.take k)) bs[k] := by
  rw [List.take_succ_eq_append_getElem hk, regs_append]; rfl

/-! Straight. -/
theorem step1_xor (x y : BitVec 32) : step1 (x ^^^ y) = step1 x ^^^ step1 y := by
  unfold step1
  rw [BitVec.getLsbD_xor, BitVec.ushiftRight_xor_distrib]
  cases x.getLsbD 0 <;> cases y.getLsbD 0 <;> simp
  · ac_rfl
  · ac_rfl
  · rw [show (x >>> 1 ^^^ poly) ^^^ (y >>> 1 ^^^ poly) = (x >>> 1 ^^^ y >>> 1) ^^^ (poly ^^^ poly) by ac_rfl]; simp
theorem steps_xor : ∀ (n : Nat) (x y : BitVec 32), steps n (x ^^^ y) = steps n x ^^^ steps n y
  | 0, _, _ => rfl
  | n + 1, x, y => by rw [steps, steps, steps, step1_xor, steps_xor n]
theorem step1_zero : step1 0#32 = 0#32 := by decide
theorem steps_zero : ∀ n, steps n 0#32 = 0#32
  | 0 => rfl
  | n + 1 => by rw [steps, step1_zero, steps_zero n]
theorem steps_add : ∀ (m n : Nat) (x : BitVec 32), steps (m + n) x = steps n (steps m x)
  | 0, n, x => by simp [steps]
  | m + 1, n, x => by rw [Nat.succ_add, steps, steps, steps_add m n]
theorem step1_eq_zero {x : BitVec 32} (h : step1 x = 0#32) : x = 0#32 := by
  unfold step1 at h
  cases h0 : x.getLsbD 0 with
  | true =>
    rw [h0, if_pos rfl] at h
    have := congrArg (fun z => z.getLsbD 31) h
    simp [poly, BitVec.getLsbD_xor] at this
  | false =>
    rw [h0] at h
    apply BitVec.eq_of_getLsbD_eq
    intro i hi
    cases i with
    | zero => simpa using h0
    | succ i =>
      have := congrArg (fun z => z.getLsbD i) h
      simp at this
      simp
      rw [Nat.add_comm] at this
      exact this
theorem steps_eq_zero : ∀ (n : Nat) {x : BitVec 32}, steps n x = 0#32 → x = 0#32
  | 0, _, h => h
  | n + 1, _, h => step1_eq_zero (steps_eq_zero n h)
/-- Where the low bits are none, a step is a shift. -/
theorem step1_shift (y : BitVec 32) (h : y.getLsbD 31 = false) : step1 (y <<< 1) = y := by
  unfold step1
  have h0 : (y <<< 1).getLsbD 0 = false := by simp
  rw [h0]
  simp only [Bool.false_eq_true, if_false]
  apply BitVec.eq_of_getLsbD_eq
  intro i hi
  rw [BitVec.getLsbD_ushiftRight, BitVec.getLsbD_shiftLeft]
  by_cases h31 : i = 31
  · subst h31; rw [h]; simp
  · rw [show 1 + i - 1 = i by omega]
    simp [show 1 + i < 32 by omega, show ¬ (1 + i < 1) by omega]
theorem steps_shift : ∀ (n : Nat) (y : BitVec 32), (∀ i, 32 - n ≤ i → y.getLsbD i = false) → n ≤ 32 → steps n (y <<< n) = y
  | 0, y, _, _ => by simp [steps]
  | n + 1, y, h, hn => by
    have e : y <<< (n + 1) = (y <<< n) <<< 1 := by rw [BitVec.shiftLeft_add]
    rw [steps, e, step1_shift, steps_shift n y (fun i hi => h i (by omega)) (by omega)]
    rw [BitVec.getLsbD_shiftLeft, h (31 - n) (by omega)]
    simp
theorem high_part (r : BitVec 32) : r = (r &&& 255#32) ^^^ ((r >>> 8) <<< 8) := by
  apply BitVec.eq_of_getLsbD_eq
  intro i hi
  have h255 : (255#32).getLsbD i = decide (i < 8) := by
    have : ∀ i : Fin 32, (255#32).getLsbD i.val = decide (i.val < 8) := by decide
    exact this ⟨i, hi⟩
  rw [BitVec.getLsbD_xor, BitVec.getLsbD_and, h255]
  by_cases h8 : i < 8
  · simp [h8]
  · simp [h8, hi, show 8 + (i - 8) = i by omega]
theorem eat_eq (r : BitVec 32) (b : UInt8) : eat r b = steps 8 (r ^^^ BitVec.ofNat 32 b.toNat) := by
  have h := steps_shift 8 (r >>> 8) (fun i hi => by simp; intros; exact BitVec.getLsbD_of_ge _ _ (by omega)) (by omega)
  conv => rhs; rw [high_part r]
  rw [show (r &&& 255#32) ^^^ ((r >>> 8) <<< 8) ^^^ BitVec.ofNat 32 b.toNat = ((r &&& 255#32) ^^^ BitVec.ofNat 32 b.toNat) ^^^ ((r >>> 8) <<< 8) by ac_rfl, steps_xor, h, eat]
end Go.Proofs.Ytocameknhglklaa

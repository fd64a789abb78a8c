/- What happens within 32 bits is seen: in plain words. -/
import Derived.Test.YtlcbgcbocikkkaaCrcBits
namespace Go.Proofs.Ytlcbgcbocikkkaa
set_option linter.unusedSimpArgs false
set_option linter.unusedVariables false
set_option maxRecDepth 100000

def one (b : Bool) : BitVec 32 := if b then 1#32 else 0#32
def bregs (r : BitVec 32) (c : List Bool) : BitVec 32 := c.foldl (fun r b => step1 (r ^^^ one b)) r
def word : List Bool → BitVec 32
  | [] => 0#32
  | b :: c => one b ^^^ (word c <<< 1)
theorem one_bit (b : Bool) (i : Nat) : (one b).getLsbD i = (b && decide (i = 0)) := by
  cases b
  · simp [one]
  · by_cases h : i = 0
    · subst h; decide
    · have : (1#32).getLsbD i = false := by
        rw [BitVec.getLsbD_one]; simp [h]
      simp [one, this, h]
theorem word_bit : ∀ (c : List Bool) (i : Nat), i < 32 → (word c).getLsbD i = c.getD i false
  | [], i, _ => by simp [word]
  | b :: c, 0, _ => by rw [word, BitVec.getLsbD_xor, one_bit]; simp
  | b :: c, i + 1, h => by
    rw [word, BitVec.getLsbD_xor, one_bit, BitVec.getLsbD_shiftLeft]
    simp only [show decide (i + 1 < 32) = true by simpa using h, show decide (i + 1 < 1) = false by simp, Nat.add_sub_cancel]
    rw [word_bit c i (by omega)]
    simp
theorem upfront : ∀ (c : List Bool) (r : BitVec 32), c.length ≤ 32 → bregs r c = steps c.length (r ^^^ word c)
  | [], r, _ => by simp [bregs, word, steps]
  | b :: c, r, h => by
    have hc : c.length ≤ 31 := by simpa using h
    have hw : step1 (word c <<< 1) = word c := step1_shift _ (by
      rw [word_bit c 31 (by omega), List.getD_eq_getElem?_getD, List.getElem?_eq_none (by omega)]; rfl)
    show bregs (step1 (r ^^^ one b)) c = _
    rw [upfront c _ (by omega)]
    conv => lhs; rw [← hw]
    rw [← step1_xor, List.length_cons, steps, word]
    congr 2
    ac_rfl
theorem bregs_append (r : BitVec 32) (a b : List Bool) : bregs r (a ++ b) = bregs (bregs r a) b := by simp [bregs]
theorem bregs_false : ∀ (c : List Bool) (r : BitVec 32), (∀ b ∈ c, b = false) → bregs r c = steps c.length r
  | [], r, _ => rfl
  | b :: c, r, h => by
    have hb : b = false := h b (List.mem_cons_self)
    subst hb
    show bregs (step1 (r ^^^ one false)) c = _
    rw [bregs_false c _ (fun x hx => h x (List.mem_cons_of_mem _ hx))]
    show steps c.length (step1 (r ^^^ 0#32)) = _
    rw [BitVec.xor_zero]
    rfl
def bits8 (b : UInt8) : List Bool := (List.range 8).map (fun j => b.toNat.testBit j)
theorem bits8_length (b : UInt8) : (bits8 b).length = 8 := by simp [bits8]
theorem word_bits8 (b : UInt8) : word (bits8 b) = BitVec.ofNat 32 b.toNat := by
  have h : ∀ n : Fin 256, word ((List.range 8).map (fun j => n.val.testBit j)) = BitVec.ofNat 32 n.val := by decide +kernel
  exact h ⟨b.toNat, b.toNat_lt⟩
theorem eat_bits (r : BitVec 32) (b : UInt8) : eat r b = bregs r (bits8 b) := by
  rw [upfront _ _ (by rw [bits8_length]; omega), word_bits8, bits8_length, eat_eq]
theorem regs_bits : ∀ (l : List UInt8) (r : BitVec 32), regs r l = bregs r (l.flatMap bits8)
  | [], _ => rfl
  | b :: l, r => by
    show regs (eat r b) l = _
    rw [List.flatMap_cons, bregs_append, ← eat_bits, regs_bits l]

def bitAt (l : List UInt8) (q : Nat) : Bool := (l.getD (q / 8) 0).toNat.testBit (q % 8)
theorem mix_bit (a b : List UInt8) (h : a.length = b.length) (q : Nat) (hq : q < a.length * 8) : ((mixB a b).flatMap bits8)[q]? = some (bitAt a q ^^ bitAt b q) := by
  have hl : (mixB a b).length = a.length := by simp [mixB, h]
  have hk : q / 8 < (mixB a b).length := by omega
  have := flat_cell bits8 8 (mixB a b) (fun x _ => bits8_length x) (q / 8) (q % 8) hk (Nat.mod_lt _ (by decide))
  rw [show q / 8 * 8 + q % 8 = q by omega] at this
  rw [this]
  have hka : q / 8 < a.length := by omega
  have hkb : q / 8 < b.length := by omega
  simp [bits8, bitAt, mixB, Nat.mod_lt, hka, hkb, UInt8.toNat_xor]
theorem eq_of_bits (a b : List UInt8) (h : a.length = b.length) (hb : ∀ q, q < a.length * 8 → bitAt a q = bitAt b q) : a = b := by
  apply List.ext_getElem h
  intro k h1 h2
  apply UInt8.toNat_inj.1
  apply Nat.eq_of_testBit_eq
  intro j
  by_cases hj : j < 8
  · have := hb (k * 8 + j) (by omega)
    simp only [bitAt, show (k * 8 + j) / 8 = k by omega, show (k * 8 + j) % 8 = j by omega] at this
    simpa [h1, h2] using this
  · have e1 := a[k].toNat_lt
    have e2 := b[k].toNat_lt
    have hp : 2 ^ 8 ≤ 2 ^ j := Nat.pow_le_pow_right (by decide) (by omega)
    rw [Nat.testBit_lt_two_pow (Nat.lt_of_lt_of_le e1 hp), Nat.testBit_lt_two_pow (Nat.lt_of_lt_of_le e2 hp)]

theorem burst_law (own data : List UInt8) (p : Nat) (f : Nat → Bool) (hl : own.length = data.length)
    (h : ∀ q, q < own.length * 8 → bitAt own q = (bitAt data q ^^ (decide (p ≤ q ∧ q < p + 32) && f (q - p)))) (he : updB 0 own = updB 0 data) : own = data := by
  have h0 := updB_xor own data hl
  rw [he, BitVec.xor_self, regs_bits] at h0
  obtain ⟨B, hB⟩ : ∃ B, (mixB own data).flatMap bits8 = B := ⟨_, rfl⟩
  have hBq : ∀ q, q < own.length * 8 → B[q]? = some (decide (p ≤ q ∧ q < p + 32) && f (q - p)) := fun q hq => by
    rw [← hB, mix_bit own data hl q hq, h q hq]
    cases bitAt data q <;> simp
  have hBl : B.length = own.length * 8 := by
    rw [← hB, flat_length bits8 8 _ (fun x _ => bits8_length x)]
    simp [mixB, hl]
  rw [hB] at h0
  have split : B = B.take p ++ ((B.drop p).take 32 ++ (B.drop p).drop 32) := by rw [List.take_append_drop, List.take_append_drop]
  rw [split, bregs_append, bregs_append] at h0
  have z1 : bregs 0 (B.take p) = 0#32 := by
    rw [bregs_false, show (0 : BitVec 32) = 0#32 from rfl, steps_zero]
    intro b hb
    obtain ⟨i, hi, rfl⟩ := List.getElem_of_mem hb
    have hi1 : i < min p B.length := by simpa using hi
    have hi2 : i < p ∧ i < B.length := by omega
    have := hBq i (by omega)
    rw [List.getElem?_eq_getElem hi2.2] at this
    simp only [Option.some.injEq] at this
    rw [List.getElem_take, this]
    simp; omega
  rw [z1, bregs_false] at h0
  · have h1 := steps_eq_zero _ h0.symm
    rw [upfront _ _ (by simp; omega)] at h1
    have h2 := steps_eq_zero _ h1
    have h3 : word ((B.drop p).take 32) = 0#32 := by simpa using h2
    apply eq_of_bits own data hl
    intro q hq
    rw [h q hq]
    by_cases hin : p ≤ q ∧ q < p + 32
    · have hw := word_bit ((B.drop p).take 32) (q - p) (by omega)
      rw [h3, List.getD_eq_getElem?_getD, List.getElem?_take, if_pos (by omega), List.getElem?_drop, show p + (q - p) = q by omega, hBq q hq] at hw
      simp only [Option.getD_some, BitVec.getLsbD_zero] at hw
      rw [← hw]; simp
    · simp [hin]
  · intro b hb
    obtain ⟨i, hi, rfl⟩ := List.getElem_of_mem hb
    have hi2 : i < B.length - (p + 32) := by simpa using hi
    have := hBq (p + 32 + i) (by omega)
    rw [List.getElem?_eq_getElem (by omega)] at this
    simp only [Option.some.injEq] at this
    rw [List.getElem_drop, List.getElem_drop]
    have e : p + (32 + i) = p + 32 + i := by omega
    simp only [e]
    rw [this]
    simp; omega
end Go.Proofs.Ytlcbgcbocikkkaa

/- Contracts of package crc: step, Update, Sum. -/
import Derived.Test.YtocameknhglklaaRows
import Derived.Test.YtocameknhglklaaCrcM
import Derived.Test.YtocameknhglklaaOps
import Derived.WalkKit
import Derived.ProofKit
import Derived.Deep.QuietTactic
import Derived.BigQuiet
import Derived.Below
import Derived.Lib.Hide
namespace Go.Proofs.Ytocameknhglklaa
open Go.RowKit
set_option linter.unusedSimpArgs false
set_option maxRecDepth 100000

theorem of_u32 (x : BitVec 32) : BitVec.ofInt 32 (x.toNat : Int) = x := by simp
theorem u32_and (x y : BitVec 32) : bits BinOp.and IntKind.u32 (x.toNat : Int) (y.toNat : Int) = ((x &&& y).toNat : Int) := by
  show IntKind.u32.wrap (((BitVec.ofInt 32 (x.toNat : Int) &&& BitVec.ofInt 32 (y.toNat : Int)).toNat : Nat) : Int) = _
  rw [of_u32, of_u32, IntKind.wrap_u32]
  have := (x &&& y).isLt
  omega
theorem u32_xor (x y : BitVec 32) : bits BinOp.xor IntKind.u32 (x.toNat : Int) (y.toNat : Int) = ((x ^^^ y).toNat : Int) := by
  show IntKind.u32.wrap (((BitVec.ofInt 32 (x.toNat : Int) ^^^ BitVec.ofInt 32 (y.toNat : Int)).toNat : Nat) : Int) = _
  rw [of_u32, of_u32, IntKind.wrap_u32]
  have := (x ^^^ y).isLt
  omega

theorem lsb_odd (x : BitVec 32) : x.getLsbD 0 = decide (x.toNat % 2 = 1) := by
  rw [BitVec.getLsbD, Nat.testBit_zero]
theorem half (x : BitVec 32) : ((x.toNat : Int) / (2 : Int)) = ((x >>> 1).toNat : Int) := by
  rw [BitVec.toNat_ushiftRight, Nat.shiftRight_succ, Nat.shiftRight_zero]; omega
theorem step1_odd {x : BitVec 32} (h : ((x.toNat : Int) % 2 == 1) = true) : bits BinOp.xor IntKind.u32 ((x.toNat : Int) / (2 : Int)) 2197175160 = ((step1 x).toNat : Int) := by
  have h' : x.toNat % 2 = 1 := by have := eq_of_beq h; omega
  have e : ((x.toNat : Int) / (2 : Int)) = ((x >>> 1).toNat : Int) := half x
  have e2 : (2197175160 : Int) = (poly.toNat : Int) := by decide
  rw [e, e2, u32_xor, step1, lsb_odd, if_pos (by simpa using h')]
theorem step1_even {x : BitVec 32} (h : ((x.toNat : Int) % 2 == 1) = false) : ((x.toNat : Int) / (2 : Int)) = ((step1 x).toNat : Int) := by
  have h' : ¬ x.toNat % 2 = 1 := fun h' => absurd h (by simp; omega)
  rw [step1, lsb_odd, if_neg (by simpa using h'), half]

set_option maxHeartbeats 2000000 in
theorem step_ok (r : BitVec 32) (w : World) : Calls Try.prog 60 #[.int .u32 r.toNat] w fun e w' => e = .returned (.int .u32 (steps 8 r).toNat) ∧ w = w' := by
  go_enter Try.func60, Try.ntmps60
  go_wp2_with fail
  go_loop [0, 4] (fun x i => ∃ k : Nat, k ≤ 8 ∧ i = .int .i64 k ∧ x = .int .u32 (steps k r).toNat) (fun _ i => 8 - (intOf i).toNat)
  case atStart => exact ⟨0, by omega, rfl, rfl⟩
  case round =>
    obtain ⟨k, hk, rfl, rfl⟩ := hrel
    by_cases h8 : (k : Int) < 8
    · obtain ⟨x, hx⟩ : ∃ x, steps k r = x := ⟨_, rfl⟩
      have hs : steps (k + 1) r = step1 x := by rw [steps_add, hx]; rfl
      rw [hx]
      have hand : bits BinOp.and IntKind.u32 (x.toNat : Int) 1 = ((x &&& 1#32).toNat : Int) := u32_and x 1#32
      go_wp2_with fail
      · rename_i hb
        exact ⟨⟨k + 1, by omega, by go_num, by rw [step1_odd hb, hs]⟩, by simp [intOf]; omega⟩
      · rename_i hb
        exact ⟨⟨k + 1, by omega, by go_num, by rw [step1_even hb, hs]⟩, by simp [intOf]; omega⟩
    · obtain rfl : k = 8 := by omega
      go_wp2_with fail
      go_ret
      exact ⟨rfl, rfl⟩

theorem u32_not (x : BitVec 32) : bits BinOp.xor IntKind.u32 IntKind.u32.max (x.toNat : Int) = ((~~~x).toNat : Int) := by
  have e : IntKind.u32.max = ((BitVec.allOnes 32).toNat : Int) := by decide
  rw [e, u32_xor, BitVec.allOnes_xor]
theorem low_byte (x : BitVec 32) (b : UInt8) : bits BinOp.xor IntKind.u32 (bits BinOp.and IntKind.u32 (x.toNat : Int) 255) ((b.toNat : Int) % 4294967296) = (((x &&& 255#32) ^^^ BitVec.ofNat 32 b.toNat).toNat : Int) := by
  have hb := b.toNat_lt
  have e1 : bits BinOp.and IntKind.u32 (x.toNat : Int) 255 = ((x &&& 255#32).toNat : Int) := u32_and x 255#32
  have e2 : (b.toNat : Int) % 4294967296 = ((BitVec.ofNat 32 b.toNat).toNat : Int) := by rw [BitVec.toNat_ofNat, Nat.mod_eq_of_lt (by omega)]; omega
  rw [e1, e2, u32_xor]
theorem eat_fact (x : BitVec 32) (b : UInt8) : bits BinOp.xor IntKind.u32 ((steps 8 ((x &&& 255#32) ^^^ BitVec.ofNat 32 b.toNat)).toNat : Int) ((x.toNat : Int) / (256 : Int)) = ((eat x b).toNat : Int) := by
  have e : (x.toNat : Int) / (256 : Int) = ((x >>> 8).toNat : Int) := by rw [BitVec.toNat_ushiftRight, Nat.shiftRight_eq_div_pow]; omega
  rw [e, u32_xor]; rfl

set_option maxHeartbeats 2000000 in
theorem update_ok (s : BitVec 32) (v : Value) (bs : List UInt8) (w : World) (hv : Sees w 1 v bs.length (bvs bs)) :
    Calls Try.prog 57 #[.int .u32 s.toNat, v] w fun e w' => e = .returned (.int .u32 (updB s bs).toNat) ∧ w = w' := by
  obtain ⟨_, hm, xa, xc, rfl, hc⟩ := hv
  have hm2 : (bs.length : Int) ≤ 9223372036854775807 := by unfold maxLen at hm; omega
  have hn1 := u32_not s
  have hu : updB s bs = ~~~ (regs (~~~ s) bs) := rfl
  obtain ⟨c, hc1⟩ : ∃ c, ~~~ s = c := ⟨_, rfl⟩
  rw [hc1] at hn1 hu
  rw [hu]
  clear hu hc1
  obtain ⟨d, hd⟩ : ∃ d, ~~~ (regs c bs) = d := ⟨_, rfl⟩
  rw [hd]
  have Hd := Lib.hid hd
  clear hd
  go_enter Try.func57, Try.ntmps57
  go_wp2_with fail
  go_loop [5, 12] (fun x i => ∃ k : Nat, k ≤ bs.length ∧ i = .int .i64 k ∧ x = .int .u32 (regs c (bs.take k)).toNat) (fun _ i => bs.length - (intOf i).toNat)
  case atStart => exact ⟨0, by omega, rfl, rfl⟩
  case round =>
    obtain ⟨k, hk, rfl, rfl⟩ := hrel
    by_cases hl : k < bs.length
    · have hl2 : (k : Int) < (bs.length : Int) := by omega
      have hs := regs_take_succ c bs k hl
      obtain ⟨x, hx⟩ : ∃ x, regs c (bs.take k) = x := ⟨_, rfl⟩
      obtain ⟨b, hb⟩ : ∃ b, bs[k] = b := ⟨_, rfl⟩
      rw [hx, hb] at hs
      rw [hx]
      obtain ⟨g, off, rfl, hr⟩ := hc (by omega)
      have hcell : w.cell? ⟨g, off + k, none⟩ = some (.int .u8 b.toNat) := by
        have := hr k (bv bs[k]) (bvs_get bs k hl)
        rw [this, hb]; rfl
      have h1 := low_byte x b
      have h2 := eat_fact x b
      obtain ⟨y, hy⟩ : ∃ y, (x &&& 255#32) ^^^ BitVec.ofNat 32 b.toNat = y := ⟨_, rfl⟩
      rw [hy] at h1 h2
      clear hy
      have Hs := Lib.hid hs
      clear hs hx hb hr hc hn1
      go_wp2_with fail
      refine (step_ok y w).mono ?_
      rintro e w' ⟨rfl, rfl⟩
      dsimp only
      go_wp2_with fail
      exact ⟨⟨k + 1, by omega, by go_num, by rw [Hs.out]⟩, by simp [intOf]; omega⟩
    · obtain rfl : k = bs.length := by omega
      rw [List.take_length]
      have hn2 := u32_not (regs c bs)
      rw [Hd.out] at hn2
      go_wp2_with fail
      go_ret
      exact ⟨rfl, rfl⟩

theorem sum_ok (v : Value) (bs : List UInt8) (w : World) (hv : Sees w 1 v bs.length (bvs bs)) :
    Calls Try.prog 52 #[v] w fun e w' => e = .returned (.int .u32 (updB 0 bs).toNat) ∧ w = w' := by
  have Hv := Lib.hid (update_ok 0 v bs w hv)
  clear hv
  go_enter Try.func52, Try.ntmps52
  go_wp2_with fail
  refine Hv.out.mono ?_
  rintro e w' ⟨rfl, rfl⟩
  dsimp only
  go_wp2_with fail
  go_ret
  exact ⟨rfl, rfl⟩
end Go.Proofs.Ytocameknhglklaa

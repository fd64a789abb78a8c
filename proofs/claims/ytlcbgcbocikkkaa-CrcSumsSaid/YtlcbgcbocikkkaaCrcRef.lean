/- docketref01.Sum; the table's Calls; a nil table. -/
import Derived.Test.YtlcbgcbocikkkaaCrcFixed
namespace Go.Proofs.Ytlcbgcbocikkkaa
open Go.RowKit
set_option linter.unusedSimpArgs false
set_option linter.unusedVariables false
set_option maxRecDepth 100000

theorem xor_byte (x : BitVec 32) (b : UInt8) : bits BinOp.xor IntKind.u32 (x.toNat : Int) ((b.toNat : Int) % 4294967296) = ((x ^^^ BitVec.ofNat 32 b.toNat).toNat : Int) := by
  have hb := b.toNat_lt
  have e2 : (b.toNat : Int) % 4294967296 = ((BitVec.ofNat 32 b.toNat).toNat : Int) := by rw [BitVec.toNat_ofNat, Nat.mod_eq_of_lt (by omega)]; omega
  rw [e2, u32_xor]
theorem xor_ones (x : BitVec 32) : bits BinOp.xor IntKind.u32 (x.toNat : Int) 4294967295 = ((~~~x).toNat : Int) := by
  have e : (4294967295 : Int) = ((BitVec.allOnes 32).toNat : Int) := by decide
  rw [e, u32_xor, BitVec.xor_allOnes]

set_option maxHeartbeats 4000000 in
theorem ref_sum (v : Value) (bs : List UInt8) (w : World) (hv : Sees w 1 v bs.length (bvs bs)) :
    Calls Try.prog 36 #[v] w fun e w' => e = .returned (.int .u32 (updB 0 bs).toNat) ∧ w = w' := by
  obtain ⟨_, hm, xa, xc, rfl, hc⟩ := hv
  have hm2 : (bs.length : Int) ≤ 9223372036854775807 := by unfold maxLen at hm; omega
  have hu : updB 0 bs = ~~~ (regs (~~~ (0#32)) bs) := rfl
  obtain ⟨i0, hi0⟩ : ∃ i0, ~~~ (0#32) = i0 := ⟨_, rfl⟩
  rw [hu, hi0]
  obtain ⟨d, hd⟩ : ∃ d, ~~~ (regs i0 bs) = d := ⟨_, rfl⟩
  rw [hd]
  have hi1 : (4294967295 : Int) = (i0.toNat : Int) := by rw [← hi0]; decide
  have Hd2 := Lib.hid (And.intro hd hi1)
  have Hc := Lib.hid hc
  clear hd hu hi0 hi1 hc
  go_enter Try.func36, Try.ntmps36
  go_wp2_with fail
  go_loop [3, 4, 5] (fun x i _ => ∃ k : Nat, k ≤ bs.length ∧ i = .int .i64 k ∧ x = .int .u32 (regs i0 (bs.take k)).toNat) (fun _ i _ => bs.length - (intOf i).toNat)
  case atStart => exact ⟨0, by omega, rfl, by rw [Hd2.out.2]; rfl⟩
  case round =>
    obtain ⟨k, hk, rfl, rfl⟩ := hrel
    by_cases hl : k < bs.length
    · have hl2 : (k : Int) < (bs.length : Int) := by omega
      have hs := regs_take_succ i0 bs k hl
      obtain ⟨x, hx⟩ : ∃ x, regs i0 (bs.take k) = x := ⟨_, rfl⟩
      obtain ⟨b, hb⟩ : ∃ b, bs[k] = b := ⟨_, rfl⟩
      rw [hx, hb, eat_eq] at hs
      rw [hx]
      obtain ⟨g, off, rfl, hr⟩ := Hc.out (by omega)
      have hcell : w.cell? ⟨g, off + k, none⟩ = some (.int .u8 b.toNat) := by
        have := hr k (bv bs[k]) (bvs_get bs k hl)
        rw [this, hb]; rfl
      have h1 := xor_byte x b
      obtain ⟨y, hy⟩ : ∃ y, x ^^^ BitVec.ofNat 32 b.toNat = y := ⟨_, rfl⟩
      rw [hy] at h1 hs
      have Hs := Lib.hid hs
      clear hs hx hb hr hy
      go_wp2_with fail
      go_loop [3, 5] (fun x j => ∃ t : Nat, t ≤ 8 ∧ j = .int .i64 t ∧ x = .int .u32 (steps t y).toNat) (fun _ j => 8 - (intOf j).toNat)
      case atStart => exact ⟨0, by omega, rfl, rfl⟩
      case round =>
        obtain ⟨t, ht, rfl, rfl⟩ := hrel
        by_cases h8 : (t : Int) < 8
        · obtain ⟨z, hz⟩ : ∃ z, steps t y = z := ⟨_, rfl⟩
          have hst : steps (t + 1) y = step1 z := by rw [steps_add, hz]; rfl
          rw [hz]
          have Hst := Lib.hid hst
          clear hst hz
          by_cases hodd : ((z.toNat : Int) % 2 == 1) = true
          · have h5 := step1_odd hodd
            go_wp2_with fail
            exact ⟨⟨t + 1, by omega, by go_num, by rw [Hst.out]⟩, by simp [intOf]; omega⟩
          · have hev : ((z.toNat : Int) % 2 == 1) = false := by simpa using hodd
            have h5 := step1_even hev
            clear hodd
            go_wp2_with fail
            exact ⟨⟨t + 1, by omega, by go_num, by rw [Hst.out]⟩, by simp [intOf]; omega⟩
        · obtain rfl : t = 8 := by omega
          obtain ⟨z, hz⟩ : ∃ z, steps 8 y = z := ⟨_, rfl⟩
          have Hz := Lib.hid hz
          rw [hz]
          clear hz
          go_wp2_with fail
          exact ⟨⟨k + 1, by omega, by go_num, by rw [Hs.out, Hz.out]⟩, by simp [intOf]; omega⟩
    · obtain rfl : k = bs.length := by omega
      rw [List.take_length]
      have hn2 := xor_ones (regs i0 bs)
      rw [Hd2.out.1] at hn2
      go_wp2_with fail
      go_ret
      exact ⟨rfl, rfl⟩

theorem calls_ok (b : Nat) (d m : Int) (rows : List (BitVec 32)) (c : Int) (w : World) (hT : TabAt w b d m rows c) :
    Calls Try.prog 38 #[.pointer (some ⟨b, 0, none⟩)] w fun e w' => e = .returned (.int .i64 c) ∧ w = w' := by
  have hl := run_call_load (P := Try.prog) Try.func59 (by kernel_rfl) (by kernel_rfl) (by kernel_rfl) .i64 (by kernel_rfl) hT.cellC
  clear hT
  go_enter Try.func38, Try.ntmps38
  go_wp2_with ((go_at_call 54; go_in))
  go_ret
  exact ⟨rfl, rfl⟩
theorem calls_nil (w : World) : Calls Try.prog 38 #[.pointer none] w fun e w' => e = .returned (.int .i64 0) ∧ w = w' := by
  go_enter Try.func38, Try.ntmps38
  go_wp2_with fail
  go_ret
  exact ⟨rfl, rfl⟩
theorem sum_nil (v : Value) (bs : List UInt8) (w : World) (hv : Sees w 1 v bs.length (bvs bs)) :
    Calls Try.prog 37 #[.pointer none, v] w fun e w' => e = .returned (.int .u32 (updB 0 bs).toNat) ∧ w = w' := by
  have Hv := Lib.hid (sum_ok v bs w hv)
  clear hv
  go_enter Try.func37, Try.ntmps37
  go_wp2_with fail
  refine Hv.out.mono ?_
  rintro e w' ⟨rfl, rfl⟩
  dsimp only
  go_wp2_with fail
  go_ret
  exact ⟨rfl, rfl⟩
end Go.Proofs.Ytlcbgcbocikkkaa

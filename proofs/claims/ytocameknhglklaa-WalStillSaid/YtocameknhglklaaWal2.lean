/- Contracts of package wal: get. -/
import Derived.Test.YtocameknhglklaaWal1
namespace Go.Proofs.Ytocameknhglklaa
open Go.RowKit
set_option linter.unusedSimpArgs false
set_option linter.unusedVariables false
set_option maxRecDepth 100000

theorem or_byte (n b : Nat) (hn : n < 2 ^ 56) (hb : b < 256) : bits BinOp.or IntKind.u64 ((n * 256 : Nat) : Int) (b : Int) = ((b + 256 * n : Nat) : Int) := by
  have h : (BitVec.ofInt 64 ((n * 256 : Nat) : Int) ||| BitVec.ofInt 64 (b : Int)).toNat = b + 256 * n := by
    rw [BitVec.ofInt_natCast, BitVec.ofInt_natCast, BitVec.toNat_or, BitVec.toNat_ofNat, BitVec.toNat_ofNat, Nat.mod_eq_of_lt (by omega), Nat.mod_eq_of_lt (by omega)]
    have := Nat.shiftLeft_add_eq_or_of_lt (i := 8) (b := b) (by omega) n
    rw [Nat.shiftLeft_eq] at this
    rw [← this]; omega
  show IntKind.u64.wrap (((BitVec.ofInt 64 ((n * 256 : Nat) : Int) ||| BitVec.ofInt 64 (b : Int)).toNat : Nat) : Int) = _
  rw [h]
  show ((b + 256 * n : Nat) : Int) % 18446744073709551616 = _
  omega

theorem unB_drop (bs : Bytes) (size j : Nat) (hj : j < size) (hs : size ≤ bs.length) : unB ((bs.take size).drop j) = (bs[j]'(by omega)).toNat + 256 * unB ((bs.take size).drop (j + 1)) := by
  have h : j < (bs.take size).length := by simp; omega
  rw [List.drop_eq_getElem_cons h, unB]
  simp

set_option maxHeartbeats 2000000 in
theorem get_ok (xa : Option Addr) (n xc : Nat) (bs : Bytes) (size : Nat) (w : World) (hv : Sees w 1 (.slice xa n xc) bs.length (bvs bs)) (hs : size ≤ 8) (hl : size ≤ bs.length) :
    Calls Try.prog 48 #[.slice xa n xc, .int .i64 size] w fun e w' => e = .returned (.int .u64 (unB (bs.take size))) ∧ w = w' := by
  obtain ⟨_, hm, x', c', e', _⟩ := id hv
  cases e'
  have hs2 : (size : Int) ≤ 8 := by omega
  have hlm : (bs.length : Int) ≤ 9223372036854775807 := by unfold maxLen at hm; omega
  have Hv := Lib.hid (And.intro hv (And.intro hs hl))
  clear hv hs hl hm
  go_enter Try.func48, Try.ntmps48
  go_wp2_with fail
  go_loop [5, 6] (fun n i => ∃ (k : Nat), k ≤ size ∧ i = .int .i64 ((k : Int) - 1) ∧ n = .int .u64 ((unB ((bs.take size).drop k) : Nat) : Int)) (fun _ i => (intOf i + 1).toNat)
  case atStart => exact ⟨size, Nat.le_refl _, rfl, by rw [List.drop_eq_nil_of_le (by simp; omega)]; rfl⟩
  case round =>
    obtain ⟨k, hk, rfl, rfl⟩ := hrel
    by_cases h0 : k = 0
    · subst h0
      have hneg : decide ((0 : Int) ≤ ((0 : Nat) : Int) - 1) = false := by decide
      go_wp2_with fail
      go_ret
      exact ⟨by simp, rfl⟩
    · obtain ⟨j, rfl⟩ : ∃ j, k = j + 1 := ⟨k - 1, by omega⟩
      have e1 : ((j + 1 : Nat) : Int) - 1 = (j : Int) := by omega
      have hjlen : j < bs.length := by have := Hv.out.2.2; omega
      have hd := unB_drop bs size j (by omega) Hv.out.2.2
      have hlt := unB_lt ((bs.take size).drop (j + 1))
      have hlt2 : unB ((bs.take size).drop (j + 1)) < 2 ^ 56 := by
        refine Nat.lt_of_lt_of_le hlt ?_
        have : ((bs.take size).drop (j + 1)).length ≤ 7 := by have := Hv.out.2.1; simp; omega
        calc 256 ^ ((bs.take size).drop (j + 1)).length ≤ 256 ^ 7 := Nat.pow_le_pow_right (by decide) this
          _ = 2 ^ 56 := by decide
      obtain ⟨M, hM⟩ : ∃ M, unB ((bs.take size).drop (j + 1)) = M := ⟨_, rfl⟩
      obtain ⟨x, hx⟩ : ∃ x, bs[j]'hjlen = x := ⟨_, rfl⟩
      obtain ⟨_, _, xo, cc, e', hc⟩ := Hv.out.1
      cases e'
      obtain ⟨g, off, rfl, hr⟩ := hc (by have := Hv.out.2.2; omega)
      have hcell : w.cell? ⟨g, off + j, none⟩ = some (.int .u8 x.toNat) := by
        have := hr j (bv bs[j]) (bvs_get bs j (by have := Hv.out.2.2; omega))
        rw [this, hx]; rfl
      rw [hM, hx] at hd
      rw [hM] at hlt2
      have hor := or_byte M x.toNat hlt2 x.toNat_lt
      have hjl : (j : Int) < (bs.length : Int) := by have := Hv.out.2.2; omega
      have hj0 : (0 : Int) ≤ (j : Int) := by omega
      have hwr : IntKind.u64.wrap ((M : Int) * 256) = ((M * 256 : Nat) : Int) := by
        show ((M : Int) * 256) % 18446744073709551616 = _
        omega
      have hwx : IntKind.u64.wrap (x.toNat : Int) = (x.toNat : Int) := by
        have := x.toNat_lt
        show (x.toNat : Int) % 18446744073709551616 = _
        omega
      have hfin : bits BinOp.or IntKind.u64 (IntKind.u64.wrap ((M : Int) * 256)) (IntKind.u64.wrap (x.toNat : Int)) = ((unB ((bs.take size).drop j) : Nat) : Int) := by
        rw [hwx, hwr, hor, hd]
      have Hd := Lib.hid hfin
      rw [hM, e1]
      clear hlt hlt2 hM hx hr hc hd e1 hwx hfin hwr hor
      go_wp2_with fail
      exact ⟨⟨j, by omega, rfl, by rw [Hd.out]⟩, by simp [intOf]⟩
end Go.Proofs.Ytocameknhglklaa

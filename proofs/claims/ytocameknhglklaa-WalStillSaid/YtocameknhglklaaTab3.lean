/- The table's Sum and Calls; docketlaw01.fixed. -/
import Derived.Test.YtocameknhglklaaTab2
namespace Go.Proofs.Ytocameknhglklaa
open Go.RowKit
set_option linter.unusedSimpArgs false
set_option maxRecDepth 100000

def Ready (w : World) (b o : Nat) (pre post : List Value) (t : TypeId) (c : Int) : Prop := (∃ rows, TabAt w b o pre post t 0 0 rows c) ∨ TabAt w b o pre post t 1 0 fullRows c
theorem do_ready (b o : Nat) (pre post : List Value) (t : TypeId) (c : Int) (w : World) (h : Ready w b o pre post t c) :
    Calls Try.prog 53 #[.pointer (some ⟨b, o, none⟩), .func (.func 54) #[.pointer (some ⟨b, o, none⟩)] #[]] w fun e w' => e = .returned (.tuple #[]) ∧ Upd (fun j => j = b) w w' ∧ TabAt w' b o pre post t 1 0 fullRows c := by
  rcases h with ⟨rows, hT⟩ | hT
  · exact do_first b o pre post t rows c w hT
  · refine (do_done ⟨b, o, none⟩ _ w hT.cell0).mono ?_
    rintro e w' ⟨rfl, rfl⟩
    exact ⟨rfl, Upd.refl _ _, hT⟩

theorem u8_xor_idx (x : BitVec 32) (b : UInt8) : bits BinOp.xor IntKind.u8 ((x.toNat : Int) % 256) (b.toNat : Int) = (((x &&& 255#32) ^^^ BitVec.ofNat 32 b.toNat).toNat : Int) ∧ ((x &&& 255#32) ^^^ BitVec.ofNat 32 b.toNat).toNat < 256 := by
  have hb := b.toNat_lt
  have e1 : (x &&& 255#32).toNat = x.toNat % 256 := by rw [BitVec.toNat_and, show (255#32).toNat = 2 ^ 8 - 1 by decide, Nat.and_two_pow_sub_one_eq_mod]
  have e2 : (BitVec.ofNat 32 b.toNat).toNat = b.toNat := by rw [BitVec.toNat_ofNat, Nat.mod_eq_of_lt (by omega)]
  have e3 : ((x &&& 255#32) ^^^ BitVec.ofNat 32 b.toNat).toNat = (x.toNat % 256) ^^^ b.toNat := by rw [BitVec.toNat_xor, e1, e2]
  have hlt : (x.toNat % 256) ^^^ b.toNat < 2 ^ 8 := Nat.xor_lt_two_pow (by omega) (by omega)
  refine ⟨?_, by rw [e3]; exact hlt⟩
  rw [e3]
  have e5 : (x.toNat : Int) % 256 = ((x.toNat % 256 : Nat) : Int) := by omega
  rw [e5]
  show IntKind.u8.wrap (((BitVec.ofInt 8 ((x.toNat % 256 : Nat) : Int) ^^^ BitVec.ofInt 8 (b.toNat : Int)).toNat : Nat) : Int) = _
  rw [BitVec.toNat_xor, BitVec.ofInt_natCast, BitVec.ofInt_natCast, BitVec.toNat_ofNat, BitVec.toNat_ofNat, Nat.mod_eq_of_lt (show x.toNat % 256 < 2 ^ 8 by omega), Nat.mod_eq_of_lt (show b.toNat < 2 ^ 8 by omega), IntKind.wrap_u8]
  omega

set_option maxHeartbeats 4000000 in
theorem table_sum (b o : Nat) (pre post : List Value) (t : TypeId) (c : Int) (v : Value) (bs : List UInt8) (w : World) (h : Ready w b o pre post t c) (hv : Sees w 1 v bs.length (bvs bs)) (hvb : ∀ k, v.ownBlock = some k → 0 < bs.length → k ≠ b) :
    Calls Try.prog 41 #[.pointer (some ⟨b, o, none⟩), v] w fun e w' => e = .returned (.int .u32 (updB 0 bs).toNat) ∧ Upd (fun j => j = b) w w' ∧ TabAt w' b o pre post t 1 0 fullRows (IntKind.i64.wrap (c + 1)) := by
  obtain ⟨c2, hc2⟩ : ∃ c2, IntKind.i64.wrap (c + 1) = c2 := ⟨_, rfl⟩
  rw [hc2]
  have Hc2 := Lib.hid hc2
  clear hc2
  have Hd := Lib.hid (do_ready b o pre post t c w h)
  have hmf : ∀ (fn : Fn) (first cap : Array Value) (w : World), (Instr.makeFunc fn first cap).run Try.prog w = .ok (.func fn first cap) w := fun _ _ _ _ => rfl
  have Hv := Lib.hid hv
  have Hvb := Lib.hid hvb
  obtain ⟨_, hm, xa, xc, rfl, _⟩ := hv
  have hm2 : (bs.length : Int) ≤ 9223372036854775807 := by unfold maxLen at hm; omega
  clear h hm hvb
  have hn1 : ~~~ (0#32) = 4294967295#32 := by decide
  have hu : updB 0 bs = ~~~ (regs (~~~ (0#32)) bs) := rfl
  obtain ⟨i0, hi0⟩ : ∃ i0, ~~~ (0#32) = i0 := ⟨_, rfl⟩
  rw [hu, hi0]
  obtain ⟨d, hd⟩ : ∃ d, ~~~ (regs i0 bs) = d := ⟨_, rfl⟩
  rw [hd]
  have hi1 : (4294967295 : Int) = (i0.toNat : Int) := by rw [← hi0]; decide
  have Hd2 := Lib.hid (And.intro hd hi1)
  clear hd hu hi0 hn1 hi1
  go_enter Try.func41, Try.ntmps41
  go_wp2_with fail
  refine Hd.out.mono ?_
  rintro e w1 ⟨rfl, hU1, hT1⟩
  dsimp only
  have hadd0 : (Op.intArith .add .i64 c 1).run Try.prog w1 = .ok (.int .i64 c2) w1 := by
    rw [← Hc2.out]; rfl
  have hadd := run_call_add (P := Try.prog) Try.func61 (by kernel_rfl) (by kernel_rfl) (by kernel_rfl) .i64 (by kernel_rfl) (y := 1) (s := c2) hT1.cellC (unfrozen hT1.heap (o + 259)) hadd0
  have HT := Lib.hid (And.intro (hU1.setCell (p := ⟨b, o + 259, none⟩) (.int .i64 c2) (.inl rfl)) (hT1.setC c2))
  have Hv1 := Lib.hid (Hv.out.upd hU1 (fun k hk h0 e => Hvb.out k hk h0 e))
  clear hU1 hT1
  go_wp2_with ((go_at_call 55; go_in))
  have Hv2 := Lib.hid (Hv1.out.upd ((Upd.refl (fun j => j = b) w1).setCell (p := ⟨b, o + 259, none⟩) (.int .i64 c2) (.inl rfl)) (fun k hk h0 e => Hvb.out k hk h0 e))
  generalize w1.setCell ⟨b, o + 259, none⟩ (.int .i64 c2) = w2 at *
  clear Hv Hv1 hadd Hd hmf
  go_loop [5, 24] (fun x i => ∃ k : Nat, k ≤ bs.length ∧ i = .int .i64 k ∧ x = .int .u32 (regs i0 (bs.take k)).toNat) (fun _ i => bs.length - (intOf i).toNat)
  case atStart => exact ⟨0, by omega, rfl, by rw [Hd2.out.2]; rfl⟩
  case round =>
    obtain ⟨k, hk, rfl, rfl⟩ := hrel
    by_cases hl : k < bs.length
    · have hl2 : (k : Int) < (bs.length : Int) := by omega
      have hs := regs_take_succ i0 bs k hl
      obtain ⟨x, hx⟩ : ∃ x, regs i0 (bs.take k) = x := ⟨_, rfl⟩
      obtain ⟨u, hub⟩ : ∃ u, bs[k] = u := ⟨_, rfl⟩
      rw [hx, hub] at hs
      rw [hx]
      obtain ⟨_, _, xo, cc, e', hc⟩ := Hv2.out
      cases e'
      obtain ⟨g, off, rfl, hr⟩ := hc (by omega)
      have hcell : w2.cell? ⟨g, off + k, none⟩ = some (.int .u8 u.toNat) := by
        have := hr k (bv bs[k]) (bvs_get bs k hl)
        rw [this, hub]; rfl
      obtain ⟨h1, hy⟩ := u8_xor_idx x u
      have h2 := eat_fact x u
      obtain ⟨y, hye⟩ : ∃ y, (x &&& 255#32) ^^^ BitVec.ofNat 32 u.toNat = y := ⟨_, rfl⟩
      rw [hye] at h1 h2 hy
      obtain ⟨n, hn⟩ : ∃ n, y.toNat = n := ⟨_, rfl⟩
      have hyn : y = BitVec.ofNat 32 n := by rw [← hn, BitVec.ofNat_toNat]; simp
      rw [hn] at h1 hy
      have hrow : w2.cell? ⟨b, o + 3 + n, none⟩ = some (.int .u32 (steps 8 y).toNat) := by
        rw [HT.out.2.cellR n hy]
        simp [fullRows, u32V, hyn]
      have hn3 : (n : Int) < 256 := by omega
      have Hs := Lib.hid hs
      clear hs hx hub hr hc hye hn hyn hy
      go_wp2_with fail
      exact ⟨⟨k + 1, by omega, by go_num, by rw [Hs.out]⟩, by simp [intOf]; omega⟩
    · obtain rfl : k = bs.length := by omega
      rw [List.take_length]
      have hn2 := u32_not (regs i0 bs)
      rw [Hd2.out.1] at hn2
      go_wp2_with fail
      go_ret
      exact ⟨rfl, HT.out⟩
end Go.Proofs.Ytocameknhglklaa

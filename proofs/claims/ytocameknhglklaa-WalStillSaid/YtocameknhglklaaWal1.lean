/- Contracts of package wal: put, get. -/
import Derived.Test.YtocameknhglklaaRow
import Derived.Test.YtocameknhglklaaWalM
import Derived.Test.YtocameknhglklaaDisk6
import Derived.Test.YtocameknhglklaaTab3
import Derived.Test.YtocameknhglklaaStr
import Derived.Test.YtocameknhglklaaRegionD
namespace Go.Proofs.Ytocameknhglklaa
open Go.RowKit
set_option linter.unusedSimpArgs false
set_option linter.unusedVariables false
set_option maxRecDepth 100000

theorem infoU8 : (Try.prog.info? 5).map (fun i => (i.zero, i.size, i.bytes)) = some (some (.int .u8 0), 1, 1) := by kernel_rfl
theorem bv_nat (n : Nat) : bv (UInt8.ofNat (n % 256)) = .int .u8 ((n % 256 : Nat) : Int) := by
  have : (UInt8.ofNat (n % 256)).toNat = n % 256 := by simp
  rw [bv, this]

set_option maxHeartbeats 2000000 in
theorem put_ok (v : Value) (l : Bytes) (N size : Nat) (w : World) (hv : Mid w 1 v l.length (bvs l)) (hN : N < 18446744073709551616) (hs : size ≤ 8) (hl : l.length ≤ 100000000000000) :
    Calls Try.prog 40 #[v, .int .u64 N, .int .i64 size] w fun e w' => ∃ x' c', e = .returned (.slice x' (l.length + size) c') ∧ Mid w' 1 (.slice x' (l.length + size) c') (l.length + size) (bvs (l ++ leB size N)) ∧
      Upd (fun k => v.ownBlock = some k) w w' ∧ (∀ k, (Value.slice x' (l.length + size) c').ownBlock = some k → v.ownBlock = some k ∨ w.heap.size ≤ k) := by
  obtain ⟨x0, c0, rfl⟩ := hv.sees.shape
  have hs2 : (size : Int) ≤ 8 := by omega
  have Hl := Lib.hid (And.intro hl (And.intro hs hN))
  let R : Nat → Option Addr → Nat → World → Prop := fun k x c wr => Mid wr 1 (.slice x (l.length + k) c) (l.length + k) (bvs (l ++ leB k N)) ∧ Upd (fun j => (Value.slice x0 l.length c0).ownBlock = some j) w wr ∧ (∀ j, (Value.slice x (l.length + k) c).ownBlock = some j → (Value.slice x0 l.length c0).ownBlock = some j ∨ w.heap.size ≤ j)
  have HR0 : Hid (R 0 x0 c0 w) := ⟨by simpa [leB] using hv, Upd.refl _ _, fun j hj => .inl hj⟩
  clear hv hl hs hN
  go_enter Try.func40, Try.ntmps40
  go_wp2_with fail
  go_loopw [0, 1, 8] (fun b n i wr => ∃ (k : Nat) (x : Option Addr) (c : Nat), k ≤ size ∧ i = .int .i64 k ∧ n = .int .u64 ((N / 256 ^ k : Nat) : Int) ∧ b = .slice x (l.length + k) c ∧ Hid (R k x c wr)) (fun _ _ i _ => size - (intOf i).toNat)
  case atStart => exact ⟨0, x0, c0, Nat.zero_le _, rfl, by simp, rfl, HR0⟩
  case round =>
    clear HR0
    obtain ⟨k, x, c, hk, rfl, rfl, rfl, HR⟩ := hrel
    by_cases hlt : k < size
    · have hlt2 : (k : Int) < (size : Int) := by omega
      obtain ⟨M, hM⟩ : ∃ M, N / 256 ^ k = M := ⟨_, rfl⟩
      rw [hM]
      have HM := Lib.hid hM
      clear hM
      go_wp2_with ((with_reducible apply wpl_append_mid 5 1 1 _ (.slice x (l.length + k) c) (l.length + k) (bvs (l ++ leB k N)) 1 [.int .u8 ((M : Int) % 256)]))
      · exact Try.underlying98
      · exact infoU8
      · rfl
      · rfl
      · exact HR.out.1.upd ((Upd.refl (fun _ => False) wr).alloc _) (fun _ _ h => h)
      · exact Sees.at rfl (by decide) (rangeAt_of_row (heap_alloc_new wr (.cells ([.int .u8 ((M : Int) % 256)] : List Value).toArray 5)) rfl)
      · intro u hu; simp at hu; rw [hu]; rfl
      · have := Hl.out; unfold maxLen; omega
      · have := Hl.out; omega
      intro x' c' w4 hmid hu hbk
      try (simp only [Act.put, List.setIfInBounds_toArray, List.set_cons_zero, List.set_cons_succ])
      have hput : bvs (l ++ leB k N) ++ [.int .u8 ((M : Int) % 256)] = bvs (l ++ leB (k + 1) N) := by
        rw [leB_snoc, ← List.append_assoc, bvs_append (l ++ leB k N), HM.out]
        congr 1
        show _ = [bv _]
        rw [bv_nat]
        simp
      rw [hput] at hmid
      have hR : R (k + 1) x' c' w4 := by
        have hs := HR.out.2.1.size
        refine ⟨hmid, ((HR.out.2.1.alloc _).then hu (fun j hj => ?_)), fun j hj => ?_⟩
        · rcases HR.out.2.2 j hj with h | h
          · exact .inl h
          · exact .inr h
        · rcases hbk with hb | hb
          · exact HR.out.2.2 j (by rw [← hb]; exact hj)
          · have e : (Value.slice x' (l.length + (k + 1)) c').ownBlock = (Value.slice x' (l.length + k + 1) c').ownBlock := rfl
            rw [e, hb] at hj
            simp at hj
            exact .inr (by omega)
      have HR2 : Hid (R (k + 1) x' c' w4) := hR
      have hdiv : (M : Int) / 256 = ((N / 256 ^ (k + 1) : Nat) : Int) := by
        rw [← HM.out, Nat.pow_succ, ← Nat.div_div_eq_div_mul]; omega
      have Hdiv := Lib.hid hdiv
      clear hmid hu hbk hput hR hdiv HR
      go_wp2_with fail
      exact ⟨⟨k + 1, x', c', by omega, by go_num, by rw [← Hdiv.out], rfl, HR2⟩, by simp [intOf]; omega⟩
    · obtain rfl : k = size := by omega
      go_wp2_with fail
      go_ret
      exact ⟨x, c, rfl, HR.out.1, HR.out.2.1, HR.out.2.2⟩
end Go.Proofs.Ytocameknhglklaa

/- The walk of DiskNone. -/
import Derived.Test.YtlcbgcbocikkkaaLaw2a
import Derived.Test.YtlcbgcbocikkkaaOpen2
namespace Go.Proofs.Ytlcbgcbocikkkaa
open Go.RowKit
open Go.ChangeShapes Go.WideShapes Go.ChangeAt
set_option linter.unusedSimpArgs false
set_option linter.unusedVariables false
set_option maxRecDepth 100000

theorem open_op2 {H : Type} {enc : TypeId × Value → H} {W : World} {base : Nat} {v : Value} {d : DataW H} {p : List MemPlace} (hv : Value.okWide Try.prog W .any base 50 v) (h : DataW.Trod enc Try.prog W 0 (fun _ => true) true 50 v d p) :
    ∃ o : OpR, v = .agg (opV o).toArray ∧ o.Ok W := by
  obtain ⟨cs, rfl, _⟩ := okWide_struct Try.underlying50 hv
  obtain ⟨n, hn⟩ := h
  obtain ⟨o, ho, hok⟩ := open_op hn
  refine ⟨o, ?_, hok⟩
  rw [← ho]
  simp [Value.cells]

theorem nil_read (i : Int) (w : World) :
    Calls Try.prog 20 #[.pointer none, .int .i64 i] w fun e w' => e = .returned (.tuple #[.slice none 0 0, .int .i64 2]) ∧ w = w' := by
  go_enter Try.func20, Try.ntmps20
  go_wp2_with fail
  refine (check_nil i w).mono ?_
  rintro e w' ⟨rfl, rfl⟩
  dsimp only
  go_wp2_with fail
  go_ret2
  exact ⟨rfl, rfl⟩
theorem nil_write (i : Int) (v : Value) (w : World) :
    Calls Try.prog 17 #[.pointer none, .int .i64 i, v] w fun e w' => e = .returned (.int .i64 2) ∧ w = w' := by
  go_enter Try.func17, Try.ntmps17
  go_wp2_with fail
  refine (check_nil i w).mono ?_
  rintro e w' ⟨rfl, rfl⟩
  dsimp only
  go_wp2_with fail
  go_ret
  exact ⟨rfl, rfl⟩
theorem nil_flush (w : World) :
    Calls Try.prog 18 #[.pointer none] w fun e w' => e = .returned (.int .i64 2) ∧ w = w' := by
  go_enter Try.func18, Try.ntmps18
  go_wp2_with fail
  refine (check_nil 0 w).mono ?_
  rintro e w' ⟨rfl, rfl⟩
  dsimp only
  go_wp2_with fail
  go_ret
  exact ⟨rfl, rfl⟩
theorem nil_fuel (i : Int) (w : World) :
    Calls Try.prog 23 #[.pointer none, .int .i64 i] w fun e w' => e = .returned (.tuple #[]) ∧ w = w' := by
  go_enter Try.func23, Try.ntmps23
  go_wp2_with fail
  go_end0
  exact ⟨rfl, rfl⟩
theorem nil_crash (v : Value) (w : World) :
    Calls Try.prog 19 #[.pointer none, v] w fun e w' => e = .returned (.tuple #[]) ∧ w = w' := by
  go_enter Try.func19, Try.ntmps19
  go_wp2_with fail
  first | go_end0 | (simp only [Exit.inBlock, Exit.then]; refine bodyPost_ret (results_none rfl _ _ _) rfl ?_) | refine bodyPost_ret (results_none rfl _ _ _) rfl ?_
  exact ⟨rfl, rfl⟩
theorem nil_durable (i : Int) (w : World) :
    Calls Try.prog 32 #[.pointer none, .int .i64 i] w fun e w' => e = .returned (.tuple #[.slice none 0 0, .int .i64 2]) ∧ w = w' := by
  go_enter Try.func32, Try.ntmps32
  go_wp2_with fail
  go_ret2
  exact ⟨rfl, rfl⟩
theorem nil_size (w : World) :
    Calls Try.prog 35 #[.pointer none] w fun e w' => e = .returned (.int .i64 0) ∧ w = w' := by
  go_enter Try.func35, Try.ntmps35
  go_wp2_with fail
  go_ret
  exact ⟨rfl, rfl⟩
theorem nil_pending (w : World) :
    Calls Try.prog 21 #[.pointer none] w fun e w' => e = .returned (.int .i64 0) ∧ w = w' := by
  go_enter Try.func21, Try.ntmps21
  go_wp2_with fail
  go_ret
  exact ⟨rfl, rfl⟩
theorem nil_dead (w : World) :
    Calls Try.prog 22 #[.pointer none] w fun e w' => e = .returned (.bool false) ∧ w = w' := by
  go_enter Try.func22, Try.ntmps22
  go_wp2_with fail
  go_ret
  exact ⟨rfl, rfl⟩
theorem nil_clone (w : World) :
    Calls Try.prog 33 #[.pointer none] w fun e w' => e = .returned (.pointer none) ∧ w = w' := by
  go_enter Try.func33, Try.ntmps33
  go_wp2_with fail
  go_ret
  exact ⟨rfl, rfl⟩

set_option maxHeartbeats 4000000 in
theorem diskNone_walk (o : OpR) (w : World) (ho : o.Ok w) :
    Calls Try.prog 14 #[.agg (opV o).toArray] w fun e w' => e = .returned (.bool true) ∧ Below w.heap.size w w' := by
  obtain ⟨k, i, s, ka, kc, keep⟩ := o
  have hs : s.size ≤ maxLen := ho.data
  have Hs := Lib.hid hs
  clear ho hs
  show Calls Try.prog 14 #[.agg #[.int .u8 k, .int .i64 i, .string s, .slice ka keep.length kc]] w _
  go_enter Try.func14, Try.ntmps14
  go_wp2_with fail
  refine (fixed_ok _).mono ?_
  rintro e w0 ⟨rfl, hu0⟩
  dsimp only
  have hU : Upd (fun _ => False) w w0 := ((Upd.refl _ w).alloc _).trans hu0
  have hb : w0.heap[w.heap.size]? = some (.cells #[.int .u8 k, .int .i64 i, .string s, .slice ka keep.length kc] 50) := (hu0.block _ (lt_of_block (heap_alloc_new _ _)) (fun h => h)).trans (heap_alloc_new _ _)
  obtain ⟨c0, c1, c2, c3⟩ := four hb
  have HU := Lib.hid hU
  clear hb hU hu0 c0
  go_wp2_with fail
  refine (nil_fuel i w0).mono ?_
  rintro e w' ⟨rfl, rfl⟩
  dsimp only
  go_wp2_with fail
  refine (nil_crash _ w0).mono ?_
  rintro e w' ⟨rfl, rfl⟩
  dsimp only
  go_wp2_with fail
  refine (nil_read i w0).mono ?_
  rintro e w' ⟨rfl, rfl⟩
  dsimp only
  go_wp2_with fail
  refine (nil_durable i w0).mono ?_
  rintro e w' ⟨rfl, rfl⟩
  dsimp only
  go_wp2_with fail
  refine (nil_size w0).mono ?_
  rintro e w' ⟨rfl, rfl⟩
  dsimp only
  go_wp2_with fail
  obtain ⟨c, X, hcv, hX, _, _, _⟩ := run_string_bytes (P := Try.prog) 9 22 5 s Try.underlying9 Try.underlying22 Try.underlying5 Hs.out w0
  have HX := Lib.hid (HU.out.trans hX)
  clear hX
  refine (nil_pending w0).mono ?_
  rintro e w' ⟨rfl, rfl⟩
  dsimp only
  go_wp2_with fail
  refine (nil_write i _ X).mono ?_
  rintro e w' ⟨rfl, rfl⟩
  dsimp only
  go_wp2_with fail
  refine (nil_flush X).mono ?_
  rintro e w' ⟨rfl, rfl⟩
  dsimp only
  go_wp2_with fail
  refine (nil_dead X).mono ?_
  rintro e w' ⟨rfl, rfl⟩
  dsimp only
  go_wp2_with fail
  refine (nil_clone X).mono ?_
  rintro e w' ⟨rfl, rfl⟩
  dsimp only
  go_wp2_with fail
  go_ret
  exact ⟨rfl, HX.out.below0⟩
end Go.Proofs.Ytlcbgcbocikkkaa

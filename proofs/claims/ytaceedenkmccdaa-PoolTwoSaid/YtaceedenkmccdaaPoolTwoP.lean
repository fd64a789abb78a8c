/- PoolTwo: the statement, out of its walk: for every input, whatever the scheduler does, the call returns true, and each argument reads as it did. -/
import Derived.Test.YtaceedenkmccdaaSn
import Derived.Test.YtaceedenkmccdaaPu
namespace Go.Proofs.Ytaceedenkmccdaa.poolTwo
open Go Go.Conc Go.ConcM Go.ConcN Go.ChangeShapes Go.WideShapes Go.ChangeAt
open Go.RowKit (Below)
set_option linter.unusedVariables false
set_option maxRecDepth 100000
theorem own : ownKnob Try.prog.godebug = none := by kernel_rfl
theorem laidOut : laidOutB Try.prog = true := by kernel_rfl
theorem has22 [Inhabited Base] (Q : Value → World → Prop) : Has22 (PX Q) := ⟨rfl, rfl, fun v => (px_ap Q v).1, fun v => (px_ap Q v).2, fun i p L hs hr => px_worker hs hr⟩
theorem bytes22_32 : Try.prog.bytesOf 21 = 4 := by kernel_rfl
theorem lifted (os : Os) (started : os.Started) (H : Type) (enc : TypeId × Value → H) (F : Stop.Interp) :
    ReturnsInLeavingWide Rows.poolTwoRow.assume Try.checked os 6 .any (Rows.poolTwoSpec.pre6 enc Try.prog Try.f6 Rows.poolTwoRow.domain false) ((OpenSpec.ofChange Rows.poolTwoSpec).postWith enc Try.prog Try.f6 F (outsideKept [.timePasses]) false true false) := by
  refine returnsInLeavingWide_of_change_time (C := Try.checked) own started Try.func6
    (ChangeSpec.witness6c (enc := enc) (C := Try.checked) ⟨#[], #[.int .i64 0, .int .i64 0, .slice none 0 0], []⟩ 8 (by kernel_rfl) (by kernel_rfl) (by kernel_rfl) (by kernel_rfl)) ?_
  intro W base args ds gs before hval0 hW _ hsz _
  have hval : ∀ (j : Nat) t v, Try.f6.params[j]? = some t → args[j]? = some v → Value.okWide Try.prog W .any base t v := hval0
  have hW' := hW
  obtain ⟨p, q, hA0, hV, rfl, _, _⟩ := hW
  have hA : DataW.TrodAll enc Try.prog W 0 (fun _ => true) true Try.f6.params.toList args.toList ds p := hA0
  rw [Try.params6] at hA hval hsz
  obtain ⟨v0, vs0, d0, ds0, p0, q0, hargs, rfl, rfl, h0, r0⟩ := trodAll_cons hA
  obtain ⟨v1, vs1, d1, ds1, p1, q1, rfl, rfl, rfl, h1, r1⟩ := trodAll_cons r0
  obtain ⟨v2, vs2, d2, ds2, p2, q2, rfl, rfl, rfl, h2, r2⟩ := trodAll_cons r1
  obtain ⟨rfl, rfl, rfl⟩ := trodAll_nil r2
  obtain rfl : args = #[v0, v1, v2] := by cases args; simp_all
  obtain ⟨rfl, rfl⟩ := trodVars_none hV
  have k0 := h0
  have lt0 : ∀ x ∈ p0, x.block < W.heap.size := by obtain ⟨m, hm⟩ := k0; exact DataW.trod_lt m _ _ _ hm
  have k1 := h1
  have lt1 : ∀ x ∈ p1, x.block < W.heap.size := by obtain ⟨m, hm⟩ := k1; exact DataW.trod_lt m _ _ _ hm
  have k2 := h2
  have lt2 : ∀ x ∈ p2, x.block < W.heap.size := by obtain ⟨m, hm⟩ := k2; exact DataW.trod_lt m _ _ _ hm
  obtain ⟨a0, rfl, rfl, rfl, w0⟩ := open_int Try.underlying3 (hval 0 3 v0 rfl rfl) h0
  obtain ⟨a1, rfl, rfl, rfl, w1⟩ := open_int Try.underlying3 (hval 1 3 v1 rfl rfl) h1
  obtain ⟨so2, c2, x2, rfl, l2, s2, g2, w2⟩ := open_row Try.underlying34 Try.underlying21 (by kernel_rfl) (hval 2 34 v2 rfl rfl) h2
  have z2 := reach_slice22 Try.underlying34 k2 hsz 2 rfl rfl
  rw [bytes22_32] at z2
  have z2 : x2.length * 8 ≤ 2 * 140737488355328 := by unfold reachBytes at z2; omega
  clear hA0 hval0
  letI : Inhabited Base := ⟨⟨W.heap.size⟩⟩
  obtain ⟨M, last, o, w', t', r1, r2, r3, v, e, ⟨hv, bel, hos⟩, gg⟩ := law_run (f := 6) (args := #[.int .i64 a0, .int .i64 a1, .slice so2 x2.length c2]) rfl (by kernel_rfl) Try.func6 (w_two (has22 _) (start_boss W) start_fin z2 s2 (fun sb e z hz => start_sees (g2 sb e z hz)) w2)
  refine ⟨M, last, o, w', t', r1, r2, r3, v, e, ⟨?_, hos⟩, gg⟩
  subst hv
  exact ⟨_, _, _, [], _, [], hW', trodAll_mk1 (Go.RowKit.shut_bool Try.underlying4 _), (trodAll_cons_mk (Go.RowKit.Below.trod laidOut (by kernel_rfl) (of_decide_eq_true (by kernel_rfl)) k0 bel lt0) (trodAll_cons_mk (Go.RowKit.Below.trod laidOut (by kernel_rfl) (of_decide_eq_true (by kernel_rfl)) k1 bel lt1) (trodAll_cons_mk (Go.RowKit.Below.trod laidOut (by kernel_rfl) (of_decide_eq_true (by kernel_rfl)) k2 bel lt2) trodAll_mk0))), rfl, bel.frame _, fun h => by cases h⟩
/-- The statement. -/
theorem proved : Rows.PoolTwoSaid :=
  OpenClaim.holds_of_wide_leaving_time 6 Try.f6 rfl rfl rfl rfl rfl rfl rfl ⟨rfl, rfl, rfl, rfl, rfl⟩ rfl rfl rfl rfl rfl (by kernel_rfl) Try.func6 (by kernel_rfl)
    (of_decide_eq_true (by kernel_rfl)) (by unfold Func.isWrapper; first | (rw [if_pos (by decide +kernel)]; kernel_rfl) | (rw [if_neg (by decide +kernel)]; exact ⟨rfl, rfl⟩))
    (fun os started H enc _ F => lifted os started H enc F)
#print axioms proved
end Go.Proofs.Ytaceedenkmccdaa.poolTwo

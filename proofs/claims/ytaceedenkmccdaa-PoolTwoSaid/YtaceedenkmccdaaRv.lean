/- Pools: how a goroutine begins and ends; a worker at its select. -/
import Derived.Test.YtaceedenkmccdaaRu
namespace Go.Proofs.Ytaceedenkmccdaa
open Go Go.Conc Go.ConcN
set_option linter.unusedSimpArgs false
set_option linter.unusedVariables false
variable {X : Cx} {i : Nat} {L : Lo} {Post : Value → Lo → Prop}
set_option maxRecDepth 100000
set_option maxHeartbeats 4000000
/-- A goroutine's bottom. -/
def bot (P : Program) : Frame := { (default : Frame) with fn := P.funcs.size, defers := [], mode := .panicking [goexitEntry] }
theorem safe_born [Inhabited Base] {f : FuncId} {fnn : Func} {c : Code} {cap args : Array Value} {n : Nat} (hf : X.P.funcs[f]? = some fnn) (hname : (fnn.name == "runtime.NumGoroutine") = false) (hb : fnn.body = some c) (h : X.safe i n (G (Frame.enter X.P f (args ++ cap) .deferred) [bot X.P]) L) :
    X.safe i (n + 1) (born X.P { target := .fn (.func f) cap, args := args }) L := by
  refine safe_silent rfl (fun w => ?_) h
  have h1 : ¬ fnn.name = "runtime.NumGoroutine" := by simpa using hname
  have hr : (callFunc f (args ++ cap)).run X.P w = .ok (.enter f (args ++ cap)) w := by simp [callFunc, hf, h1, hb]
  have he := ev_callFunc hf hname hb (args ++ cap) w #[]
  simp [born, stepG, unwind, callDeferred, invoke, hr, he, GStep.after, G, bot, seen_none]
theorem quits_bot (P : Program) : QuitsD P 1 0 (G (bot P) []) := by
  refine .inr ⟨rfl, { frame := bot P, callers := [], status := .finished, dying := none }, #[], by simp, fun w => ?_, rfl, rfl⟩
  simp [G, stepG, unwind, bot, goexitEntry, Frame.catches]
  rfl
theorem safe_bot [Inhabited Base] (hl : Lefty L) (h0 : i ≠ 0) (hd : L.d = 0) : X.safe i 1 (G (bot X.P) []) L := .inr ⟨hl, h0, by rw [hd]; exact quits_bot _⟩
theorem w_done [Inhabited Base] (hP : X.P = Try.prog) {wa : Addr} {zs : List Nat} {f : Bool} (h0 : i ≠ 0) (hm : MayLeave X.ap L wa zs f) (hq : L.q = none) (hal : L.h = .alive) (hd : L.d = 0) (hh : L.role.holds wa = true) : CallsSD X i 18 #[.pointer (some wa)] 450 L fun L' => ∃ rr, L' = (L.says wa rr).turn (.left wa zs f 0) none := by
  (obtain ⟨P, ap, SelAt, CI, CW, Q⟩ := X; dsimp only at hP; subst hP)
  (co_apply CallsSD.more; co_apply callsSD_of_wp Try.func18 rfl; simp only [Try.ntmps18, List.size_toArray, List.length_cons, List.length_nil, Nat.reduceAdd, Nat.reduceSub, Array.replicate, List.replicate, List.append_toArray, List.cons_append, List.nil_append, List.append_eq])
  · (repeat (first | (co_apply wpS_region; simp only [List.size_toArray, List.length_cons, List.length_nil, Nat.reduceAdd, Nat.zero_add, List.range, List.range.loop]) | (co_apply opsS_pure; (focus (exact rfl)); (focus (exact rfl)); (focus (intro w; go_simp <;> exact rfl)); (focus (intro w; simp [go_sem, execOp, Act.eval]; done)); try walk_nrm) | (co_apply opsS_nil; try dsimp only) | co_apply wpS_seq | co_apply wpS_skip | (co_apply wpS_cond; (focus (exact rfl)); simp only [if_true, if_false, reduceIte, Bool.false_eq_true])))
    (co_apply opsS_call; (focus (exact rfl)); (focus (exact rfl)); (focus (exact rfl)); (focus (exact Try.func15)); (focus (rfl)); (focus (rfl)); try simp only [List.map_toArray, List.map_cons, List.map_nil])
    · exact w_addNeg rfl h0 hm hq hal hd hh
    rintro _ _ ⟨rfl, hE⟩
    walk_nrm
    (repeat (first | (co_apply wpS_region; simp only [List.size_toArray, List.length_cons, List.length_nil, Nat.reduceAdd, Nat.zero_add, List.range, List.range.loop]) | (co_apply opsS_pure; (focus (exact rfl)); (focus (exact rfl)); (focus (intro w; go_simp <;> exact rfl)); (focus (intro w; simp [go_sem, execOp, Act.eval]; done)); try walk_nrm) | (co_apply opsS_nil; try dsimp only) | co_apply wpS_seq | co_apply wpS_skip | (co_apply wpS_cond; (focus (exact rfl)); simp only [if_true, if_false, reduceIte, Bool.false_eq_true])))
    (first | (co_apply wpS_ret; refine ⟨_, fun w => ⟨results_tmp rfl _ _ _, events_results_tmp rfl _ _⟩, unwinds_nil ?_⟩) | (refine ⟨_, fun w => ⟨results_none rfl _ _ _, events_results_none rfl _ _⟩, unwinds_nil ?_⟩) | (co_apply wpS_ret; refine ⟨_, fun w => ⟨results_none rfl _ _ _, events_results_none rfl _ _⟩, unwinds_nil ?_⟩))
    exact hE
  · decide
end Go.Proofs.Ytaceedenkmccdaa

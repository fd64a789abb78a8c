/- Pools: the walks of the library's small functions. -/
import Derived.Test.YtaceedenkmccdaaKPd
import Derived.Test.YtaceedenkmccdaaRows
namespace Go.Proofs.Ytaceedenkmccdaa
open Go Go.Conc Go.ConcN
set_option linter.unusedSimpArgs false
set_option linter.unusedVariables false
variable {X : Cx} {i : Nat} {L : Lo} {Post : Value → Lo → Prop}
theorem w_i64add [Inhabited Base] (hP : X.P = Try.prog) {ad : Addr} {d : Int} (hm : Move X i L (Extern.Atomic.update (Op.intArith .add) .i64 true #[.pointer (some ad), .int .i64 d]) Post) : CallsS X i 19 #[.pointer (some ad), .int .i64 d] 40 L Post := by
  (obtain ⟨P, ap, SelAt, CI, CW, Q⟩ := X; dsimp only at hP; subst hP)
  (co_apply CallsS.more; co_apply callsS_of_wp Try.func19 rfl; simp only [Try.ntmps19, List.size_toArray, List.length_cons, List.length_nil, Nat.reduceAdd, Nat.reduceSub, Array.replicate, List.replicate, List.append_toArray, List.cons_append, List.nil_append, List.append_eq])
  · (repeat (first | (co_apply wpS_region; simp only [List.size_toArray, List.length_cons, List.length_nil, Nat.reduceAdd, Nat.zero_add, List.range, List.range.loop]) | (co_apply opsS_pure; (focus (exact rfl)); (focus (exact rfl)); (focus (intro w; go_simp <;> exact rfl)); (focus (intro w; simp [go_sem, execOp, Act.eval]; done)); try walk_nrm) | (co_apply opsS_nil; try dsimp only) | co_apply wpS_seq | co_apply wpS_skip | (co_apply wpS_cond; (focus (exact rfl)); simp only [if_true, if_false, reduceIte, Bool.false_eq_true])))
    (co_apply opsS_entry (e := Extern.Atomic.update (Op.intArith .add) .i64 true); (focus (exact rfl)); (focus (exact rfl)); (focus (exact rfl)); (focus (exact Try.func37)); (focus (rfl)); (focus (rfl)); (focus (kernel_rfl)); (focus (kernel_rfl)); try simp only [List.map_toArray, List.map_cons, List.map_nil])
    · exact hm
    intro v L' hp
    walk_nrm
    (repeat (first | (co_apply wpS_region; simp only [List.size_toArray, List.length_cons, List.length_nil, Nat.reduceAdd, Nat.zero_add, List.range, List.range.loop]) | (co_apply opsS_pure; (focus (exact rfl)); (focus (exact rfl)); (focus (intro w; go_simp <;> exact rfl)); (focus (intro w; simp [go_sem, execOp, Act.eval]; done)); try walk_nrm) | (co_apply opsS_nil; try dsimp only) | co_apply wpS_seq | co_apply wpS_skip | (co_apply wpS_cond; (focus (exact rfl)); simp only [if_true, if_false, reduceIte, Bool.false_eq_true])))
    (first | (co_apply wpS_ret; refine ⟨_, fun w => ⟨results_tmp rfl _ _ _, events_results_tmp rfl _ _⟩, unwinds_nil ?_⟩) | (refine ⟨_, fun w => ⟨results_none rfl _ _ _, events_results_none rfl _ _⟩, unwinds_nil ?_⟩) | (co_apply wpS_ret; refine ⟨_, fun w => ⟨results_none rfl _ _ _, events_results_none rfl _ _⟩, unwinds_nil ?_⟩))
    exact hp
  · decide
theorem w_i64load [Inhabited Base] (hP : X.P = Try.prog) {ad : Addr} (hm : Move X i L (Extern.Atomic.loadT (.int .i64) #[.pointer (some ad)]) Post) : CallsS X i 21 #[.pointer (some ad)] 40 L Post := by
  (obtain ⟨P, ap, SelAt, CI, CW, Q⟩ := X; dsimp only at hP; subst hP)
  (co_apply CallsS.more; co_apply callsS_of_wp Try.func21 rfl; simp only [Try.ntmps21, List.size_toArray, List.length_cons, List.length_nil, Nat.reduceAdd, Nat.reduceSub, Array.replicate, List.replicate, List.append_toArray, List.cons_append, List.nil_append, List.append_eq])
  · (repeat (first | (co_apply wpS_region; simp only [List.size_toArray, List.length_cons, List.length_nil, Nat.reduceAdd, Nat.zero_add, List.range, List.range.loop]) | (co_apply opsS_pure; (focus (exact rfl)); (focus (exact rfl)); (focus (intro w; go_simp <;> exact rfl)); (focus (intro w; simp [go_sem, execOp, Act.eval]; done)); try walk_nrm) | (co_apply opsS_nil; try dsimp only) | co_apply wpS_seq | co_apply wpS_skip | (co_apply wpS_cond; (focus (exact rfl)); simp only [if_true, if_false, reduceIte, Bool.false_eq_true])))
    (co_apply opsS_entry (e := Extern.Atomic.loadT (.int .i64)); (focus (exact rfl)); (focus (exact rfl)); (focus (exact rfl)); (focus (exact Try.func43)); (focus (rfl)); (focus (rfl)); (focus (kernel_rfl)); (focus (kernel_rfl)); try simp only [List.map_toArray, List.map_cons, List.map_nil])
    · exact hm
    intro v L' hp
    walk_nrm
    (repeat (first | (co_apply wpS_region; simp only [List.size_toArray, List.length_cons, List.length_nil, Nat.reduceAdd, Nat.zero_add, List.range, List.range.loop]) | (co_apply opsS_pure; (focus (exact rfl)); (focus (exact rfl)); (focus (intro w; go_simp <;> exact rfl)); (focus (intro w; simp [go_sem, execOp, Act.eval]; done)); try walk_nrm) | (co_apply opsS_nil; try dsimp only) | co_apply wpS_seq | co_apply wpS_skip | (co_apply wpS_cond; (focus (exact rfl)); simp only [if_true, if_false, reduceIte, Bool.false_eq_true])))
    (first | (co_apply wpS_ret; refine ⟨_, fun w => ⟨results_tmp rfl _ _ _, events_results_tmp rfl _ _⟩, unwinds_nil ?_⟩) | (refine ⟨_, fun w => ⟨results_none rfl _ _ _, events_results_none rfl _ _⟩, unwinds_nil ?_⟩) | (co_apply wpS_ret; refine ⟨_, fun w => ⟨results_none rfl _ _ _, events_results_none rfl _ _⟩, unwinds_nil ?_⟩))
    exact hp
  · decide
theorem w_u64add [Inhabited Base] (hP : X.P = Try.prog) {ad : Addr} {d : Int} (hm : Move X i L (Extern.Atomic.update (Op.intArith .add) .u64 true #[.pointer (some ad), .int .u64 d]) Post) : CallsS X i 31 #[.pointer (some ad), .int .u64 d] 40 L Post := by
  (obtain ⟨P, ap, SelAt, CI, CW, Q⟩ := X; dsimp only at hP; subst hP)
  (co_apply CallsS.more; co_apply callsS_of_wp Try.func31 rfl; simp only [Try.ntmps31, List.size_toArray, List.length_cons, List.length_nil, Nat.reduceAdd, Nat.reduceSub, Array.replicate, List.replicate, List.append_toArray, List.cons_append, List.nil_append, List.append_eq])
  · (repeat (first | (co_apply wpS_region; simp only [List.size_toArray, List.length_cons, List.length_nil, Nat.reduceAdd, Nat.zero_add, List.range, List.range.loop]) | (co_apply opsS_pure; (focus (exact rfl)); (focus (exact rfl)); (focus (intro w; go_simp <;> exact rfl)); (focus (intro w; simp [go_sem, execOp, Act.eval]; done)); try walk_nrm) | (co_apply opsS_nil; try dsimp only) | co_apply wpS_seq | co_apply wpS_skip | (co_apply wpS_cond; (focus (exact rfl)); simp only [if_true, if_false, reduceIte, Bool.false_eq_true])))
    (co_apply opsS_entry (e := Extern.Atomic.update (Op.intArith .add) .u64 true); (focus (exact rfl)); (focus (exact rfl)); (focus (exact rfl)); (focus (exact Try.func47)); (focus (rfl)); (focus (rfl)); (focus (kernel_rfl)); (focus (kernel_rfl)); try simp only [List.map_toArray, List.map_cons, List.map_nil])
    · exact hm
    intro v L' hp
    walk_nrm
    (repeat (first | (co_apply wpS_region; simp only [List.size_toArray, List.length_cons, List.length_nil, Nat.reduceAdd, Nat.zero_add, List.range, List.range.loop]) | (co_apply opsS_pure; (focus (exact rfl)); (focus (exact rfl)); (focus (intro w; go_simp <;> exact rfl)); (focus (intro w; simp [go_sem, execOp, Act.eval]; done)); try walk_nrm) | (co_apply opsS_nil; try dsimp only) | co_apply wpS_seq | co_apply wpS_skip | (co_apply wpS_cond; (focus (exact rfl)); simp only [if_true, if_false, reduceIte, Bool.false_eq_true])))
    (first | (co_apply wpS_ret; refine ⟨_, fun w => ⟨results_tmp rfl _ _ _, events_results_tmp rfl _ _⟩, unwinds_nil ?_⟩) | (refine ⟨_, fun w => ⟨results_none rfl _ _ _, events_results_none rfl _ _⟩, unwinds_nil ?_⟩) | (co_apply wpS_ret; refine ⟨_, fun w => ⟨results_none rfl _ _ _, events_results_none rfl _ _⟩, unwinds_nil ?_⟩))
    exact hp
  · decide
theorem w_u64load [Inhabited Base] (hP : X.P = Try.prog) {ad : Addr} (hm : Move X i L (Extern.Atomic.loadT (.int .u64) #[.pointer (some ad)]) Post) : CallsS X i 33 #[.pointer (some ad)] 40 L Post := by
  (obtain ⟨P, ap, SelAt, CI, CW, Q⟩ := X; dsimp only at hP; subst hP)
  (co_apply CallsS.more; co_apply callsS_of_wp Try.func33 rfl; simp only [Try.ntmps33, List.size_toArray, List.length_cons, List.length_nil, Nat.reduceAdd, Nat.reduceSub, Array.replicate, List.replicate, List.append_toArray, List.cons_append, List.nil_append, List.append_eq])
  · (repeat (first | (co_apply wpS_region; simp only [List.size_toArray, List.length_cons, List.length_nil, Nat.reduceAdd, Nat.zero_add, List.range, List.range.loop]) | (co_apply opsS_pure; (focus (exact rfl)); (focus (exact rfl)); (focus (intro w; go_simp <;> exact rfl)); (focus (intro w; simp [go_sem, execOp, Act.eval]; done)); try walk_nrm) | (co_apply opsS_nil; try dsimp only) | co_apply wpS_seq | co_apply wpS_skip | (co_apply wpS_cond; (focus (exact rfl)); simp only [if_true, if_false, reduceIte, Bool.false_eq_true])))
    (co_apply opsS_entry (e := Extern.Atomic.loadT (.int .u64)); (focus (exact rfl)); (focus (exact rfl)); (focus (exact rfl)); (focus (exact Try.func48)); (focus (rfl)); (focus (rfl)); (focus (kernel_rfl)); (focus (kernel_rfl)); try simp only [List.map_toArray, List.map_cons, List.map_nil])
    · exact hm
    intro v L' hp
    walk_nrm
    (repeat (first | (co_apply wpS_region; simp only [List.size_toArray, List.length_cons, List.length_nil, Nat.reduceAdd, Nat.zero_add, List.range, List.range.loop]) | (co_apply opsS_pure; (focus (exact rfl)); (focus (exact rfl)); (focus (intro w; go_simp <;> exact rfl)); (focus (intro w; simp [go_sem, execOp, Act.eval]; done)); try walk_nrm) | (co_apply opsS_nil; try dsimp only) | co_apply wpS_seq | co_apply wpS_skip | (co_apply wpS_cond; (focus (exact rfl)); simp only [if_true, if_false, reduceIte, Bool.false_eq_true])))
    (first | (co_apply wpS_ret; refine ⟨_, fun w => ⟨results_tmp rfl _ _ _, events_results_tmp rfl _ _⟩, unwinds_nil ?_⟩) | (refine ⟨_, fun w => ⟨results_none rfl _ _ _, events_results_none rfl _ _⟩, unwinds_nil ?_⟩) | (co_apply wpS_ret; refine ⟨_, fun w => ⟨results_none rfl _ _ _, events_results_none rfl _ _⟩, unwinds_nil ?_⟩))
    exact hp
  · decide
theorem w_u64store [Inhabited Base] (hP : X.P = Try.prog) {ad : Addr} {d : Int} {P' : Lo → Prop} (hm : Move X i L (Extern.Atomic.storeT #[.pointer (some ad), .int .u64 d]) fun _ L' => P' L') : CallsS X i 34 #[.pointer (some ad), .int .u64 d] 40 L fun _ L' => P' L' := by
  (obtain ⟨P, ap, SelAt, CI, CW, Q⟩ := X; dsimp only at hP; subst hP)
  (co_apply CallsS.more; co_apply callsS_of_wp Try.func34 rfl; simp only [Try.ntmps34, List.size_toArray, List.length_cons, List.length_nil, Nat.reduceAdd, Nat.reduceSub, Array.replicate, List.replicate, List.append_toArray, List.cons_append, List.nil_append, List.append_eq])
  · (repeat (first | (co_apply wpS_region; simp only [List.size_toArray, List.length_cons, List.length_nil, Nat.reduceAdd, Nat.zero_add, List.range, List.range.loop]) | (co_apply opsS_pure; (focus (exact rfl)); (focus (exact rfl)); (focus (intro w; go_simp <;> exact rfl)); (focus (intro w; simp [go_sem, execOp, Act.eval]; done)); try walk_nrm) | (co_apply opsS_nil; try dsimp only) | co_apply wpS_seq | co_apply wpS_skip | (co_apply wpS_cond; (focus (exact rfl)); simp only [if_true, if_false, reduceIte, Bool.false_eq_true])))
    (co_apply opsS_entry (e := Extern.Atomic.storeT); (focus (exact rfl)); (focus (exact rfl)); (focus (exact rfl)); (focus (exact Try.func49)); (focus (rfl)); (focus (rfl)); (focus (kernel_rfl)); (focus (kernel_rfl)); try simp only [List.map_toArray, List.map_cons, List.map_nil])
    · exact hm
    intro v L' hp
    walk_nrm
    (repeat (first | (co_apply wpS_region; simp only [List.size_toArray, List.length_cons, List.length_nil, Nat.reduceAdd, Nat.zero_add, List.range, List.range.loop]) | (co_apply opsS_pure; (focus (exact rfl)); (focus (exact rfl)); (focus (intro w; go_simp <;> exact rfl)); (focus (intro w; simp [go_sem, execOp, Act.eval]; done)); try walk_nrm) | (co_apply opsS_nil; try dsimp only) | co_apply wpS_seq | co_apply wpS_skip | (co_apply wpS_cond; (focus (exact rfl)); simp only [if_true, if_false, reduceIte, Bool.false_eq_true])))
    (first | (co_apply wpS_ret; refine ⟨_, fun w => ⟨results_tmp rfl _ _ _, events_results_tmp rfl _ _⟩, unwinds_nil ?_⟩) | (refine ⟨_, fun w => ⟨results_none rfl _ _ _, events_results_none rfl _ _⟩, unwinds_nil ?_⟩) | (co_apply wpS_ret; refine ⟨_, fun w => ⟨results_none rfl _ _ _, events_results_none rfl _ _⟩, unwinds_nil ?_⟩))
    exact hp
  · decide
theorem w_u64cas [Inhabited Base] (hP : X.P = Try.prog) {ad : Addr} {x y : Int} (hm : Move X i L (Extern.Atomic.casT (.int .u64) #[.pointer (some ad), .int .u64 x, .int .u64 y]) Post) : CallsS X i 40 #[.pointer (some ad), .int .u64 x, .int .u64 y] 40 L Post := by
  (obtain ⟨P, ap, SelAt, CI, CW, Q⟩ := X; dsimp only at hP; subst hP)
  (co_apply CallsS.more; co_apply callsS_of_wp Try.func40 rfl; simp only [Try.ntmps40, List.size_toArray, List.length_cons, List.length_nil, Nat.reduceAdd, Nat.reduceSub, Array.replicate, List.replicate, List.append_toArray, List.cons_append, List.nil_append, List.append_eq])
  · (repeat (first | (co_apply wpS_region; simp only [List.size_toArray, List.length_cons, List.length_nil, Nat.reduceAdd, Nat.zero_add, List.range, List.range.loop]) | (co_apply opsS_pure; (focus (exact rfl)); (focus (exact rfl)); (focus (intro w; go_simp <;> exact rfl)); (focus (intro w; simp [go_sem, execOp, Act.eval]; done)); try walk_nrm) | (co_apply opsS_nil; try dsimp only) | co_apply wpS_seq | co_apply wpS_skip | (co_apply wpS_cond; (focus (exact rfl)); simp only [if_true, if_false, reduceIte, Bool.false_eq_true])))
    (co_apply opsS_entry (e := Extern.Atomic.casT (.int .u64)); (focus (exact rfl)); (focus (exact rfl)); (focus (exact rfl)); (focus (exact Try.func50)); (focus (rfl)); (focus (rfl)); (focus (kernel_rfl)); (focus (kernel_rfl)); try simp only [List.map_toArray, List.map_cons, List.map_nil])
    · exact hm
    intro v L' hp
    walk_nrm
    (repeat (first | (co_apply wpS_region; simp only [List.size_toArray, List.length_cons, List.length_nil, Nat.reduceAdd, Nat.zero_add, List.range, List.range.loop]) | (co_apply opsS_pure; (focus (exact rfl)); (focus (exact rfl)); (focus (intro w; go_simp <;> exact rfl)); (focus (intro w; simp [go_sem, execOp, Act.eval]; done)); try walk_nrm) | (co_apply opsS_nil; try dsimp only) | co_apply wpS_seq | co_apply wpS_skip | (co_apply wpS_cond; (focus (exact rfl)); simp only [if_true, if_false, reduceIte, Bool.false_eq_true])))
    (first | (co_apply wpS_ret; refine ⟨_, fun w => ⟨results_tmp rfl _ _ _, events_results_tmp rfl _ _⟩, unwinds_nil ?_⟩) | (refine ⟨_, fun w => ⟨results_none rfl _ _ _, events_results_none rfl _ _⟩, unwinds_nil ?_⟩) | (co_apply wpS_ret; refine ⟨_, fun w => ⟨results_none rfl _ _ _, events_results_none rfl _ _⟩, unwinds_nil ?_⟩))
    exact hp
  · decide
/-- Twice; half. -/
theorem w_twice [Inhabited Base] (hP : X.P = Try.prog) {v : Int} : CallsS X i 9 #[.int .i64 v] 40 L fun r L' => r = .int .i64 (IntKind.i64.wrap (v + v)) ∧ L' = L := by
  (obtain ⟨P, ap, SelAt, CI, CW, Q⟩ := X; dsimp only at hP; subst hP)
  (co_apply CallsS.more; co_apply callsS_of_wp Try.func9 rfl; simp only [Try.ntmps9, List.size_toArray, List.length_cons, List.length_nil, Nat.reduceAdd, Nat.reduceSub, Array.replicate, List.replicate, List.append_toArray, List.cons_append, List.nil_append, List.append_eq])
  · (repeat (first | (co_apply wpS_region; simp only [List.size_toArray, List.length_cons, List.length_nil, Nat.reduceAdd, Nat.zero_add, List.range, List.range.loop]) | (co_apply opsS_pure; (focus (exact rfl)); (focus (exact rfl)); (focus (intro w; go_simp <;> exact rfl)); (focus (intro w; simp [go_sem, execOp, Act.eval]; done)); try walk_nrm) | (co_apply opsS_nil; try dsimp only) | co_apply wpS_seq | co_apply wpS_skip | (co_apply wpS_cond; (focus (exact rfl)); simp only [if_true, if_false, reduceIte, Bool.false_eq_true])))
    (first | (co_apply wpS_ret; refine ⟨_, fun w => ⟨results_tmp rfl _ _ _, events_results_tmp rfl _ _⟩, unwinds_nil ?_⟩) | (refine ⟨_, fun w => ⟨results_none rfl _ _ _, events_results_none rfl _ _⟩, unwinds_nil ?_⟩) | (co_apply wpS_ret; refine ⟨_, fun w => ⟨results_none rfl _ _ _, events_results_none rfl _ _⟩, unwinds_nil ?_⟩))
    exact ⟨rfl, rfl⟩
  · decide
theorem w_back [Inhabited Base] (hP : X.P = Try.prog) {v : Int} : CallsS X i 14 #[.int .i64 v] 40 L fun r L' => r = .int .i64 (IntKind.i64.wrap (v.tdiv 2)) ∧ L' = L := by
  (obtain ⟨P, ap, SelAt, CI, CW, Q⟩ := X; dsimp only at hP; subst hP)
  (co_apply CallsS.more; co_apply callsS_of_wp Try.func14 rfl; simp only [Try.ntmps14, List.size_toArray, List.length_cons, List.length_nil, Nat.reduceAdd, Nat.reduceSub, Array.replicate, List.replicate, List.append_toArray, List.cons_append, List.nil_append, List.append_eq])
  · (repeat (first | (co_apply wpS_region; simp only [List.size_toArray, List.length_cons, List.length_nil, Nat.reduceAdd, Nat.zero_add, List.range, List.range.loop]) | (co_apply opsS_pure; (focus (exact rfl)); (focus (exact rfl)); (focus (intro w; go_simp <;> exact rfl)); (focus (intro w; simp [go_sem, execOp, Act.eval]; done)); try walk_nrm) | (co_apply opsS_nil; try dsimp only) | co_apply wpS_seq | co_apply wpS_skip | (co_apply wpS_cond; (focus (exact rfl)); simp only [if_true, if_false, reduceIte, Bool.false_eq_true])))
    (first | (co_apply wpS_ret; refine ⟨_, fun w => ⟨results_tmp rfl _ _ _, events_results_tmp rfl _ _⟩, unwinds_nil ?_⟩) | (refine ⟨_, fun w => ⟨results_none rfl _ _ _, events_results_none rfl _ _⟩, unwinds_nil ?_⟩) | (co_apply wpS_ret; refine ⟨_, fun w => ⟨results_none rfl _ _ _, events_results_none rfl _ _⟩, unwinds_nil ?_⟩))
    exact ⟨rfl, rfl⟩
  · decide
end Go.Proofs.Ytaceedenkmccdaa

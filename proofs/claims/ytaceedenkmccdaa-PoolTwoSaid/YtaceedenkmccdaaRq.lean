/- Pools: the walks of the library's small functions, on what is one's own. -/
import Derived.Test.YtaceedenkmccdaaRp
namespace Go.Proofs.Ytaceedenkmccdaa
open Go Go.Conc Go.ConcN
set_option linter.unusedSimpArgs false
set_option linter.unusedVariables false
variable {X : Cx} {i : Nat} {L : Lo} {Post : Value → Lo → Prop}
set_option maxRecDepth 100000
/-- What a goroutine that goes on by itself has. -/
structure Fit (L : Lo) : Prop where
  live : Live L
  vm : ∀ a, L.V a → L.M a
theorem w_boolLoad [Inhabited Base] (hP : X.P = Try.prog) {ad : Addr} {x : Int} (hf : Fit L) (h : Sees L ad (.int .u32 x)) : CallsS X i 44 #[.pointer (some ad)] 40 L fun r L' => r = .bool (x != 0) ∧ L' = L := by
  (obtain ⟨P, ap, SelAt, CI, CW, Q⟩ := X; dsimp only at hP; subst hP)
  (co_apply CallsS.more; co_apply callsS_of_wp Try.func44 rfl; simp only [Try.ntmps44, List.size_toArray, List.length_cons, List.length_nil, Nat.reduceAdd, Nat.reduceSub, Array.replicate, List.replicate, List.append_toArray, List.cons_append, List.nil_append, List.append_eq])
  · (repeat (first | (co_apply wpS_region; simp only [List.size_toArray, List.length_cons, List.length_nil, Nat.reduceAdd, Nat.zero_add, List.range, List.range.loop]) | (co_apply opsS_pure; (focus (exact rfl)); (focus (exact rfl)); (focus (intro w; go_simp <;> exact rfl)); (focus (intro w; simp [go_sem, execOp, Act.eval]; done)); try walk_nrm) | (co_apply opsS_nil; try dsimp only) | co_apply wpS_seq | co_apply wpS_skip | (co_apply wpS_cond; (focus (exact rfl)); simp only [if_true, if_false, reduceIte, Bool.false_eq_true])))
    (co_apply opsS_entry (e := Extern.Atomic.loadT (.int .u32)); (focus (exact rfl)); (focus (exact rfl)); (focus (exact rfl)); (focus (exact Try.func51)); (focus (rfl)); (focus (rfl)); (focus (kernel_rfl)); (focus (kernel_rfl)); try simp only [List.map_toArray, List.map_cons, List.map_nil])
    · exact mv_own_load h hf.live hf.vm
    rintro _ _ ⟨rfl, rfl⟩
    walk_nrm
    (repeat (first | (co_apply wpS_region; simp only [List.size_toArray, List.length_cons, List.length_nil, Nat.reduceAdd, Nat.zero_add, List.range, List.range.loop]) | (co_apply opsS_pure; (focus (exact rfl)); (focus (exact rfl)); (focus (intro w; go_simp <;> exact rfl)); (focus (intro w; simp [go_sem, execOp, Act.eval]; done)); try walk_nrm) | (co_apply opsS_nil; try dsimp only) | co_apply wpS_seq | co_apply wpS_skip | (co_apply wpS_cond; (focus (exact rfl)); simp only [if_true, if_false, reduceIte, Bool.false_eq_true])))
    (first | (co_apply wpS_ret; refine ⟨_, fun w => ⟨results_tmp rfl _ _ _, events_results_tmp rfl _ _⟩, unwinds_nil ?_⟩) | (refine ⟨_, fun w => ⟨results_none rfl _ _ _, events_results_none rfl _ _⟩, unwinds_nil ?_⟩) | (co_apply wpS_ret; refine ⟨_, fun w => ⟨results_none rfl _ _ _, events_results_none rfl _ _⟩, unwinds_nil ?_⟩))
    refine ⟨?_, rfl⟩
    rfl
  · decide
theorem w_b32 [Inhabited Base] (hP : X.P = Try.prog) {x : Bool} : CallsS X i 58 #[.bool x] 40 L fun r L' => r = .int .u32 (if x then 1 else 0) ∧ L' = L := by
  (obtain ⟨P, ap, SelAt, CI, CW, Q⟩ := X; dsimp only at hP; subst hP)
  cases x
  · (co_apply CallsS.more; co_apply callsS_of_wp Try.func58 rfl; simp only [Try.ntmps58, List.size_toArray, List.length_cons, List.length_nil, Nat.reduceAdd, Nat.reduceSub, Array.replicate, List.replicate, List.append_toArray, List.cons_append, List.nil_append, List.append_eq])
    · (repeat (first | (co_apply wpS_region; simp only [List.size_toArray, List.length_cons, List.length_nil, Nat.reduceAdd, Nat.zero_add, List.range, List.range.loop]) | (co_apply opsS_pure; (focus (exact rfl)); (focus (exact rfl)); (focus (intro w; go_simp <;> exact rfl)); (focus (intro w; simp [go_sem, execOp, Act.eval]; done)); try walk_nrm) | (co_apply opsS_nil; try dsimp only) | co_apply wpS_seq | co_apply wpS_skip | (co_apply wpS_cond; (focus (exact rfl)); simp only [if_true, if_false, reduceIte, Bool.false_eq_true])))
      (first | (co_apply wpS_ret; refine ⟨_, fun w => ⟨results_tmp rfl _ _ _, events_results_tmp rfl _ _⟩, unwinds_nil ?_⟩) | (refine ⟨_, fun w => ⟨results_none rfl _ _ _, events_results_none rfl _ _⟩, unwinds_nil ?_⟩) | (co_apply wpS_ret; refine ⟨_, fun w => ⟨results_none rfl _ _ _, events_results_none rfl _ _⟩, unwinds_nil ?_⟩))
      exact ⟨rfl, rfl⟩
    · decide
  · (co_apply CallsS.more; co_apply callsS_of_wp Try.func58 rfl; simp only [Try.ntmps58, List.size_toArray, List.length_cons, List.length_nil, Nat.reduceAdd, Nat.reduceSub, Array.replicate, List.replicate, List.append_toArray, List.cons_append, List.nil_append, List.append_eq])
    · (co_apply wpS_seq)
      (repeat (first | (co_apply wpS_region; simp only [List.size_toArray, List.length_cons, List.length_nil, Nat.reduceAdd, Nat.zero_add, List.range, List.range.loop]) | (co_apply opsS_pure; (focus (exact rfl)); (focus (exact rfl)); (focus (intro w; go_simp <;> exact rfl)); (focus (intro w; simp [go_sem, execOp, Act.eval]; done)); try walk_nrm) | (co_apply opsS_nil; try dsimp only) | co_apply wpS_skip | (co_apply wpS_cond; (focus (exact rfl)); simp only [if_true, if_false, reduceIte, Bool.false_eq_true])))
      (co_apply wpS_seq (n₂ := 0))
      (repeat (first | (co_apply wpS_region; simp only [List.size_toArray, List.length_cons, List.length_nil, Nat.reduceAdd, Nat.zero_add, List.range, List.range.loop]) | (co_apply opsS_pure; (focus (exact rfl)); (focus (exact rfl)); (focus (intro w; go_simp <;> exact rfl)); (focus (intro w; simp [go_sem, execOp, Act.eval]; done)); try walk_nrm) | (co_apply opsS_nil; try dsimp only) | co_apply wpS_seq | co_apply wpS_skip | (co_apply wpS_cond; (focus (exact rfl)); simp only [if_true, if_false, reduceIte, Bool.false_eq_true])))
      (first | (co_apply wpS_ret; refine ⟨_, fun w => ⟨results_tmp rfl _ _ _, events_results_tmp rfl _ _⟩, unwinds_nil ?_⟩) | (refine ⟨_, fun w => ⟨results_none rfl _ _ _, events_results_none rfl _ _⟩, unwinds_nil ?_⟩) | (co_apply wpS_ret; refine ⟨_, fun w => ⟨results_none rfl _ _ _, events_results_none rfl _ _⟩, unwinds_nil ?_⟩))
      exact ⟨rfl, rfl⟩
    · decide
theorem w_boolStoreW [Inhabited Base] (hP : X.P = Try.prog) {ad : Addr} {x : Bool} {y : Int} (hfit : Fit L) (h : Has L ad (.int .u32 y)) : ∀ c, Try.f54.body = some c → wpS X i 54 c 380 (bodyS X i Try.f54 0 fun _ L' => L' = L.sets ad (.int .u32 (if x then 1 else 0)))
    { tmps := #[.pointer (some ad), .bool x] ++ Array.replicate (Try.f54.ntmps - (#[Value.pointer (some ad), .bool x] : Array Value).size) undef, defers := [] } L := by
  (obtain ⟨P, ap, SelAt, CI, CW, Q⟩ := X; dsimp only at hP; subst hP)
  intro c hc
  cases hc
  simp only [Try.ntmps54, List.size_toArray, List.length_cons, List.length_nil, Nat.reduceAdd, Nat.reduceSub, Array.replicate, List.replicate, List.append_toArray, List.cons_append, List.nil_append, List.append_eq]
  co_apply wpS_more
  · have hkeep : ∀ (done : Array Bool) (j : Nat) {L' : Lo}, j ≠ 5 → done.size = 6 → L' = (if done.getD 5 false = true then L.sets ad (.int .u32 (if x then 1 else 0)) else L) → L' = (if (done.setIfInBounds j true).getD 5 false = true then L.sets ad (.int .u32 (if x then 1 else 0)) else L) := fun done j L' hj hs hSt => by
      rw [hSt]
      by_cases hlt : j < done.size
      · rw [done_set hlt, if_neg (Ne.symm hj)]
      · rw [show done.setIfInBounds j true = done from by simp [Array.setIfInBounds, hlt]]
    co_apply wpS_fill (fun | 0 => .pointer (some ad) | 1 => .pointer (some ad) | 2 => .pointer (some ad) | 3 => .bool x | 4 => .int .u32 (if x then 1 else 0) | 5 => .tuple #[] | _ => undef) (fun done L' => L' = if done.getD 5 false = true then L.sets ad (.int .u32 (if x then 1 else 0)) else L) 60
    · kernel_rfl
    · exact hfit.live.nl
    · rfl
    · intro done j o a' L' hs ho hnd hdep hF hSt
      obtain ⟨hlt, _⟩ := Array.getElem?_eq_some_iff.1 ho
      match j, hlt with
      | 0, _ =>
        cases ho
        have e0 : a'.tmps[0]? = some (.pointer (some ad)) := hF.base rfl rfl
        exact opS_pure _ rfl rfl (by intro w; simp [go_sem, execOp, e0]) (by intro w; simp [go_sem, execOp, e0]) ⟨rfl, hkeep done 0 (by decide) hs hSt⟩ (by decide)
      | 1, _ =>
        cases ho
        have d0 : done.getD 0 false = true := hdep ⟨0, .data⟩ (by simp) rfl
        have e4 : a'.tmps[4]? = some (.pointer (some ad)) := hF.at (k := 0) rfl rfl rfl d0
        exact opS_pure _ rfl rfl (by intro w; simp [go_sem, execOp, e4]) (by intro w; simp [go_sem, execOp, e4]) ⟨rfl, hkeep done 1 (by decide) hs hSt⟩ (by decide)
      | 2, _ =>
        cases ho
        have d1 : done.getD 1 false = true := hdep ⟨1, .data⟩ (by simp) rfl
        have e5 : a'.tmps[5]? = some (.pointer (some ad)) := hF.at (k := 1) rfl rfl rfl d1
        exact opS_pure _ rfl rfl (by intro w; simp [go_sem, execOp, e5]) (by intro w; simp [go_sem, execOp, e5]) ⟨rfl, hkeep done 2 (by decide) hs hSt⟩ (by decide)
      | 3, _ =>
        cases ho
        have e1 : a'.tmps[1]? = some (.bool x) := hF.base rfl rfl
        exact opS_pure _ rfl rfl (by intro w; simp [go_sem, execOp, e1]) (by intro w; simp [go_sem, execOp, e1]) ⟨rfl, hkeep done 3 (by decide) hs hSt⟩ (by decide)
      | 4, _ =>
        cases ho
        have d3 : done.getD 3 false = true := hdep ⟨3, .data⟩ (by simp) rfl
        have e7 : a'.tmps[7]? = some (.bool x) := hF.at (k := 3) rfl rfl rfl d3
        refine opS_call (nf := 40) (Post := fun r L'' => r = .int .u32 (if x then 1 else 0) ∧ L'' = L') rfl rfl rfl Try.func58 rfl rfl ?_ (fun r L'' hr => by obtain ⟨rfl, rfl⟩ := hr; exact ⟨rfl, hkeep done 4 (by decide) hs hSt⟩) (by decide)
        simp only [List.map_toArray, List.map_cons, List.map_nil, Act.eval, Array.getD_eq_getD_getElem?, e7, Option.getD_some]
        exact w_b32 rfl
      | 5, _ =>
        cases ho
        have d2 : done.getD 2 false = true := hdep ⟨2, .data⟩ (by simp) rfl
        have d4 : done.getD 4 false = true := hdep ⟨4, .data⟩ (by simp) rfl
        have e6 : a'.tmps[6]? = some (.pointer (some ad)) := hF.at (k := 2) rfl rfl rfl d2
        have e8 : a'.tmps[8]? = some (.int .u32 (if x then 1 else 0)) := hF.at (k := 4) rfl rfl rfl d4
        rw [if_neg (by rw [hnd]; decide)] at hSt
        subst hSt
        refine opS_entry (e := Extern.Atomic.storeT) (Post := fun r L'' => r = .tuple #[] ∧ L'' = L'.sets ad (.int .u32 (if x then 1 else 0))) rfl rfl rfl Try.func57 rfl rfl (by kernel_rfl) (by kernel_rfl) ?_ (fun r L'' hr => by obtain ⟨rfl, rfl⟩ := hr; exact ⟨rfl, by rw [done_set (by rw [hs]; decide), if_pos rfl, if_pos rfl]⟩) (by decide)
        simp only [List.map_toArray, List.map_cons, List.map_nil, Act.eval, Array.getD_eq_getD_getElem?, e6, e8, Option.getD_some]
        exact (mv_own_store h hfit.live hfit.vm).mono fun r L'' hr => hr
    · intro done a' L' hs hall hF heq hSt
      rw [if_pos (hall 5 (by decide))] at hSt
      subst hSt
      subst heq
      (first | (co_apply wpS_ret; refine ⟨_, fun w => ⟨results_tmp rfl _ _ _, events_results_tmp rfl _ _⟩, unwinds_nil ?_⟩) | (refine ⟨_, fun w => ⟨results_none rfl _ _ _, events_results_none rfl _ _⟩, unwinds_nil ?_⟩) | (co_apply wpS_ret; refine ⟨_, fun w => ⟨results_none rfl _ _ _, events_results_none rfl _ _⟩, unwinds_nil ?_⟩))
      rfl
  · decide
theorem w_boolStore [Inhabited Base] (hP : X.P = Try.prog) {ad : Addr} {x : Bool} {y : Int} (hfit : Fit L) (h : Has L ad (.int .u32 y)) : CallsS X i 54 #[.pointer (some ad), .bool x] 400 L fun r L' => L' = L.sets ad (.int .u32 (if x then 1 else 0)) :=
  (callsS_of_wp (by rw [hP]; exact Try.func54) rfl (w_boolStoreW hP hfit h _ rfl)).more (by decide)
theorem CallsSD.more [Inhabited Base] {f : FuncId} {args : Array Value} {n n' : Nat} {P' : Lo → Prop} (h : CallsSD X i f args n L P') (hn : n ≤ n') : CallsSD X i f args n' L P' := fun c cs m hm hc => Safe.more (h c cs m hm hc) (by omega)
theorem w_boolStoreD [Inhabited Base] (hP : X.P = Try.prog) {ad : Addr} {x : Bool} {y : Int} (hfit : Fit L) (h : Has L ad (.int .u32 y)) : CallsSD X i 54 #[.pointer (some ad), .bool x] 400 L fun L' => L' = L.sets ad (.int .u32 (if x then 1 else 0)) :=
  (callsSD_of_wp (by rw [hP]; exact Try.func54) rfl (w_boolStoreW hP hfit h _ rfl)).more (by decide)
end Go.Proofs.Ytaceedenkmccdaa

/- Pools: the law of those who have none. -/
import Derived.Test.YtaceedenkmccdaaSl
namespace Go.Proofs.Ytaceedenkmccdaa
open Go Go.Conc Go.ConcN
set_option linter.unusedSimpArgs false
set_option linter.unusedVariables false
variable {X : Cx} {L L' : Lo} {Post : Value → Lo → Prop}
set_option maxRecDepth 100000
set_option maxHeartbeats 8000000
/-- What is known of the program's parts. -/
structure Has22 [Inhabited Base] (X : Cx) : Prop where
  P : X.P = Try.prog
  CW : X.CW = 10000
  tw : ∀ v, X.ap 9 v = IntKind.i64.wrap (v + v)
  bk : ∀ v, X.ap 14 v = IntKind.i64.wrap (v.tdiv 2)
  wk : ∀ i p L, WS p i L → L.role = .worker p none → X.safe i 2300 (born X.P { target := .fn (.func 16) #[], args := #[.pointer (some ⟨p.b, 0, none⟩)] }) L
def nleft (k : Nat) (n : Nat) (a : Act) : Nat := match (a.tmps[k]? : Option Value) with | some (Value.int _ z) => ((n : Int) - z).toNat | _ => 0
theorem nleft_eq {k n : Nat} {a : Act} {z : Nat} (h : a.tmps[k]? = some (.int .i64 z)) : nleft k n a = n - z := by
  unfold nleft
  rw [h]
  show ((n : Int) - (z : Int)).toNat = n - z
  omega
theorem w_none [Inhabited Base] (hX : Has22 X) {m : MainR} (hb : Boss L m) (hfin : AllFin m) {k : Int} {items : List Int} {so : Option Addr} {cap : Nat} (hn : items.length * 8 ≤ 140737488355328) (hso : items.length ≠ 0 → ∃ sb, so = some sb) (hit : ∀ sb, so = some sb → ∀ z, z < items.length → Sees L (sb.add z) (.int .i64 (items.getD z 0))) :
    ∃ N c, Try.f5.body = some c ∧ wpS X 0 5 c N (rootS X Try.f5 fun r L' => r = .bool true ∧ ∃ m', Boss L' m' ∧ AllFin m' ∧ ∀ a v, Sees L a v → Sees L' a v) { tmps := #[.int .i64 k, .slice so items.length cap] ++ Array.replicate (Try.f5.ntmps - 2) undef, defers := [] } L := by
  obtain ⟨hP, hCW, hap, hbk, hwk⟩ := hX
  obtain ⟨NF, hF0⟩ := w_fixed hP hCW hap hwk
  have hF := hF0 hb hfin
  clear hF0
  (obtain ⟨P, ap, SelAt, CI, CW, Q⟩ := X; dsimp only at hP; subst hP)
  dsimp only at hCW
  subst hCW
  apply Exists.intro
  refine ⟨_, rfl, ?_⟩
  simp only [Try.ntmps5, List.size_toArray, List.length_cons, List.length_nil, Nat.reduceAdd, Nat.reduceSub, Array.replicate, List.replicate, List.append_toArray, List.cons_append, List.nil_append, List.append_eq]
  (repeat (first | (co_apply wpS_region; simp only [List.size_toArray, List.length_cons, List.length_nil, Nat.reduceAdd, Nat.zero_add, List.range, List.range.loop]) | (co_apply opsS_pure; (focus (exact rfl)); (focus (exact rfl)); (focus (intro w; go_simp <;> exact rfl)); (focus (intro w; simp [go_sem, execOp, Act.eval]; done)); try walk_nrm) | (co_apply opsS_nil; try dsimp only) | co_apply wpS_seq | co_apply wpS_skip | (co_apply wpS_cond; (focus (exact rfl)); simp only [if_true, if_false, reduceIte, Bool.false_eq_true])))
  (co_apply opsS_call; (focus (exact rfl)); (focus (exact rfl)); (focus (exact rfl)); (focus (exact Try.func7)); (focus (rfl)); (focus (rfl)); try simp only [List.map_toArray, List.map_cons, List.map_nil])
  · exact hF
  rintro _ L1 ⟨rfl, m1, b1, x1, f1⟩
  walk_nrm
  (repeat (first | (co_apply wpS_region; simp only [List.size_toArray, List.length_cons, List.length_nil, Nat.reduceAdd, Nat.zero_add, List.range, List.range.loop]) | (co_apply opsS_pure; (focus (exact rfl)); (focus (exact rfl)); (focus (intro w; go_simp <;> exact rfl)); (focus (intro w; simp [go_sem, execOp, Act.eval]; done)); try walk_nrm) | (co_apply opsS_nil; try dsimp only) | co_apply wpS_seq | co_apply wpS_skip | (co_apply wpS_cond; (focus (exact rfl)); simp only [if_true, if_false, reduceIte, Bool.false_eq_true])))
  (co_apply opsS_call; (focus (exact rfl)); (focus (exact rfl)); (focus (exact rfl)); (focus (exact Try.func8)); (focus (rfl)); (focus (rfl)); try simp only [List.map_toArray, List.map_cons, List.map_nil])
  · exact w_new0 rfl
  rintro _ _ ⟨rfl, rfl⟩
  walk_nrm
  (repeat (first | (co_apply wpS_region; simp only [List.size_toArray, List.length_cons, List.length_nil, Nat.reduceAdd, Nat.zero_add, List.range, List.range.loop]) | (co_apply opsS_pure; (focus (exact rfl)); (focus (exact rfl)); (focus (intro w; go_simp <;> exact rfl)); (focus (intro w; simp [go_sem, execOp, Act.eval]; done)); try walk_nrm) | (co_apply opsS_nil; try dsimp only) | co_apply wpS_seq | co_apply wpS_skip | (co_apply wpS_cond; (focus (exact rfl)); simp only [if_true, if_false, reduceIte, Bool.false_eq_true])))
  (co_apply opsS_call; (focus (exact rfl)); (focus (exact rfl)); (focus (exact rfl)); (focus (exact Try.func10)); (focus (rfl)); (focus (rfl)); try simp only [List.map_toArray, List.map_cons, List.map_nil])
  · exact w_all (po := none) (c := false) (items := items) (so := so) (cap := cap) rfl rfl b1 (fun q hq => by cases hq) hn hso (fun sb hsb z hz => x1.sees (hit sb hsb z hz)) (fun q hq => by cases hq)
  rintro _ L2 ⟨A, m2, rfl, hAp, hAc, hAi, hAll⟩
  have b2 := hAll.boss
  have f2 : AllFin m2 := fun e he => by rw [hAll.ps] at he; rw [hAll.fin]; exact f1 e he
  have x2 : ∀ a v, Sees L a v → Sees L2 a v := fun a v h => hAll.sees (x1.sees h)
  have s2 : ∀ z, z < items.length → Sees L2 ⟨A.bo, z, none⟩ (.int .i64 0) := fun z hz => by
    have := hAll.ans z (by rw [hAi]; exact hz)
    unfold AllG.val at this
    rw [hAp] at this
    exact this
  clear hAll hAi hAp hAc
  generalize A.bo = bo at s2 ⊢
  walk_nrm
  (repeat (first | (co_apply wpS_region; simp only [List.size_toArray, List.length_cons, List.length_nil, Nat.reduceAdd, Nat.zero_add, List.range, List.range.loop]) | (co_apply opsS_pure; (focus (exact rfl)); (focus (exact rfl)); (focus (intro w; go_simp <;> exact rfl)); (focus (intro w; simp [go_sem, execOp, Act.eval]; done)); try walk_nrm) | (co_apply opsS_nil; try dsimp only) | co_apply wpS_seq | co_apply wpS_skip | (co_apply wpS_cond; (focus (exact rfl)); simp only [if_true, if_false, reduceIte, Bool.false_eq_true])))
  (co_apply opsS_call; (focus (exact rfl)); (focus (exact rfl)); (focus (exact rfl)); (focus (exact Try.func11)); (focus (rfl)); (focus (rfl)); try simp only [List.map_toArray, List.map_cons, List.map_nil])
  · exact w_ask0 rfl
  intro _ _ hE
  rw [hE.1, hE.2]
  clear hE
  walk_nrm
  (repeat (first | (co_apply wpS_region; simp only [List.size_toArray, List.length_cons, List.length_nil, Nat.reduceAdd, Nat.zero_add, List.range, List.range.loop]) | (co_apply opsS_pure; (focus (exact rfl)); (focus (exact rfl)); (focus (intro w; go_simp <;> exact rfl)); (focus (intro w; simp [go_sem, execOp, Act.eval]; done)); try walk_nrm) | (co_apply opsS_nil; try dsimp only) | co_apply wpS_seq | co_apply wpS_skip | (co_apply wpS_cond; (focus (exact rfl)); simp only [if_true, if_false, reduceIte, Bool.false_eq_true])))
  co_apply wpS_block
  co_apply wpS_loop (fun a L' => a.defers = [] ∧ a.tmps.size = 60 ∧ a.tmps[1]? = some (.slice so items.length cap) ∧ a.tmps[5]? = some (.pointer none) ∧ a.tmps[6]? = some (.slice (some ⟨bo, 0, none⟩) items.length items.length) ∧ a.tmps[7]? = some (.int .i64 0) ∧ a.tmps[8]? = some (.bool false) ∧ (∃ j : Nat, a.tmps[9]? = some (.int .i64 j) ∧ j ≤ items.length) ∧ L' = L2) (fun a _ => nleft 9 items.length a) 1000 items.length
  · exact ⟨rfl, rfl, rfl, rfl, rfl, rfl, rfl, ⟨0, rfl, by omega⟩, rfl⟩
  · rw [nleft_eq (z := 0) rfl]
    omega
  · rintro ⟨tmps, defers⟩ _ ⟨k1, k2, k3, k5, k6, k7, k8, ⟨j, k9, hj⟩, rfl⟩
    dsimp only at k1 k2 k3 k5 k6 k7 k8 k9
    subst k1
    obtain ⟨g2, hlit, hf2⟩ := lit tmps 60 k2
    have e1 := hf2 1 _ k3
    have e5 := hf2 5 _ k5
    have e6 := hf2 6 _ k6
    have e7 := hf2 7 _ k7
    have e8 := hf2 8 _ k8
    have e9 := hf2 9 _ k9
    subst hlit
    clear k2 k3 k5 k6 k7 k8 k9 hf2
    simp only [List.range, List.range.loop, List.map, e1, e5, e6, e7, e8, e9]
    clear e1 e5 e6 e7 e8 e9
    by_cases hlt : j < items.length
    · co_apply wpS_more
      (repeat (first | (co_apply wpS_region; simp only [List.size_toArray, List.length_cons, List.length_nil, Nat.reduceAdd, Nat.zero_add, List.range, List.range.loop]) | (co_apply opsS_pure; (focus (exact rfl)); (focus (exact rfl)); (focus (intro w; go_simp <;> exact rfl)); (focus (intro w; simp [go_sem, execOp, Act.eval]; done)); try walk_nrm) | (co_apply opsS_nil; try dsimp only) | co_apply wpS_seq | co_apply wpS_skip | (co_apply wpS_cond; (focus (exact rfl)); simp only [if_true, if_false, reduceIte, Bool.false_eq_true])))
      co_apply wpS_block
      (repeat (first | (co_apply wpS_region; simp only [List.size_toArray, List.length_cons, List.length_nil, Nat.reduceAdd, Nat.zero_add, List.range, List.range.loop]) | (co_apply opsS_pure; (focus (exact rfl)); (focus (exact rfl)); (focus (intro w; go_simp <;> exact rfl)); (focus (intro w; simp [go_sem, execOp, Act.eval]; done)); try walk_nrm) | (co_apply opsS_nil; try dsimp only) | co_apply wpS_seq | co_apply wpS_skip | (co_apply wpS_cond; (focus (exact rfl)); simp only [if_true, if_false, reduceIte, Bool.false_eq_true])))
      (co_apply opsS_pure (v := (.pointer (some ⟨bo, j, none⟩))); (focus (exact rfl)); (focus (exact rfl)); (focus (intro w; go_simp <;> first | done | exact rfl | assumption | omega | ((simp only [IntKind.wrap_u64, IntKind.wrap_u32, IntKind.wrap_i32]); omega) | decide)); (focus (intro w; simp [go_sem, execOp, Act.eval, *]; done)); try walk_nrm)
      (co_apply opsS_read (.int .i64 0); (focus (rfl)); (focus (rfl)); (focus (exact (b2.fit).live)); (focus (exact (b2.fit).vm)); (focus (intro w hS; have hu := ((s2 j hlt)).know w hS; go_simp)); (focus (intro w hS e he; have hu := ((s2 j hlt)).know w hS; have hm := mem_listed he; simp [go_sem, execOp, Act.eval, hu] at hm; subst hm; exact ((s2 j hlt)).ev _)); try walk_nrm)
      (repeat (first | (co_apply wpS_region; simp only [List.size_toArray, List.length_cons, List.length_nil, Nat.reduceAdd, Nat.zero_add, List.range, List.range.loop]) | (co_apply opsS_pure; (focus (exact rfl)); (focus (exact rfl)); (focus (intro w; go_simp <;> exact rfl)); (focus (intro w; simp [go_sem, execOp, Act.eval]; done)); try walk_nrm) | (co_apply opsS_nil; try dsimp only) | co_apply wpS_seq | co_apply wpS_skip | (co_apply wpS_cond; (focus (exact rfl)); simp only [if_true, if_false, reduceIte, Bool.false_eq_true])))
      rw [wrap_i64 ((j : Int) + 1) (by omega) (by omega)]
      refine ⟨⟨rfl, rfl, rfl, rfl, rfl, rfl, rfl, ⟨j + 1, rfl, by omega⟩, rfl⟩, ?_⟩
      rw [nleft_eq (z := j + 1) rfl, nleft_eq (z := j) rfl]
      omega
      decide
    · have hje : j = items.length := by omega
      subst hje
      co_apply wpS_more
      co_apply wpS_seq (n₂ := 0)
      (repeat (first | (co_apply wpS_region; simp only [List.size_toArray, List.length_cons, List.length_nil, Nat.reduceAdd, Nat.zero_add, List.range, List.range.loop]) | (co_apply opsS_pure; (focus (exact rfl)); (focus (exact rfl)); (focus (intro w; go_simp <;> exact rfl)); (focus (intro w; simp [go_sem, execOp, Act.eval]; done)); try walk_nrm) | (co_apply opsS_nil; try dsimp only) | co_apply wpS_seq | co_apply wpS_skip | (co_apply wpS_cond; (focus (exact rfl)); simp only [if_true, if_false, reduceIte, Bool.false_eq_true])))
      co_apply wpS_exit
      try dsimp only
      try simp only [if_true, reduceIte]
      (repeat (first | (co_apply wpS_region; simp only [List.size_toArray, List.length_cons, List.length_nil, Nat.reduceAdd, Nat.zero_add, List.range, List.range.loop]) | (co_apply opsS_pure; (focus (exact rfl)); (focus (exact rfl)); (focus (intro w; go_simp <;> exact rfl)); (focus (intro w; simp [go_sem, execOp, Act.eval]; done)); try walk_nrm) | (co_apply opsS_nil; try dsimp only) | co_apply wpS_seq | co_apply wpS_skip | (co_apply wpS_cond; (focus (exact rfl)); simp only [if_true, if_false, reduceIte, Bool.false_eq_true])))
      (co_apply opsS_pure (v := .bool true); (focus (exact rfl)); (focus (exact rfl)); (focus (intro w; go_simp <;> exact rfl)); (focus (intro w; simp [go_sem, execOp, Act.eval, ev_eql_ptr_nil Try.underlying24])); try walk_nrm)
      (repeat (first | (co_apply wpS_region; simp only [List.size_toArray, List.length_cons, List.length_nil, Nat.reduceAdd, Nat.zero_add, List.range, List.range.loop]) | (co_apply opsS_pure; (focus (exact rfl)); (focus (exact rfl)); (focus (intro w; go_simp <;> exact rfl)); (focus (intro w; simp [go_sem, execOp, Act.eval]; done)); try walk_nrm) | (co_apply opsS_unwanted; (focus (exact rfl)); (focus (exact rfl)); walk_nrm) | (co_apply opsS_nil; try dsimp only) | co_apply wpS_seq | co_apply wpS_skip | (co_apply wpS_cond; (focus (exact rfl)); simp only [if_true, if_false, reduceIte, Bool.false_eq_true])))
      (co_apply opsS_call; (focus (exact rfl)); (focus (exact rfl)); (focus (exact rfl)); (focus (exact Try.func12)); (focus (rfl)); (focus (rfl)); try simp only [List.map_toArray, List.map_cons, List.map_nil])
      · exact w_asked0 rfl
      intro _ _ hE
      rw [hE.1, hE.2]
      clear hE
      walk_nrm
      (repeat (first | (co_apply wpS_region; simp only [List.size_toArray, List.length_cons, List.length_nil, Nat.reduceAdd, Nat.zero_add, List.range, List.range.loop]) | (co_apply opsS_pure; (focus (exact rfl)); (focus (exact rfl)); (focus (intro w; go_simp <;> exact rfl)); (focus (intro w; simp [go_sem, execOp, Act.eval]; done)); try walk_nrm) | (co_apply opsS_unwanted; (focus (exact rfl)); (focus (exact rfl)); walk_nrm) | (co_apply opsS_nil; try dsimp only) | co_apply wpS_seq | co_apply wpS_skip | (co_apply wpS_cond; (focus (exact rfl)); simp only [if_true, if_false, reduceIte, Bool.false_eq_true])))
      (co_apply opsS_call; (focus (exact rfl)); (focus (exact rfl)); (focus (exact rfl)); (focus (exact Try.func13)); (focus (rfl)); (focus (rfl)); try simp only [List.map_toArray, List.map_cons, List.map_nil])
      · exact w_close0 rfl b2
      rintro _ L3 ⟨rfl, b3, x3⟩
      walk_nrm
      (repeat (first | (co_apply wpS_region; simp only [List.size_toArray, List.length_cons, List.length_nil, Nat.reduceAdd, Nat.zero_add, List.range, List.range.loop]) | (co_apply opsS_pure; (focus (exact rfl)); (focus (exact rfl)); (focus (intro w; go_simp <;> exact rfl)); (focus (intro w; simp [go_sem, execOp, Act.eval]; done)); try walk_nrm) | (co_apply opsS_unwanted; (focus (exact rfl)); (focus (exact rfl)); walk_nrm) | (co_apply opsS_nil; try dsimp only) | co_apply wpS_seq | co_apply wpS_skip | (co_apply wpS_cond; (focus (exact rfl)); simp only [if_true, if_false, reduceIte, Bool.false_eq_true])))
      co_apply wpS_ret
      exact ⟨_, fun w => ⟨results_tmp rfl _ _ _, events_results_tmp rfl _ _⟩, rfl, rfl, m2, b3, f2, fun a v h => x3.sees (x2 a v h)⟩
      decide
end Go.Proofs.Ytaceedenkmccdaa

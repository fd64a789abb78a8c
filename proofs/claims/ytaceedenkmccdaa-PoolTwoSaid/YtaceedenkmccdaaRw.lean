/- Pools: the worker's walk. -/
import Derived.Test.YtaceedenkmccdaaRv
namespace Go.Proofs.Ytaceedenkmccdaa
open Go Go.Conc Go.ConcN
set_option linter.unusedSimpArgs false
set_option linter.unusedVariables false
variable {X : Cx} {i : Nat} {L : Lo} {Post : Value → Lo → Prop}
set_option maxRecDepth 100000
set_option maxHeartbeats 4000000
noncomputable def wR0 : Code := match Try.f16.body with | some (.seq r (.block _ (.loop (.block _ (.seq _ (.seq (.region _ _ _) _)))))) => r | _ => .skip
noncomputable def wR12 : Code := match Try.f16.body with | some (.seq _ (.block _ (.loop (.block _ (.seq r (.seq (.region _ _ _) _)))))) => r | _ => .skip
noncomputable def wOps : Array Oper := match Try.f16.body with | some (.seq _ (.block _ (.loop (.block _ (.seq _ (.seq (.region _ ops _) _)))))) => ops | _ => #[]
noncomputable def wB2 : Code := match Try.f16.body with | some (.seq _ (.block _ (.loop (.block _ (.seq _ (.seq (.region _ _ _) r)))))) => r | _ => .skip
theorem w_body : Try.f16.body = some (.seq wR0 (.block 0 (.loop (.block 1 (.seq wR12 (.seq (.region 3 wOps false) wB2)))))) := rfl
/-- What a worker's frame holds. -/
structure WA (p : PoolG) (a : Act) : Prop where
  ds : a.defers = [dcall 18 #[.pointer (some ⟨p.b, 3, none⟩)]]
  sz : a.tmps.size = 32
  p0 : a.tmps[0]? = some (.pointer (some ⟨p.b, 0, none⟩))
/-- What a worker sees. -/
structure WS (p : PoolG) (i : Nat) (L : Lo) : Prop where
  q : L.q = none
  h : L.h = .alive
  d : L.d = 0
  vm : ∀ a, L.V a → L.M a
  f : Sees L ⟨p.b, 0, none⟩ (.func (.func p.fn) #[] #[])
  ci : Sees L ⟨p.b, 1, none⟩ (.chan (some p.ci))
  ce : Sees L ⟨p.b, 2, none⟩ (.chan (some p.ce))
  fn : p.fn = 9 ∨ p.fn = 14
  i0 : i ≠ 0
theorem WS.fit {p : PoolG} (h : WS p i L) {job : Option (Nat × Int × Bool)} (hr : L.role = .worker p job) : Fit L := ⟨⟨h.h, fun wa zs f s e => by rw [hr] at e; cases e⟩, h.vm⟩
/-- The start. -/
theorem w_work0 [Inhabited Base] (hP : X.P = Try.prog) {p : PoolG} : wpS X i 16 wR0 20 (fun e a' L' => e = .normal ∧ L' = L ∧ WA p a')
    { tmps := #[.pointer (some ⟨p.b, 0, none⟩)] ++ Array.replicate (Try.f16.ntmps - (#[Value.pointer (some ⟨p.b, 0, none⟩)] : Array Value).size) undef, defers := [] } L := by
  (obtain ⟨P, ap, SelAt, CI, CW, Q⟩ := X; dsimp only at hP; subst hP)
  simp only [Try.ntmps16, List.size_toArray, List.length_cons, List.length_nil, Nat.reduceAdd, Nat.reduceSub, Array.replicate, List.replicate, List.append_toArray, List.cons_append, List.nil_append, List.append_eq]
  dsimp only [wR0, Try.f16]
  co_apply wpS_more
  (repeat (first | (co_apply wpS_region; simp only [List.size_toArray, List.length_cons, List.length_nil, Nat.reduceAdd, Nat.zero_add, List.range, List.range.loop]) | (co_apply opsS_pure; (focus (exact rfl)); (focus (exact rfl)); (focus (intro w; go_simp <;> exact rfl)); (focus (intro w; simp [go_sem, execOp, Act.eval]; done)); try walk_nrm) | (co_apply opsS_nil; try dsimp only) | co_apply wpS_seq | co_apply wpS_skip | (co_apply wpS_cond; (focus (exact rfl)); simp only [if_true, if_false, reduceIte, Bool.false_eq_true])))
  (co_apply opsS_defer; (focus (exact rfl)); (focus (exact rfl)); (focus (exact rfl)); simp only [List.map_toArray, List.map_cons, List.map_nil]; try walk_nrm)
  (repeat (first | (co_apply wpS_region; simp only [List.size_toArray, List.length_cons, List.length_nil, Nat.reduceAdd, Nat.zero_add, List.range, List.range.loop]) | (co_apply opsS_pure; (focus (exact rfl)); (focus (exact rfl)); (focus (intro w; go_simp <;> exact rfl)); (focus (intro w; simp [go_sem, execOp, Act.eval]; done)); try walk_nrm) | (co_apply opsS_nil; try dsimp only) | co_apply wpS_seq | co_apply wpS_skip | (co_apply wpS_cond; (focus (exact rfl)); simp only [if_true, if_false, reduceIte, Bool.false_eq_true])))
  exact ⟨rfl, rfl, rfl, rfl, rfl⟩
  decide
theorem w_work1 [Inhabited Base] (hP : X.P = Try.prog) {p : PoolG} {a : Act} (ha : WA p a) (hs : WS p i L) (hr : L.role = .worker p none) : wpS X i 16 wR12 40 (fun e a' L' => e = .normal ∧ L' = L ∧ WA p a' ∧ a'.tmps[9]? = some (.chan (some p.ci)) ∧ a'.tmps[13]? = some (.chan (some p.ce))) a L := by
  (obtain ⟨P, ap, SelAt, CI, CW, Q⟩ := X; dsimp only at hP; subst hP)
  obtain ⟨tmps, defers⟩ := a
  obtain ⟨ds, sz, p0⟩ := ha
  dsimp only at ds sz p0
  subst ds
  obtain ⟨f0, hlit, hf0⟩ := lit tmps 32 sz
  have e0 := hf0 0 _ p0
  subst hlit
  clear sz p0 hf0
  simp only [List.range, List.range.loop, List.map, e0]
  clear e0
  dsimp only [wR12, Try.f16]
  co_apply wpS_more
  (repeat (first | (co_apply wpS_region; simp only [List.size_toArray, List.length_cons, List.length_nil, Nat.reduceAdd, Nat.zero_add, List.range, List.range.loop]) | (co_apply opsS_pure; (focus (exact rfl)); (focus (exact rfl)); (focus (intro w; go_simp <;> exact rfl)); (focus (intro w; simp [go_sem, execOp, Act.eval]; done)); try walk_nrm) | (co_apply opsS_nil; try dsimp only) | co_apply wpS_seq | co_apply wpS_skip | (co_apply wpS_cond; (focus (exact rfl)); simp only [if_true, if_false, reduceIte, Bool.false_eq_true])))
  (co_apply opsS_read (.chan (some p.ci)); (focus (rfl)); (focus (rfl)); (focus (exact (hs.fit hr).live)); (focus (exact (hs.fit hr).vm)); (focus (intro w hS; have hu := (hs.ci).know w hS; go_simp)); (focus (intro w hS e he; have hu := (hs.ci).know w hS; have hm := mem_listed he; simp [go_sem, execOp, Act.eval, hu] at hm; subst hm; exact (hs.ci).ev _)); try walk_nrm)
  (repeat (first | (co_apply wpS_region; simp only [List.size_toArray, List.length_cons, List.length_nil, Nat.reduceAdd, Nat.zero_add, List.range, List.range.loop]) | (co_apply opsS_pure; (focus (exact rfl)); (focus (exact rfl)); (focus (intro w; go_simp <;> exact rfl)); (focus (intro w; simp [go_sem, execOp, Act.eval]; done)); try walk_nrm) | (co_apply opsS_nil; try dsimp only) | co_apply wpS_seq | co_apply wpS_skip | (co_apply wpS_cond; (focus (exact rfl)); simp only [if_true, if_false, reduceIte, Bool.false_eq_true])))
  (co_apply opsS_read (.chan (some p.ce)); (focus (rfl)); (focus (rfl)); (focus (exact (hs.fit hr).live)); (focus (exact (hs.fit hr).vm)); (focus (intro w hS; have hu := (hs.ce).know w hS; go_simp)); (focus (intro w hS e he; have hu := (hs.ce).know w hS; have hm := mem_listed he; simp [go_sem, execOp, Act.eval, hu] at hm; subst hm; exact (hs.ce).ev _)); try walk_nrm)
  (repeat (first | (co_apply wpS_region; simp only [List.size_toArray, List.length_cons, List.length_nil, Nat.reduceAdd, Nat.zero_add, List.range, List.range.loop]) | (co_apply opsS_pure; (focus (exact rfl)); (focus (exact rfl)); (focus (intro w; go_simp <;> exact rfl)); (focus (intro w; simp [go_sem, execOp, Act.eval]; done)); try walk_nrm) | (co_apply opsS_nil; try dsimp only) | co_apply wpS_seq | co_apply wpS_skip | (co_apply wpS_cond; (focus (exact rfl)); simp only [if_true, if_false, reduceIte, Bool.false_eq_true])))
  exact ⟨rfl, rfl, ⟨rfl, rfl, rfl⟩, rfl, rfl⟩
  decide
theorem w_work2 [Inhabited Base] (hP : X.P = Try.prog) {p : PoolG} {a : Act} {u0 u1 u2 u3 : Value} {k : Int} (ha : WA p a) : OpsS X i 16 wOps [1, 2, 3] 20 (fun e a' L' => e = .normal ∧ L' = L ∧ WA p a' ∧ a'.tmps[14]? = some (.tuple #[.int .i64 k, u1, u2, u3]) ∧ a'.tmps[16]? = some (.bool (decide (k = 0))) ∧ a'.tmps[17]? = some (.bool (decide (k = 1)))) (a.put (some 14) (.tuple #[.int .i64 k, u1, u2, u3])) L := by
  (obtain ⟨P, ap, SelAt, CI, CW, Q⟩ := X; dsimp only at hP; subst hP)
  obtain ⟨tmps, defers⟩ := a
  obtain ⟨ds, sz, p0⟩ := ha
  dsimp only at ds sz p0
  subst ds
  obtain ⟨f0, hlit, hf0⟩ := lit tmps 32 sz
  have e0 := hf0 0 _ p0
  subst hlit
  clear sz p0 hf0
  simp only [List.range, List.range.loop, List.map, e0]
  clear e0
  dsimp only [wOps, Try.f16]
  co_apply opsS_more
  walk_nrm
  (repeat (first | (co_apply wpS_region; simp only [List.size_toArray, List.length_cons, List.length_nil, Nat.reduceAdd, Nat.zero_add, List.range, List.range.loop]) | (co_apply opsS_pure; (focus (exact rfl)); (focus (exact rfl)); (focus (intro w; go_simp <;> exact rfl)); (focus (intro w; simp [go_sem, execOp, Act.eval]; done)); try walk_nrm) | (co_apply opsS_nil; try dsimp only) | co_apply wpS_seq | co_apply wpS_skip | (co_apply wpS_cond; (focus (exact rfl)); simp only [if_true, if_false, reduceIte, Bool.false_eq_true])))
  exact ⟨rfl, rfl, ⟨rfl, rfl, rfl⟩, rfl, rfl, rfl⟩
  decide
end Go.Proofs.Ytaceedenkmccdaa

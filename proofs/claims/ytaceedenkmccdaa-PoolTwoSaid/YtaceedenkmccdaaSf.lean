/- Pools: the walk of Close, and of Asked. -/
import Derived.Test.YtaceedenkmccdaaSe
namespace Go.Proofs.Ytaceedenkmccdaa
open Go Go.Conc Go.ConcN
set_option linter.unusedSimpArgs false
set_option linter.unusedVariables false
variable {X : Cx} {i : Nat} {L L' : Lo} {Post : Value → Lo → Prop}
set_option maxRecDepth 100000
set_option maxHeartbeats 4000000
/-- What is seen and had but for a pool's two places. -/
structure ExtBut (b : Nat) (L L' : Lo) : Prop where
  sees : ∀ {a v}, a ≠ ⟨b, 5, none⟩ → a ≠ ⟨b, 6, none⟩ → Sees L a v → Sees L' a v
  has : ∀ {a v}, a ≠ ⟨b, 5, none⟩ → a ≠ ⟨b, 6, none⟩ → Has L a v → Has L' a v
/-- A nil pool. -/
theorem w_close0 [Inhabited Base] (hP : X.P = Try.prog) {m : MainR} (hb : Boss L m) : CallsS X 0 13 #[.pointer none] 100 L fun r L' => r = .bool false ∧ Boss L' m ∧ Ext L L' := by
  have hf := hb.fit
  (obtain ⟨P, ap, SelAt, CI, CW, Q⟩ := X; dsimp only at hP; subst hP)
  (co_apply CallsS.more; co_apply callsS_of_wp Try.func13 rfl; simp only [Try.ntmps13, List.size_toArray, List.length_cons, List.length_nil, Nat.reduceAdd, Nat.reduceSub, Array.replicate, List.replicate, List.append_toArray, List.cons_append, List.nil_append, List.append_eq])
  · (co_apply wpS_seq)
    (co_apply wpS_region; simp only [List.size_toArray, List.length_cons, List.length_nil, Nat.reduceAdd, Nat.zero_add, List.range, List.range.loop])
    (co_apply opsS_add (cs := #[.pointer none]) (r := fun bk => .pointer (some ⟨bk, 0, none⟩)) (ty := 24) (fun _ => False); (focus (rfl)); (focus (rfl)); (focus (exact (hf).live)); (focus (exact (hf).vm)); (focus (intro w hS; go_simp)); (focus (intro w hS; simp [listed, go_sem, execOp, Act.eval, seen_none])))
    intro bk hbk
    walk_nrm
    have n0 : Has (L.adds bk #[.pointer none] fun _ => False) ⟨bk, 0, none⟩ (.pointer none) := has_new (k := 0) rfl (fun x => x) fun a ha => hbk a (.inl (hf.vm a ha))
    have hf1 : Fit (L.adds bk #[.pointer none] fun _ => False) := ⟨hf.live, (Grows.adds hbk).vm hf.vm⟩
    (repeat (first | (co_apply wpS_region; simp only [List.size_toArray, List.length_cons, List.length_nil, Nat.reduceAdd, Nat.zero_add, List.range, List.range.loop]) | (co_apply opsS_pure; (focus (exact rfl)); (focus (exact rfl)); (focus (intro w; go_simp <;> exact rfl)); (focus (intro w; simp [go_sem, execOp, Act.eval]; done)); try walk_nrm) | (co_apply opsS_nil; try dsimp only) | co_apply wpS_skip | (co_apply wpS_cond; (focus (exact rfl)); simp only [if_true, if_false, reduceIte, Bool.false_eq_true])))
    co_apply wpS_seq (n₂ := 0)
    (repeat (first | (co_apply wpS_region; simp only [List.size_toArray, List.length_cons, List.length_nil, Nat.reduceAdd, Nat.zero_add, List.range, List.range.loop]) | (co_apply opsS_pure; (focus (exact rfl)); (focus (exact rfl)); (focus (intro w; go_simp <;> exact rfl)); (focus (intro w; simp [go_sem, execOp, Act.eval]; done)); try walk_nrm) | (co_apply opsS_nil; try dsimp only) | co_apply wpS_seq | co_apply wpS_skip | (co_apply wpS_cond; (focus (exact rfl)); simp only [if_true, if_false, reduceIte, Bool.false_eq_true])))
    (co_apply opsS_read (.pointer none); (focus (rfl)); (focus (rfl)); (focus (exact (hf1).live)); (focus (exact (hf1).vm)); (focus (intro w hS; have hu := (n0.sees).know w hS; go_simp)); (focus (intro w hS e he; have hu := (n0.sees).know w hS; have hm := mem_listed he; simp [go_sem, execOp, Act.eval, hu] at hm; subst hm; exact (n0.sees).ev _)); try walk_nrm)
    (co_apply opsS_pure (v := .bool true); (focus (exact rfl)); (focus (exact rfl)); (focus (intro w; go_simp <;> exact rfl)); (focus (intro w; simp [go_sem, execOp, Act.eval, ev_eql_ptr_nil Try.underlying24])); try walk_nrm)
    (repeat (first | (co_apply wpS_region; simp only [List.size_toArray, List.length_cons, List.length_nil, Nat.reduceAdd, Nat.zero_add, List.range, List.range.loop]) | (co_apply opsS_pure; (focus (exact rfl)); (focus (exact rfl)); (focus (intro w; go_simp <;> exact rfl)); (focus (intro w; simp [go_sem, execOp, Act.eval]; done)); try walk_nrm) | (co_apply opsS_nil; try dsimp only) | co_apply wpS_seq | co_apply wpS_skip | (co_apply wpS_cond; (focus (exact rfl)); simp only [if_true, if_false, reduceIte, Bool.false_eq_true])))
    (first | (co_apply wpS_ret; refine ⟨_, fun w => ⟨results_tmp rfl _ _ _, events_results_tmp rfl _ _⟩, unwinds_nil ?_⟩) | (refine ⟨_, fun w => ⟨results_none rfl _ _ _, events_results_none rfl _ _⟩, unwinds_nil ?_⟩) | (co_apply wpS_ret; refine ⟨_, fun w => ⟨results_none rfl _ _ _, events_results_none rfl _ _⟩, unwinds_nil ?_⟩))
    exact ⟨rfl, ⟨hb.role, hb.q, hb.h, hb.d, hf1.vm, hb.reg, hb.pnd, hb.al, hb.dn, hb.nw, hb.clb⟩, (Grows.adds hbk).ext⟩
  · decide
theorem w_asked0 [Inhabited Base] (hP : X.P = Try.prog) : CallsS X i 12 #[.pointer none] 100 L fun r L' => r = .int .i64 0 ∧ L' = L := by
  (obtain ⟨P, ap, SelAt, CI, CW, Q⟩ := X; dsimp only at hP; subst hP)
  (co_apply CallsS.more; co_apply callsS_of_wp Try.func12 rfl; simp only [Try.ntmps12, List.size_toArray, List.length_cons, List.length_nil, Nat.reduceAdd, Nat.reduceSub, Array.replicate, List.replicate, List.append_toArray, List.cons_append, List.nil_append, List.append_eq])
  · (co_apply wpS_seq)
    (repeat (first | (co_apply wpS_region; simp only [List.size_toArray, List.length_cons, List.length_nil, Nat.reduceAdd, Nat.zero_add, List.range, List.range.loop]) | (co_apply opsS_pure; (focus (exact rfl)); (focus (exact rfl)); (focus (intro w; go_simp <;> exact rfl)); (focus (intro w; simp [go_sem, execOp, Act.eval]; done)); try walk_nrm) | (co_apply opsS_nil; try dsimp only) | co_apply wpS_skip | (co_apply wpS_cond; (focus (exact rfl)); simp only [if_true, if_false, reduceIte, Bool.false_eq_true])))
    co_apply wpS_seq (n₂ := 0)
    (repeat (first | (co_apply wpS_region; simp only [List.size_toArray, List.length_cons, List.length_nil, Nat.reduceAdd, Nat.zero_add, List.range, List.range.loop]) | (co_apply opsS_pure; (focus (exact rfl)); (focus (exact rfl)); (focus (intro w; go_simp <;> exact rfl)); (focus (intro w; simp [go_sem, execOp, Act.eval]; done)); try walk_nrm) | (co_apply opsS_nil; try dsimp only) | co_apply wpS_seq | co_apply wpS_skip | (co_apply wpS_cond; (focus (exact rfl)); simp only [if_true, if_false, reduceIte, Bool.false_eq_true])))
    (co_apply opsS_pure (v := .bool true); (focus (exact rfl)); (focus (exact rfl)); (focus (intro w; go_simp <;> exact rfl)); (focus (intro w; simp [go_sem, execOp, Act.eval, ev_eql_ptr_nil Try.underlying24])); try walk_nrm)
    (repeat (first | (co_apply wpS_region; simp only [List.size_toArray, List.length_cons, List.length_nil, Nat.reduceAdd, Nat.zero_add, List.range, List.range.loop]) | (co_apply opsS_pure; (focus (exact rfl)); (focus (exact rfl)); (focus (intro w; go_simp <;> exact rfl)); (focus (intro w; simp [go_sem, execOp, Act.eval]; done)); try walk_nrm) | (co_apply opsS_nil; try dsimp only) | co_apply wpS_seq | co_apply wpS_skip | (co_apply wpS_cond; (focus (exact rfl)); simp only [if_true, if_false, reduceIte, Bool.false_eq_true])))
    (first | (co_apply wpS_ret; refine ⟨_, fun w => ⟨results_tmp rfl _ _ _, events_results_tmp rfl _ _⟩, unwinds_nil ?_⟩) | (refine ⟨_, fun w => ⟨results_none rfl _ _ _, events_results_none rfl _ _⟩, unwinds_nil ?_⟩) | (co_apply wpS_ret; refine ⟨_, fun w => ⟨results_none rfl _ _ _, events_results_none rfl _ _⟩, unwinds_nil ?_⟩))
    exact ⟨rfl, rfl⟩
  · decide
theorem w_asked [Inhabited Base] (hP : X.P = Try.prog) {m : MainR} {p : PoolG} (hb : Boss L m) (hp : p ∈ m.ps) : CallsS X 0 12 #[.pointer (some ⟨p.b, 0, none⟩)] 100 L fun r L' => r = .int .i64 (m.asks p.b) ∧ L' = L := by
  (obtain ⟨P, ap, SelAt, CI, CW, Q⟩ := X; dsimp only at hP; subst hP)
  (co_apply CallsS.more; co_apply callsS_of_wp Try.func12 rfl; simp only [Try.ntmps12, List.size_toArray, List.length_cons, List.length_nil, Nat.reduceAdd, Nat.reduceSub, Array.replicate, List.replicate, List.append_toArray, List.cons_append, List.nil_append, List.append_eq])
  · (repeat (first | (co_apply wpS_region; simp only [List.size_toArray, List.length_cons, List.length_nil, Nat.reduceAdd, Nat.zero_add, List.range, List.range.loop]) | (co_apply opsS_pure; (focus (exact rfl)); (focus (exact rfl)); (focus (intro w; go_simp <;> exact rfl)); (focus (intro w; simp [go_sem, execOp, Act.eval]; done)); try walk_nrm) | (co_apply opsS_nil; try dsimp only) | co_apply wpS_seq | co_apply wpS_skip | (co_apply wpS_cond; (focus (exact rfl)); simp only [if_true, if_false, reduceIte, Bool.false_eq_true])))
    (co_apply opsS_pure (v := .bool false); (focus (exact rfl)); (focus (exact rfl)); (focus (intro w; go_simp <;> exact rfl)); (focus (intro w; simp [go_sem, execOp, Act.eval, ev_eql_ptr_nil Try.underlying24])); try walk_nrm)
    (repeat (first | (co_apply wpS_region; simp only [List.size_toArray, List.length_cons, List.length_nil, Nat.reduceAdd, Nat.zero_add, List.range, List.range.loop]) | (co_apply opsS_pure; (focus (exact rfl)); (focus (exact rfl)); (focus (intro w; go_simp <;> exact rfl)); (focus (intro w; simp [go_sem, execOp, Act.eval]; done)); try walk_nrm) | (co_apply opsS_nil; try dsimp only) | co_apply wpS_seq | co_apply wpS_skip | (co_apply wpS_cond; (focus (exact rfl)); simp only [if_true, if_false, reduceIte, Bool.false_eq_true])))
    (co_apply opsS_call; (focus (exact rfl)); (focus (exact rfl)); (focus (exact rfl)); (focus (exact Try.func21)); (focus (rfl)); (focus (rfl)); try simp only [List.map_toArray, List.map_cons, List.map_nil])
    · exact w_i64load rfl (mv_asked hb.role hp hb.al hb.q)
    intro _ _ hE
    rw [hE.1, hE.2]
    clear hE
    walk_nrm
    (repeat (first | (co_apply wpS_region; simp only [List.size_toArray, List.length_cons, List.length_nil, Nat.reduceAdd, Nat.zero_add, List.range, List.range.loop]) | (co_apply opsS_pure; (focus (exact rfl)); (focus (exact rfl)); (focus (intro w; go_simp <;> exact rfl)); (focus (intro w; simp [go_sem, execOp, Act.eval]; done)); try walk_nrm) | (co_apply opsS_nil; try dsimp only) | co_apply wpS_seq | co_apply wpS_skip | (co_apply wpS_cond; (focus (exact rfl)); simp only [if_true, if_false, reduceIte, Bool.false_eq_true])))
    (first | (co_apply wpS_ret; refine ⟨_, fun w => ⟨results_tmp rfl _ _ _, events_results_tmp rfl _ _⟩, unwinds_nil ?_⟩) | (refine ⟨_, fun w => ⟨results_none rfl _ _ _, events_results_none rfl _ _⟩, unwinds_nil ?_⟩) | (co_apply wpS_ret; refine ⟨_, fun w => ⟨results_none rfl _ _ _, events_results_none rfl _ _⟩, unwinds_nil ?_⟩))
    exact ⟨rfl, rfl⟩
  · decide
theorem handsA_isWa {m : MainR} {p : PoolG} (hp : p ∈ m.ps) : IsWa (.main m) (handsA p) := .inl ⟨p, hp, rfl⟩
/-- What main knows behind a close. -/
structure ClosedAs (m m' : MainR) (p : PoolG) : Prop where
  ps : m'.ps = m.ps
  cl : m'.cl = fun b => if b = p.b then true else m.cl b
  rd : m'.rd = m.rd
  asks : m'.asks = m.asks
  fin : m'.fin = fun b => if b = p.b then true else m.fin b
theorem onced_sees [Inhabited Base] {m : MainR} {p : PoolG} {b1 : Nat} {a : Addr} {v : Value} (h : Sees L a v) (h5 : a ≠ ⟨p.b, 5, none⟩) (h6 : a ≠ ⟨p.b, 6, none⟩) (h1 : a ≠ ⟨b1, 0, none⟩) : Sees (L.onced m p b1) a v :=
  ((((h.sets h6).sets h1).turn _ _).sets h5).sets h6
theorem onced_has [Inhabited Base] {m : MainR} {p : PoolG} {b1 : Nat} {a : Addr} {v : Value} (h : Has L a v) (h5 : a ≠ ⟨p.b, 5, none⟩) (h6 : a ≠ ⟨p.b, 6, none⟩) (h1 : a ≠ ⟨b1, 0, none⟩) : Has (L.onced m p b1) a v :=
  ((((h.other h6).other h1).turn _ _).other h5).other h6
theorem onced_at [Inhabited Base] {m : MainR} {p : PoolG} {b1 : Nat} {u u5 u6 : Value} (h : Has L ⟨b1, 0, none⟩ u) (h5 : Has L ⟨p.b, 5, none⟩ u5) (h6 : Has L ⟨p.b, 6, none⟩ u6) : Has (L.onced m p b1) ⟨b1, 0, none⟩ (.bool true) ∧ Has (L.onced m p b1) ⟨p.b, 5, none⟩ (.int .u32 1) ∧ Has (L.onced m p b1) ⟨p.b, 6, none⟩ (.int .i32 0) := by
  have n1 : (⟨b1, 0, none⟩ : Addr) ≠ ⟨p.b, 6, none⟩ := fun e => by cases e
  have n2 : (⟨b1, 0, none⟩ : Addr) ≠ ⟨p.b, 5, none⟩ := fun e => by cases e
  have n3 : (⟨p.b, 5, none⟩ : Addr) ≠ ⟨p.b, 6, none⟩ := fun e => by cases e
  have n4 : (⟨p.b, 5, none⟩ : Addr) ≠ ⟨b1, 0, none⟩ := fun e => by cases e
  have n5 : (⟨p.b, 6, none⟩ : Addr) ≠ ⟨b1, 0, none⟩ := fun e => by cases e
  have n6 : (⟨p.b, 6, none⟩ : Addr) ≠ ⟨p.b, 5, none⟩ := fun e => by cases e
  exact ⟨((((h.other n1).sets _).turn _ _).other n2).other n1, (((((h5.other n3).other n4).turn _ _).sets _).other n3), ((((h6.sets _).other n5).turn _ _).other n6).sets _⟩
theorem hands_b [Inhabited Base] {p e : PoolG} (h : handsA p = handsA e) : e.b = p.b := (ca_eq h).1.symm
/-- The first close. -/
theorem w_closeA [Inhabited Base] (hP : X.P = Try.prog) {m : MainR} {p : PoolG} (hb : Boss L m) (hp : PoolAt L m p) (hcl : m.cl p.b = false) (hfin : m.fin p.b = false) : CallsS X 0 13 #[.pointer (some ⟨p.b, 0, none⟩)] 25000 L fun r L' => r = .bool true ∧ ∃ m', Boss L' m' ∧ ClosedAs m m' p ∧ PoolAt L' m' p ∧ ExtBut p.b L L' := by
  have hf := hb.fit
  (obtain ⟨P, ap, SelAt, CI, CW, Q⟩ := X; dsimp only at hP; subst hP)
  (co_apply CallsS.more; co_apply callsS_of_wp Try.func13 rfl; simp only [Try.ntmps13, List.size_toArray, List.length_cons, List.length_nil, Nat.reduceAdd, Nat.reduceSub, Array.replicate, List.replicate, List.append_toArray, List.cons_append, List.nil_append, List.append_eq])
  · (co_apply wpS_seq)
    (co_apply wpS_region; simp only [List.size_toArray, List.length_cons, List.length_nil, Nat.reduceAdd, Nat.zero_add, List.range, List.range.loop])
    (co_apply opsS_add (cs := #[.pointer (some ⟨p.b, 0, none⟩)]) (r := fun bk => .pointer (some ⟨bk, 0, none⟩)) (ty := 24) (fun _ => False); (focus (rfl)); (focus (rfl)); (focus (exact (hf).live)); (focus (exact (hf).vm)); (focus (intro w hS; go_simp)); (focus (intro w hS; simp [listed, go_sem, execOp, Act.eval, seen_none])))
    intro bk hbk
    walk_nrm
    have n0 : Has (L.adds bk #[.pointer (some ⟨p.b, 0, none⟩)] fun _ => False) ⟨bk, 0, none⟩ (.pointer (some ⟨p.b, 0, none⟩)) := has_new (k := 0) rfl (fun x => x) fun a ha => hbk a (.inl (hf.vm a ha))
    have g1 : Grows L (L.adds bk #[.pointer (some ⟨p.b, 0, none⟩)] fun _ => False) := Grows.adds hbk
    have r1 : (L.adds bk #[.pointer (some ⟨p.b, 0, none⟩)] fun _ => False).role = .main m := hb.role
    have q1 : (L.adds bk #[.pointer (some ⟨p.b, 0, none⟩)] fun _ => False).q = none := hb.q
    have hlt : p.b < bk := hbk ⟨p.b, 1, none⟩ hp.ci.acc
    generalize (L.adds bk #[.pointer (some ⟨p.b, 0, none⟩)] fun _ => False) = L1 at n0 g1 r1 q1 ⊢
    have hf1 : Fit L1 := ⟨⟨by rw [g1.h]; exact hb.h, fun wa zs f s e => by rw [r1] at e; cases e⟩, g1.vm hf.vm⟩
    (repeat (first | (co_apply wpS_region; simp only [List.size_toArray, List.length_cons, List.length_nil, Nat.reduceAdd, Nat.zero_add, List.range, List.range.loop]) | (co_apply opsS_pure; (focus (exact rfl)); (focus (exact rfl)); (focus (intro w; go_simp <;> exact rfl)); (focus (intro w; simp [go_sem, execOp, Act.eval]; done)); try walk_nrm) | (co_apply opsS_nil; try dsimp only) | co_apply wpS_seq | co_apply wpS_skip | (co_apply wpS_cond; (focus (exact rfl)); simp only [if_true, if_false, reduceIte, Bool.false_eq_true])))
    (co_apply opsS_read (.pointer (some ⟨p.b, 0, none⟩)); (focus (rfl)); (focus (rfl)); (focus (exact (hf1).live)); (focus (exact (hf1).vm)); (focus (intro w hS; have hu := (n0.sees).know w hS; go_simp)); (focus (intro w hS e he; have hu := (n0.sees).know w hS; have hm := mem_listed he; simp [go_sem, execOp, Act.eval, hu] at hm; subst hm; exact (n0.sees).ev _)); try walk_nrm)
    (co_apply opsS_pure (v := .bool false); (focus (exact rfl)); (focus (exact rfl)); (focus (intro w; go_simp <;> exact rfl)); (focus (intro w; simp [go_sem, execOp, Act.eval, ev_eql_ptr_nil Try.underlying24])); try walk_nrm)
    (repeat (first | (co_apply wpS_region; simp only [List.size_toArray, List.length_cons, List.length_nil, Nat.reduceAdd, Nat.zero_add, List.range, List.range.loop]) | (co_apply opsS_pure; (focus (exact rfl)); (focus (exact rfl)); (focus (intro w; go_simp <;> exact rfl)); (focus (intro w; simp [go_sem, execOp, Act.eval]; done)); try walk_nrm) | (co_apply opsS_nil; try dsimp only) | co_apply wpS_seq | co_apply wpS_skip | (co_apply wpS_cond; (focus (exact rfl)); simp only [if_true, if_false, reduceIte, Bool.false_eq_true])))
    (co_apply opsS_add (cs := #[.bool false]) (r := fun bk => .pointer (some ⟨bk, 0, none⟩)) (ty := 4) (fun _ => False); (focus (rfl)); (focus (rfl)); (focus (exact (hf1).live)); (focus (exact (hf1).vm)); (focus (intro w hS; go_simp)); (focus (intro w hS; simp [listed, go_sem, execOp, Act.eval, seen_none])))
    intro bk2 hbk2
    walk_nrm
    have n2 : Has (L1.adds bk2 #[.bool false] fun _ => False) ⟨bk2, 0, none⟩ (.bool false) := has_new (k := 0) rfl (fun x => x) fun a ha => hbk2 a (.inl (hf1.vm a ha))
    have g2 := g1.trans (Grows.adds (L := L1) (cs := #[.bool false]) hbk2)
    have hlt2 : bk < bk2 := hbk2 ⟨bk, 0, none⟩ (.inl n0.own)
    have n0 := n0.adds (cs := #[.bool false]) (Vn := fun _ => False) hlt2
    have hf2 : Fit (L1.adds bk2 #[.bool false] fun _ => False) := ⟨hf1.live, (Grows.adds hbk2).vm hf1.vm⟩
    (co_apply opsS_put (v := .bool false) (r := undef) (n2); (focus (rfl)); (focus (rfl)); (focus (exact (hf2).live)); (focus (exact (hf2).vm)); (focus (intro w hu hz; refine .inr ⟨?_, rfl⟩; go_simp)); (focus (intro w hu hz e he; have hm := mem_listed he; simp [go_sem, execOp, Act.eval, hu, hz] at hm; try rw [events_store _ _ _ _ _ _ rfl] at hm; simp [hu, hz] at hm; subst hm; exact (n2).ev _ _)); try walk_nrm)
    have far : ¬ (L.M ⟨bk2, 0, none⟩ ∨ L.R ⟨bk2, 0, none⟩) := fun x => by
      have := hbk _ x
      have : bk2 < bk := this
      omega
    have g3 := g2.sets (v := .bool false) far
    have n2 := n2.sets (.bool false)
    have n0 := n0.other (v := .bool false) (a := ⟨bk2, 0, none⟩) (fun e => by cases e; omega)
    have r3 : ((L1.adds bk2 #[.bool false] fun _ => False).sets ⟨bk2, 0, none⟩ (.bool false)).role = .main m := r1
    have q3 : ((L1.adds bk2 #[.bool false] fun _ => False).sets ⟨bk2, 0, none⟩ (.bool false)).q = none := q1
    clear hf1 hf2
    generalize ((L1.adds bk2 #[.bool false] fun _ => False).sets ⟨bk2, 0, none⟩ (.bool false)) = L3 at n0 n2 g3 r3 q3 ⊢
    have hf3 : Fit L3 := ⟨⟨by rw [g3.h]; exact hb.h, fun wa zs f s e => by rw [r3] at e; cases e⟩, g3.vm hf.vm⟩
    have hd3 : L3.d = 0 := g3.d.trans hb.d
    (repeat (first | (co_apply wpS_region; simp only [List.size_toArray, List.length_cons, List.length_nil, Nat.reduceAdd, Nat.zero_add, List.range, List.range.loop]) | (co_apply opsS_pure; (focus (exact rfl)); (focus (exact rfl)); (focus (intro w; go_simp <;> exact rfl)); (focus (intro w; simp [go_sem, execOp, Act.eval]; done)); try walk_nrm) | (co_apply opsS_nil; try dsimp only) | co_apply wpS_seq | co_apply wpS_skip | (co_apply wpS_cond; (focus (exact rfl)); simp only [if_true, if_false, reduceIte, Bool.false_eq_true])))
    (co_apply opsS_read (.pointer (some ⟨p.b, 0, none⟩)); (focus (rfl)); (focus (rfl)); (focus (exact (hf3).live)); (focus (exact (hf3).vm)); (focus (intro w hS; have hu := (n0.sees).know w hS; go_simp)); (focus (intro w hS e he; have hu := (n0.sees).know w hS; have hm := mem_listed he; simp [go_sem, execOp, Act.eval, hu] at hm; subst hm; exact (n0.sees).ev _)); try walk_nrm)
    (repeat (first | (co_apply wpS_region; simp only [List.size_toArray, List.length_cons, List.length_nil, Nat.reduceAdd, Nat.zero_add, List.range, List.range.loop]) | (co_apply opsS_pure; (focus (exact rfl)); (focus (exact rfl)); (focus (intro w; go_simp <;> exact rfl)); (focus (intro w; simp [go_sem, execOp, Act.eval]; done)); try walk_nrm) | (co_apply opsS_nil; try dsimp only) | co_apply wpS_seq | co_apply wpS_skip | (co_apply wpS_cond; (focus (exact rfl)); simp only [if_true, if_false, reduceIte, Bool.false_eq_true])))
    (co_apply opsS_pure (v := (.func (.func 23) #[] #[.pointer (some ⟨bk2, 0, none⟩), .pointer (some ⟨bk, 0, none⟩)])); (focus (exact rfl)); (focus (exact rfl)); (focus (intro w; simp [go_sem, execOp, Act.eval, Instr.makeFunc])); (focus (intro w; simp [go_sem, execOp, Act.eval, Instr.makeFunc])); try walk_nrm)
    have h5 : Has L ⟨p.b, 5, none⟩ (.int .u32 0) := by have := hp.once; rwa [if_neg (by rw [hcl]; simp)] at this
    have k5 := g3.has h5
    have k6 := g3.has hp.mu
    (co_apply opsS_call; (focus (exact rfl)); (focus (exact rfl)); (focus (exact rfl)); (focus (exact Try.func22)); (focus (rfl)); (focus (rfl)); try simp only [List.map_toArray, List.map_cons, List.map_nil])
    · exact w_do1 rfl hf3 hd3 r3 hp.mem hcl hb.al q3 n2 n0.sees (g3.sees hp.ce) k5 k6 ⟨by omega, by omega⟩ (by omega)
    rintro _ _ ⟨rfl, rfl⟩
    walk_nrm
    have nb : (⟨bk, 0, none⟩ : Addr) ≠ ⟨bk2, 0, none⟩ := fun e => by cases e; omega
    have nb5 : (⟨bk, 0, none⟩ : Addr) ≠ ⟨p.b, 5, none⟩ := fun e => by cases e
    have nb6 : (⟨bk, 0, none⟩ : Addr) ≠ ⟨p.b, 6, none⟩ := fun e => by cases e
    have n4 : Has (L3.onced m p bk2) ⟨bk, 0, none⟩ (.pointer (some ⟨p.b, 0, none⟩)) := onced_has n0 nb5 nb6 nb
    obtain ⟨j1, j5, j6⟩ := onced_at (m := m) n2 k5 k6
    have hx : ExtBut p.b L (L3.onced m p bk2) := ⟨fun {a v} e5 e6 h => onced_sees (g3.sees h) e5 e6 fun e => far (e ▸ h.acc), fun {a v} e5 e6 h => onced_has (g3.has h) e5 e6 fun e => far (.inl (e ▸ h.own))⟩
    have r4 : (L3.onced m p bk2).role = .main (m.closes p) := rfl
    have q4 : (L3.onced m p bk2).q = none := rfl
    have d4 : (L3.onced m p bk2).d = 0 := hd3
    have h4 : (L3.onced m p bk2).h = .alive := g3.h.trans hb.h
    have vm4 : ∀ a, (L3.onced m p bk2).V a → (L3.onced m p bk2).M a := g3.vm hf.vm
    generalize L3.onced m p bk2 = L4 at n4 j1 j5 j6 hx r4 q4 d4 h4 vm4 ⊢
    have hf4 : Fit L4 := ⟨⟨h4, fun wa zs f s e => by rw [r4] at e; cases e⟩, vm4⟩
    clear n0 n2 k5 k6 g3 g2 g1
    (repeat (first | (co_apply wpS_region; simp only [List.size_toArray, List.length_cons, List.length_nil, Nat.reduceAdd, Nat.zero_add, List.range, List.range.loop]) | (co_apply opsS_pure; (focus (exact rfl)); (focus (exact rfl)); (focus (intro w; go_simp <;> exact rfl)); (focus (intro w; simp [go_sem, execOp, Act.eval]; done)); try walk_nrm) | (co_apply opsS_nil; try dsimp only) | co_apply wpS_seq | co_apply wpS_skip | (co_apply wpS_cond; (focus (exact rfl)); simp only [if_true, if_false, reduceIte, Bool.false_eq_true])))
    (co_apply opsS_read (.pointer (some ⟨p.b, 0, none⟩)); (focus (rfl)); (focus (rfl)); (focus (exact (hf4).live)); (focus (exact (hf4).vm)); (focus (intro w hS; have hu := (n4.sees).know w hS; go_simp)); (focus (intro w hS e he; have hu := (n4.sees).know w hS; have hm := mem_listed he; simp [go_sem, execOp, Act.eval, hu] at hm; subst hm; exact (n4.sees).ev _)); try walk_nrm)
    (repeat (first | (co_apply wpS_region; simp only [List.size_toArray, List.length_cons, List.length_nil, Nat.reduceAdd, Nat.zero_add, List.range, List.range.loop]) | (co_apply opsS_pure; (focus (exact rfl)); (focus (exact rfl)); (focus (intro w; go_simp <;> exact rfl)); (focus (intro w; simp [go_sem, execOp, Act.eval]; done)); try walk_nrm) | (co_apply opsS_nil; try dsimp only) | co_apply wpS_seq | co_apply wpS_skip | (co_apply wpS_cond; (focus (exact rfl)); simp only [if_true, if_false, reduceIte, Bool.false_eq_true])))
    (co_apply opsS_call; (focus (exact rfl)); (focus (exact rfl)); (focus (exact rfl)); (focus (exact Try.func20)); (focus (rfl)); (focus (rfl)); try simp only [List.map_toArray, List.map_cons, List.map_nil])
    · exact w_wait (wa := handsA p) (m := m.closes p) (P' := fun L' => L' = L4.turn (.main (((m.closes p).at none none (some (handsA p, 0))).done p)) none) rfl d4 hb.dn ⟨r4, handsA_isWa hp.mem, hb.reg, hb.pnd⟩ (.inl (.inl ⟨p, hp.mem, hfin, rfl⟩)) (fun e _ h => by
        simp only [MainR.closes, hands_b h, if_true]) q4 (mv_acqH (p := p) rfl hp.mem rfl rfl rfl hb.al (by simp [MainR.at, MainR.closes]) d4 rfl)
    rintro _ _ ⟨rfl, rfl⟩
    walk_nrm
    (repeat (first | (co_apply wpS_region; simp only [List.size_toArray, List.length_cons, List.length_nil, Nat.reduceAdd, Nat.zero_add, List.range, List.range.loop]) | (co_apply opsS_pure; (focus (exact rfl)); (focus (exact rfl)); (focus (intro w; go_simp <;> exact rfl)); (focus (intro w; simp [go_sem, execOp, Act.eval]; done)); try walk_nrm) | (co_apply opsS_nil; try dsimp only) | co_apply wpS_seq | co_apply wpS_skip | (co_apply wpS_cond; (focus (exact rfl)); simp only [if_true, if_false, reduceIte, Bool.false_eq_true])))
    have hf5 := hf4.turn (((m.closes p).at none none (some (handsA p, 0))).done p) none
    (co_apply opsS_read (.bool true); (focus (rfl)); (focus (rfl)); (focus (exact (hf5).live)); (focus (exact (hf5).vm)); (focus (intro w hS; have hu := ((j1.turn _ _).sees).know w hS; go_simp)); (focus (intro w hS e he; have hu := ((j1.turn _ _).sees).know w hS; have hm := mem_listed he; simp [go_sem, execOp, Act.eval, hu] at hm; subst hm; exact ((j1.turn _ _).sees).ev _)); try walk_nrm)
    (repeat (first | (co_apply wpS_region; simp only [List.size_toArray, List.length_cons, List.length_nil, Nat.reduceAdd, Nat.zero_add, List.range, List.range.loop]) | (co_apply opsS_pure; (focus (exact rfl)); (focus (exact rfl)); (focus (intro w; go_simp <;> exact rfl)); (focus (intro w; simp [go_sem, execOp, Act.eval]; done)); try walk_nrm) | (co_apply opsS_nil; try dsimp only) | co_apply wpS_seq | co_apply wpS_skip | (co_apply wpS_cond; (focus (exact rfl)); simp only [if_true, if_false, reduceIte, Bool.false_eq_true])))
    (first | (co_apply wpS_ret; refine ⟨_, fun w => ⟨results_tmp rfl _ _ _, events_results_tmp rfl _ _⟩, unwinds_nil ?_⟩) | (refine ⟨_, fun w => ⟨results_none rfl _ _ _, events_results_none rfl _ _⟩, unwinds_nil ?_⟩) | (co_apply wpS_ret; refine ⟨_, fun w => ⟨results_none rfl _ _ _, events_results_none rfl _ _⟩, unwinds_nil ?_⟩))
    have e5 : ∀ j : Nat, j ≠ 5 → (⟨p.b, j, none⟩ : Addr) ≠ ⟨p.b, 5, none⟩ := fun j h e => by cases e; exact h rfl
    have e6 : ∀ j : Nat, j ≠ 6 → (⟨p.b, j, none⟩ : Addr) ≠ ⟨p.b, 6, none⟩ := fun j h e => by cases e; exact h rfl
    refine ⟨rfl, _, ⟨rfl, rfl, h4, d4, vm4, rfl, rfl, hb.al, rfl, hb.nw, fun b h => (by
      by_cases e : b = p.b
      · exact ⟨p, hp.mem, e.symm⟩
      · have h : (if b = p.b then true else m.cl b) = true := h
        rw [if_neg e] at h
        exact hb.clb b h)⟩, ⟨rfl, rfl, rfl, rfl, rfl⟩, ⟨hp.mem, hp.rd, (hx.sees (e5 1 (by decide)) (e6 1 (by decide)) hp.ci).turn _ _, (hx.sees (e5 2 (by decide)) (e6 2 (by decide)) hp.ce).turn _ _, ?_, j6.turn _ _⟩, ⟨fun e5 e6 h => (hx.sees e5 e6 h).turn _ _, fun e5 e6 h => (hx.has e5 e6 h).turn _ _⟩⟩
    have := j5.turn (.main (((m.closes p).at none none (some (handsA p, 0))).done p)) none
    simpa [MainR.done, MainR.at, MainR.closes] using this
  · decide
/-- A later close. -/
theorem w_closeB [Inhabited Base] (hP : X.P = Try.prog) {m : MainR} {p : PoolG} (hb : Boss L m) (hp : PoolAt L m p) (hcl : m.cl p.b = true) (hfin : m.fin p.b = true) : CallsS X 0 13 #[.pointer (some ⟨p.b, 0, none⟩)] 25000 L fun r L' => r = .bool false ∧ ∃ m', Boss L' m' ∧ ClosedAs m m' p ∧ Ext L L' := by
  have hf := hb.fit
  (obtain ⟨P, ap, SelAt, CI, CW, Q⟩ := X; dsimp only at hP; subst hP)
  (co_apply CallsS.more; co_apply callsS_of_wp Try.func13 rfl; simp only [Try.ntmps13, List.size_toArray, List.length_cons, List.length_nil, Nat.reduceAdd, Nat.reduceSub, Array.replicate, List.replicate, List.append_toArray, List.cons_append, List.nil_append, List.append_eq])
  · (co_apply wpS_seq)
    (co_apply wpS_region; simp only [List.size_toArray, List.length_cons, List.length_nil, Nat.reduceAdd, Nat.zero_add, List.range, List.range.loop])
    (co_apply opsS_add (cs := #[.pointer (some ⟨p.b, 0, none⟩)]) (r := fun bk => .pointer (some ⟨bk, 0, none⟩)) (ty := 24) (fun _ => False); (focus (rfl)); (focus (rfl)); (focus (exact (hf).live)); (focus (exact (hf).vm)); (focus (intro w hS; go_simp)); (focus (intro w hS; simp [listed, go_sem, execOp, Act.eval, seen_none])))
    intro bk hbk
    walk_nrm
    have n0 : Has (L.adds bk #[.pointer (some ⟨p.b, 0, none⟩)] fun _ => False) ⟨bk, 0, none⟩ (.pointer (some ⟨p.b, 0, none⟩)) := has_new (k := 0) rfl (fun x => x) fun a ha => hbk a (.inl (hf.vm a ha))
    have g1 : Grows L (L.adds bk #[.pointer (some ⟨p.b, 0, none⟩)] fun _ => False) := Grows.adds hbk
    have r1 : (L.adds bk #[.pointer (some ⟨p.b, 0, none⟩)] fun _ => False).role = .main m := hb.role
    have q1 : (L.adds bk #[.pointer (some ⟨p.b, 0, none⟩)] fun _ => False).q = none := hb.q
    have hlt : p.b < bk := hbk ⟨p.b, 1, none⟩ hp.ci.acc
    generalize (L.adds bk #[.pointer (some ⟨p.b, 0, none⟩)] fun _ => False) = L1 at n0 g1 r1 q1 ⊢
    have hf1 : Fit L1 := ⟨⟨by rw [g1.h]; exact hb.h, fun wa zs f s e => by rw [r1] at e; cases e⟩, g1.vm hf.vm⟩
    (repeat (first | (co_apply wpS_region; simp only [List.size_toArray, List.length_cons, List.length_nil, Nat.reduceAdd, Nat.zero_add, List.range, List.range.loop]) | (co_apply opsS_pure; (focus (exact rfl)); (focus (exact rfl)); (focus (intro w; go_simp <;> exact rfl)); (focus (intro w; simp [go_sem, execOp, Act.eval]; done)); try walk_nrm) | (co_apply opsS_nil; try dsimp only) | co_apply wpS_seq | co_apply wpS_skip | (co_apply wpS_cond; (focus (exact rfl)); simp only [if_true, if_false, reduceIte, Bool.false_eq_true])))
    (co_apply opsS_read (.pointer (some ⟨p.b, 0, none⟩)); (focus (rfl)); (focus (rfl)); (focus (exact (hf1).live)); (focus (exact (hf1).vm)); (focus (intro w hS; have hu := (n0.sees).know w hS; go_simp)); (focus (intro w hS e he; have hu := (n0.sees).know w hS; have hm := mem_listed he; simp [go_sem, execOp, Act.eval, hu] at hm; subst hm; exact (n0.sees).ev _)); try walk_nrm)
    (co_apply opsS_pure (v := .bool false); (focus (exact rfl)); (focus (exact rfl)); (focus (intro w; go_simp <;> exact rfl)); (focus (intro w; simp [go_sem, execOp, Act.eval, ev_eql_ptr_nil Try.underlying24])); try walk_nrm)
    (repeat (first | (co_apply wpS_region; simp only [List.size_toArray, List.length_cons, List.length_nil, Nat.reduceAdd, Nat.zero_add, List.range, List.range.loop]) | (co_apply opsS_pure; (focus (exact rfl)); (focus (exact rfl)); (focus (intro w; go_simp <;> exact rfl)); (focus (intro w; simp [go_sem, execOp, Act.eval]; done)); try walk_nrm) | (co_apply opsS_nil; try dsimp only) | co_apply wpS_seq | co_apply wpS_skip | (co_apply wpS_cond; (focus (exact rfl)); simp only [if_true, if_false, reduceIte, Bool.false_eq_true])))
    (co_apply opsS_add (cs := #[.bool false]) (r := fun bk => .pointer (some ⟨bk, 0, none⟩)) (ty := 4) (fun _ => False); (focus (rfl)); (focus (rfl)); (focus (exact (hf1).live)); (focus (exact (hf1).vm)); (focus (intro w hS; go_simp)); (focus (intro w hS; simp [listed, go_sem, execOp, Act.eval, seen_none])))
    intro bk2 hbk2
    walk_nrm
    have n2 : Has (L1.adds bk2 #[.bool false] fun _ => False) ⟨bk2, 0, none⟩ (.bool false) := has_new (k := 0) rfl (fun x => x) fun a ha => hbk2 a (.inl (hf1.vm a ha))
    have g2 := g1.trans (Grows.adds (L := L1) (cs := #[.bool false]) hbk2)
    have hlt2 : bk < bk2 := hbk2 ⟨bk, 0, none⟩ (.inl n0.own)
    have n0 := n0.adds (cs := #[.bool false]) (Vn := fun _ => False) hlt2
    have hf2 : Fit (L1.adds bk2 #[.bool false] fun _ => False) := ⟨hf1.live, (Grows.adds hbk2).vm hf1.vm⟩
    (co_apply opsS_put (v := .bool false) (r := undef) (n2); (focus (rfl)); (focus (rfl)); (focus (exact (hf2).live)); (focus (exact (hf2).vm)); (focus (intro w hu hz; refine .inr ⟨?_, rfl⟩; go_simp)); (focus (intro w hu hz e he; have hm := mem_listed he; simp [go_sem, execOp, Act.eval, hu, hz] at hm; try rw [events_store _ _ _ _ _ _ rfl] at hm; simp [hu, hz] at hm; subst hm; exact (n2).ev _ _)); try walk_nrm)
    have far : ¬ (L.M ⟨bk2, 0, none⟩ ∨ L.R ⟨bk2, 0, none⟩) := fun x => by
      have := hbk _ x
      have : bk2 < bk := this
      omega
    have g3 := g2.sets (v := .bool false) far
    have n2 := n2.sets (.bool false)
    have n0 := n0.other (v := .bool false) (a := ⟨bk2, 0, none⟩) (fun e => by cases e; omega)
    have r3 : ((L1.adds bk2 #[.bool false] fun _ => False).sets ⟨bk2, 0, none⟩ (.bool false)).role = .main m := r1
    have q3 : ((L1.adds bk2 #[.bool false] fun _ => False).sets ⟨bk2, 0, none⟩ (.bool false)).q = none := q1
    clear hf1 hf2
    generalize ((L1.adds bk2 #[.bool false] fun _ => False).sets ⟨bk2, 0, none⟩ (.bool false)) = L3 at n0 n2 g3 r3 q3 ⊢
    have hf3 : Fit L3 := ⟨⟨by rw [g3.h]; exact hb.h, fun wa zs f s e => by rw [r3] at e; cases e⟩, g3.vm hf.vm⟩
    have hd3 : L3.d = 0 := g3.d.trans hb.d
    (repeat (first | (co_apply wpS_region; simp only [List.size_toArray, List.length_cons, List.length_nil, Nat.reduceAdd, Nat.zero_add, List.range, List.range.loop]) | (co_apply opsS_pure; (focus (exact rfl)); (focus (exact rfl)); (focus (intro w; go_simp <;> exact rfl)); (focus (intro w; simp [go_sem, execOp, Act.eval]; done)); try walk_nrm) | (co_apply opsS_nil; try dsimp only) | co_apply wpS_seq | co_apply wpS_skip | (co_apply wpS_cond; (focus (exact rfl)); simp only [if_true, if_false, reduceIte, Bool.false_eq_true])))
    (co_apply opsS_read (.pointer (some ⟨p.b, 0, none⟩)); (focus (rfl)); (focus (rfl)); (focus (exact (hf3).live)); (focus (exact (hf3).vm)); (focus (intro w hS; have hu := (n0.sees).know w hS; go_simp)); (focus (intro w hS e he; have hu := (n0.sees).know w hS; have hm := mem_listed he; simp [go_sem, execOp, Act.eval, hu] at hm; subst hm; exact (n0.sees).ev _)); try walk_nrm)
    (repeat (first | (co_apply wpS_region; simp only [List.size_toArray, List.length_cons, List.length_nil, Nat.reduceAdd, Nat.zero_add, List.range, List.range.loop]) | (co_apply opsS_pure; (focus (exact rfl)); (focus (exact rfl)); (focus (intro w; go_simp <;> exact rfl)); (focus (intro w; simp [go_sem, execOp, Act.eval]; done)); try walk_nrm) | (co_apply opsS_nil; try dsimp only) | co_apply wpS_seq | co_apply wpS_skip | (co_apply wpS_cond; (focus (exact rfl)); simp only [if_true, if_false, reduceIte, Bool.false_eq_true])))
    (co_apply opsS_pure (v := (.func (.func 23) #[] #[.pointer (some ⟨bk2, 0, none⟩), .pointer (some ⟨bk, 0, none⟩)])); (focus (exact rfl)); (focus (exact rfl)); (focus (intro w; simp [go_sem, execOp, Act.eval, Instr.makeFunc])); (focus (intro w; simp [go_sem, execOp, Act.eval, Instr.makeFunc])); try walk_nrm)
    have h5 : Has L ⟨p.b, 5, none⟩ (.int .u32 1) := by have := hp.once; rwa [if_pos hcl] at this
    (co_apply opsS_call; (focus (exact rfl)); (focus (exact rfl)); (focus (exact rfl)); (focus (exact Try.func22)); (focus (rfl)); (focus (rfl)); try simp only [List.map_toArray, List.map_cons, List.map_nil])
    · exact w_do2 rfl hf3 (g3.has h5).sees
    intro _ _ hE
    rw [hE.1, hE.2]
    clear hE
    walk_nrm
    (repeat (first | (co_apply wpS_region; simp only [List.size_toArray, List.length_cons, List.length_nil, Nat.reduceAdd, Nat.zero_add, List.range, List.range.loop]) | (co_apply opsS_pure; (focus (exact rfl)); (focus (exact rfl)); (focus (intro w; go_simp <;> exact rfl)); (focus (intro w; simp [go_sem, execOp, Act.eval]; done)); try walk_nrm) | (co_apply opsS_nil; try dsimp only) | co_apply wpS_seq | co_apply wpS_skip | (co_apply wpS_cond; (focus (exact rfl)); simp only [if_true, if_false, reduceIte, Bool.false_eq_true])))
    (co_apply opsS_read (.pointer (some ⟨p.b, 0, none⟩)); (focus (rfl)); (focus (rfl)); (focus (exact (hf3).live)); (focus (exact (hf3).vm)); (focus (intro w hS; have hu := (n0.sees).know w hS; go_simp)); (focus (intro w hS e he; have hu := (n0.sees).know w hS; have hm := mem_listed he; simp [go_sem, execOp, Act.eval, hu] at hm; subst hm; exact (n0.sees).ev _)); try walk_nrm)
    (repeat (first | (co_apply wpS_region; simp only [List.size_toArray, List.length_cons, List.length_nil, Nat.reduceAdd, Nat.zero_add, List.range, List.range.loop]) | (co_apply opsS_pure; (focus (exact rfl)); (focus (exact rfl)); (focus (intro w; go_simp <;> exact rfl)); (focus (intro w; simp [go_sem, execOp, Act.eval]; done)); try walk_nrm) | (co_apply opsS_nil; try dsimp only) | co_apply wpS_seq | co_apply wpS_skip | (co_apply wpS_cond; (focus (exact rfl)); simp only [if_true, if_false, reduceIte, Bool.false_eq_true])))
    (co_apply opsS_call; (focus (exact rfl)); (focus (exact rfl)); (focus (exact rfl)); (focus (exact Try.func20)); (focus (rfl)); (focus (rfl)); try simp only [List.map_toArray, List.map_cons, List.map_nil])
    · exact w_wait (wa := handsA p) (m := m) (P' := fun L' => L' = L3.turn (.main ((m.at none none (some (handsA p, 0))).done p)) none) rfl hd3 hb.dn ⟨r3, handsA_isWa hp.mem, hb.reg, hb.pnd⟩ (.inr ⟨p, hp.mem, rfl, hfin⟩) (fun e _ h => by rw [hands_b h]; exact hcl) q3 (mv_acqH (p := p) rfl hp.mem rfl rfl rfl hb.al hcl hd3 rfl)
    rintro _ _ ⟨rfl, rfl⟩
    walk_nrm
    (repeat (first | (co_apply wpS_region; simp only [List.size_toArray, List.length_cons, List.length_nil, Nat.reduceAdd, Nat.zero_add, List.range, List.range.loop]) | (co_apply opsS_pure; (focus (exact rfl)); (focus (exact rfl)); (focus (intro w; go_simp <;> exact rfl)); (focus (intro w; simp [go_sem, execOp, Act.eval]; done)); try walk_nrm) | (co_apply opsS_nil; try dsimp only) | co_apply wpS_seq | co_apply wpS_skip | (co_apply wpS_cond; (focus (exact rfl)); simp only [if_true, if_false, reduceIte, Bool.false_eq_true])))
    have hf5 := hf3.turn ((m.at none none (some (handsA p, 0))).done p) none
    (co_apply opsS_read (.bool false); (focus (rfl)); (focus (rfl)); (focus (exact (hf5).live)); (focus (exact (hf5).vm)); (focus (intro w hS; have hu := ((n2.turn _ _).sees).know w hS; go_simp)); (focus (intro w hS e he; have hu := ((n2.turn _ _).sees).know w hS; have hm := mem_listed he; simp [go_sem, execOp, Act.eval, hu] at hm; subst hm; exact ((n2.turn _ _).sees).ev _)); try walk_nrm)
    (repeat (first | (co_apply wpS_region; simp only [List.size_toArray, List.length_cons, List.length_nil, Nat.reduceAdd, Nat.zero_add, List.range, List.range.loop]) | (co_apply opsS_pure; (focus (exact rfl)); (focus (exact rfl)); (focus (intro w; go_simp <;> exact rfl)); (focus (intro w; simp [go_sem, execOp, Act.eval]; done)); try walk_nrm) | (co_apply opsS_nil; try dsimp only) | co_apply wpS_seq | co_apply wpS_skip | (co_apply wpS_cond; (focus (exact rfl)); simp only [if_true, if_false, reduceIte, Bool.false_eq_true])))
    (first | (co_apply wpS_ret; refine ⟨_, fun w => ⟨results_tmp rfl _ _ _, events_results_tmp rfl _ _⟩, unwinds_nil ?_⟩) | (refine ⟨_, fun w => ⟨results_none rfl _ _ _, events_results_none rfl _ _⟩, unwinds_nil ?_⟩) | (co_apply wpS_ret; refine ⟨_, fun w => ⟨results_none rfl _ _ _, events_results_none rfl _ _⟩, unwinds_nil ?_⟩))
    refine ⟨rfl, _, ⟨rfl, rfl, g3.h.trans hb.h, hd3, g3.vm hf.vm, rfl, rfl, hb.al, rfl, hb.nw, hb.clb⟩, ⟨rfl, ?_, rfl, rfl, rfl⟩, g3.ext.trans (Ext.turn _ _ _)⟩
    funext b
    by_cases e : b = p.b
    · rw [e, if_pos rfl]; exact hcl
    · rw [if_neg e]; rfl
  · decide
end Go.Proofs.Ytaceedenkmccdaa

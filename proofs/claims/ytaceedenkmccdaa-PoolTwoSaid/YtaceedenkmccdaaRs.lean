/- Pools: the walks of Close: the channel is closed, once. -/
import Derived.Test.YtaceedenkmccdaaRr
namespace Go.Proofs.Ytaceedenkmccdaa
open Go Go.Conc Go.ConcN
set_option linter.unusedSimpArgs false
set_option linter.unusedVariables false
variable {X : Cx} {L : Lo} {Post : Value → Lo → Prop}
set_option maxRecDepth 100000
set_option maxHeartbeats 4000000
theorem Fit.turn (h : Fit L) (m : MainR) (q : Option QSt) : Fit (L.turn (.main m) q) := ⟨⟨h.live.1, fun wa zs f s e => by cases e⟩, h.vm⟩
theorem w_close1 [Inhabited Base] (hP : X.P = Try.prog) {m : MainR} {p : PoolG} {b1 b2 : Nat} {u : Value} (hfit : Fit L) (hro : L.role = .main m) (hp : p ∈ m.ps) (hcl : m.cl p.b = false) (hal : m.al = none) (hq : L.q = none)
    (h1 : Has L ⟨b1, 0, none⟩ u) (h2 : Sees L ⟨b2, 0, none⟩ (.pointer (some ⟨p.b, 0, none⟩))) (h3 : Sees L ⟨p.b, 2, none⟩ (.chan (some p.ce))) (hb : b1 ≠ b2 ∧ b1 ≠ p.b) :
    CallsS X 0 23 #[.pointer (some ⟨b1, 0, none⟩), .pointer (some ⟨b2, 0, none⟩)] 100 L fun r L' => r = .tuple #[] ∧ L' = (L.sets ⟨b1, 0, none⟩ (.bool true)).turn (.main (m.closes p)) none := by
  (obtain ⟨P, ap, SelAt, CI, CW, Q⟩ := X; dsimp only at hP; subst hP)
  have g2 := h2.sets (v := .bool true) (a := ⟨b1, 0, none⟩) (fun e => by cases e; exact hb.1 rfl)
  have g3 := h3.sets (v := .bool true) (a := ⟨b1, 0, none⟩) (fun e => by cases e)
  (co_apply CallsS.more; co_apply callsS_of_wp Try.func23 rfl; simp only [Try.ntmps23, List.size_toArray, List.length_cons, List.length_nil, Nat.reduceAdd, Nat.reduceSub, Array.replicate, List.replicate, List.append_toArray, List.cons_append, List.nil_append, List.append_eq])
  · (repeat (first | (co_apply wpS_region; simp only [List.size_toArray, List.length_cons, List.length_nil, Nat.reduceAdd, Nat.zero_add, List.range, List.range.loop]) | (co_apply opsS_pure; (focus (exact rfl)); (focus (exact rfl)); (focus (intro w; go_simp <;> exact rfl)); (focus (intro w; simp [go_sem, execOp, Act.eval]; done)); try walk_nrm) | (co_apply opsS_nil; try dsimp only) | co_apply wpS_seq | co_apply wpS_skip | (co_apply wpS_cond; (focus (exact rfl)); simp only [if_true, if_false, reduceIte, Bool.false_eq_true])))
    (co_apply opsS_put (v := .bool true) (r := undef) (h1); (focus (rfl)); (focus (rfl)); (focus (exact (hfit).live)); (focus (exact (hfit).vm)); (focus (intro w hu hz; refine .inr ⟨?_, rfl⟩; go_simp)); (focus (intro w hu hz e he; have hm := mem_listed he; simp [go_sem, execOp, Act.eval, hu, hz] at hm; try rw [events_store _ _ _ _ _ _ rfl] at hm; simp [hu, hz] at hm; subst hm; exact (h1).ev _ _)); try walk_nrm)
    (repeat (first | (co_apply wpS_region; simp only [List.size_toArray, List.length_cons, List.length_nil, Nat.reduceAdd, Nat.zero_add, List.range, List.range.loop]) | (co_apply opsS_pure; (focus (exact rfl)); (focus (exact rfl)); (focus (intro w; go_simp <;> exact rfl)); (focus (intro w; simp [go_sem, execOp, Act.eval]; done)); try walk_nrm) | (co_apply opsS_nil; try dsimp only) | co_apply wpS_seq | co_apply wpS_skip | (co_apply wpS_cond; (focus (exact rfl)); simp only [if_true, if_false, reduceIte, Bool.false_eq_true])))
    (co_apply opsS_read (.pointer (some ⟨p.b, 0, none⟩)); (focus (rfl)); (focus (rfl)); (focus (exact (hfit.sets _ _).live)); (focus (exact (hfit.sets _ _).vm)); (focus (intro w hS; have hu := (g2).know w hS; go_simp)); (focus (intro w hS e he; have hu := (g2).know w hS; have hm := mem_listed he; simp [go_sem, execOp, Act.eval, hu] at hm; subst hm; exact (g2).ev _)); try walk_nrm)
    (repeat (first | (co_apply wpS_region; simp only [List.size_toArray, List.length_cons, List.length_nil, Nat.reduceAdd, Nat.zero_add, List.range, List.range.loop]) | (co_apply opsS_pure; (focus (exact rfl)); (focus (exact rfl)); (focus (intro w; go_simp <;> exact rfl)); (focus (intro w; simp [go_sem, execOp, Act.eval]; done)); try walk_nrm) | (co_apply opsS_nil; try dsimp only) | co_apply wpS_seq | co_apply wpS_skip | (co_apply wpS_cond; (focus (exact rfl)); simp only [if_true, if_false, reduceIte, Bool.false_eq_true])))
    (co_apply opsS_read (.chan (some p.ce)); (focus (rfl)); (focus (rfl)); (focus (exact (hfit.sets _ _).live)); (focus (exact (hfit.sets _ _).vm)); (focus (intro w hS; have hu := (g3).know w hS; go_simp)); (focus (intro w hS e he; have hu := (g3).know w hS; have hm := mem_listed he; simp [go_sem, execOp, Act.eval, hu] at hm; subst hm; exact (g3).ev _)); try walk_nrm)
    (repeat (first | (co_apply wpS_region; simp only [List.size_toArray, List.length_cons, List.length_nil, Nat.reduceAdd, Nat.zero_add, List.range, List.range.loop]) | (co_apply opsS_pure; (focus (exact rfl)); (focus (exact rfl)); (focus (intro w; go_simp <;> exact rfl)); (focus (intro w; simp [go_sem, execOp, Act.eval]; done)); try walk_nrm) | (co_apply opsS_nil; try dsimp only) | co_apply wpS_seq | co_apply wpS_skip | (co_apply wpS_cond; (focus (exact rfl)); simp only [if_true, if_false, reduceIte, Bool.false_eq_true])))
    co_apply opsS_close (m := m) (p := p) (r := .tuple #[])
    · rfl
    · rfl
    · exact ⟨_, _, _, rfl⟩
    · rfl
    · exact hro
    · exact hp
    · exact hcl
    · exact hal
    · exact hq
    · intro w s rc tm hch
      refine ⟨?_, ?_⟩
      · simp [go_sem, execOp, Act.eval, run_close_open _ _ hch]
      · have he := events_close_open (P := Try.prog) (es := #[]) #[37] 0 hch
        simp [listed, go_sem, execOp, Act.eval, he]
        rw [seen_eq (by kernel_rfl) (by simp)]
    walk_nrm
    (repeat (first | (co_apply wpS_region; simp only [List.size_toArray, List.length_cons, List.length_nil, Nat.reduceAdd, Nat.zero_add, List.range, List.range.loop]) | (co_apply opsS_pure; (focus (exact rfl)); (focus (exact rfl)); (focus (intro w; go_simp <;> exact rfl)); (focus (intro w; simp [go_sem, execOp, Act.eval]; done)); try walk_nrm) | (co_apply opsS_nil; try dsimp only) | co_apply wpS_seq | co_apply wpS_skip | (co_apply wpS_cond; (focus (exact rfl)); simp only [if_true, if_false, reduceIte, Bool.false_eq_true])))
    (first | (co_apply wpS_ret; refine ⟨_, fun w => ⟨results_tmp rfl _ _ _, events_results_tmp rfl _ _⟩, unwinds_nil ?_⟩) | (refine ⟨_, fun w => ⟨results_none rfl _ _ _, events_results_none rfl _ _⟩, unwinds_nil ?_⟩) | (co_apply wpS_ret; refine ⟨_, fun w => ⟨results_none rfl _ _ _, events_results_none rfl _ _⟩, unwinds_nil ?_⟩))
    exact ⟨rfl, rfl⟩
  · decide
/-- What is had behind the first Do. -/
def Lo.onced (L : Lo) (m : MainR) (p : PoolG) (b1 : Nat) : Lo := (((((L.sets ⟨p.b, 6, none⟩ (.int .i32 1)).sets ⟨b1, 0, none⟩ (.bool true)).turn (.main (m.closes p)) none).sets ⟨p.b, 5, none⟩ (.int .u32 1)).sets ⟨p.b, 6, none⟩ (.int .i32 0))
theorem w_doSlow [Inhabited Base] (hP : X.P = Try.prog) {m : MainR} {p : PoolG} {b1 b2 : Nat} {u : Value} (hfit : Fit L) (hd : L.d = 0) (hro : L.role = .main m) (hp : p ∈ m.ps) (hcl : m.cl p.b = false) (hal : m.al = none) (hq : L.q = none)
    (h1 : Has L ⟨b1, 0, none⟩ u) (h2 : Sees L ⟨b2, 0, none⟩ (.pointer (some ⟨p.b, 0, none⟩))) (h3 : Sees L ⟨p.b, 2, none⟩ (.chan (some p.ce))) (h5 : Has L ⟨p.b, 5, none⟩ (.int .u32 0)) (h6 : Has L ⟨p.b, 6, none⟩ (.int .i32 0)) (hb : b1 ≠ b2 ∧ b1 ≠ p.b) (hb2 : b2 ≠ p.b) :
    CallsS X 0 45 #[.pointer (some ⟨p.b, 5, none⟩), .func (.func 23) #[] #[.pointer (some ⟨b1, 0, none⟩), .pointer (some ⟨b2, 0, none⟩)]] 1000 L fun r L' => r = .tuple #[] ∧ L' = L.onced m p b1 := by
  (obtain ⟨P, ap, SelAt, CI, CW, Q⟩ := X; dsimp only at hP; subst hP)
  have n1 : (⟨b1, 0, none⟩ : Addr) ≠ ⟨p.b, 6, none⟩ := fun e => by cases e
  have n2 : (⟨b2, 0, none⟩ : Addr) ≠ ⟨p.b, 6, none⟩ := fun e => by cases e
  have n3 : (⟨p.b, 2, none⟩ : Addr) ≠ ⟨p.b, 6, none⟩ := fun e => by cases e
  have n5 : (⟨p.b, 5, none⟩ : Addr) ≠ ⟨p.b, 6, none⟩ := fun e => by cases e
  have n6 : (⟨p.b, 5, none⟩ : Addr) ≠ ⟨b1, 0, none⟩ := fun e => by cases e
  have n7 : (⟨p.b, 6, none⟩ : Addr) ≠ ⟨b1, 0, none⟩ := fun e => by cases e
  have n8 : (⟨p.b, 6, none⟩ : Addr) ≠ ⟨p.b, 5, none⟩ := fun e => by cases e
  (co_apply CallsS.more; co_apply callsS_of_wp Try.func45 rfl; simp only [Try.ntmps45, List.size_toArray, List.length_cons, List.length_nil, Nat.reduceAdd, Nat.reduceSub, Array.replicate, List.replicate, List.append_toArray, List.cons_append, List.nil_append, List.append_eq])
  · (repeat (first | (co_apply wpS_region; simp only [List.size_toArray, List.length_cons, List.length_nil, Nat.reduceAdd, Nat.zero_add, List.range, List.range.loop]) | (co_apply opsS_pure; (focus (exact rfl)); (focus (exact rfl)); (focus (intro w; go_simp <;> exact rfl)); (focus (intro w; simp [go_sem, execOp, Act.eval]; done)); try walk_nrm) | (co_apply opsS_nil; try dsimp only) | co_apply wpS_seq | co_apply wpS_skip | (co_apply wpS_cond; (focus (exact rfl)); simp only [if_true, if_false, reduceIte, Bool.false_eq_true])))
    (co_apply opsS_call; (focus (exact rfl)); (focus (exact rfl)); (focus (exact rfl)); (focus (exact Try.func52)); (focus (rfl)); (focus (rfl)); try simp only [List.map_toArray, List.map_cons, List.map_nil])
    · exact w_lock rfl hfit hd h6
    rintro _ _ ⟨rfl, rfl⟩
    walk_nrm
    (repeat (first | (co_apply wpS_region; simp only [List.size_toArray, List.length_cons, List.length_nil, Nat.reduceAdd, Nat.zero_add, List.range, List.range.loop]) | (co_apply opsS_pure; (focus (exact rfl)); (focus (exact rfl)); (focus (intro w; go_simp <;> exact rfl)); (focus (intro w; simp [go_sem, execOp, Act.eval]; done)); try walk_nrm) | (co_apply opsS_nil; try dsimp only) | co_apply wpS_seq | co_apply wpS_skip | (co_apply wpS_cond; (focus (exact rfl)); simp only [if_true, if_false, reduceIte, Bool.false_eq_true])))
    (co_apply opsS_defer; (focus (exact rfl)); (focus (exact rfl)); (focus (exact rfl)); simp only [List.map_toArray, List.map_cons, List.map_nil]; try walk_nrm)
    (repeat (first | (co_apply wpS_region; simp only [List.size_toArray, List.length_cons, List.length_nil, Nat.reduceAdd, Nat.zero_add, List.range, List.range.loop]) | (co_apply opsS_pure; (focus (exact rfl)); (focus (exact rfl)); (focus (intro w; go_simp <;> exact rfl)); (focus (intro w; simp [go_sem, execOp, Act.eval]; done)); try walk_nrm) | (co_apply opsS_nil; try dsimp only) | co_apply wpS_seq | co_apply wpS_skip | (co_apply wpS_cond; (focus (exact rfl)); simp only [if_true, if_false, reduceIte, Bool.false_eq_true])))
    (co_apply opsS_call; (focus (exact rfl)); (focus (exact rfl)); (focus (exact rfl)); (focus (exact Try.func44)); (focus (rfl)); (focus (rfl)); try simp only [List.map_toArray, List.map_cons, List.map_nil])
    · exact w_boolLoad rfl (hfit.sets _ _) (h5.other n5).sees
    intro _ _ hE
    rw [hE.1, hE.2]
    clear hE
    walk_nrm
    (repeat (first | (co_apply wpS_region; simp only [List.size_toArray, List.length_cons, List.length_nil, Nat.reduceAdd, Nat.zero_add, List.range, List.range.loop]) | (co_apply opsS_pure; (focus (exact rfl)); (focus (exact rfl)); (focus (intro w; go_simp <;> exact rfl)); (focus (intro w; simp [go_sem, execOp, Act.eval]; done)); try walk_nrm) | (co_apply opsS_nil; try dsimp only) | co_apply wpS_seq | co_apply wpS_skip | (co_apply wpS_cond; (focus (exact rfl)); simp only [if_true, if_false, reduceIte, Bool.false_eq_true])))
    (co_apply opsS_defer; (focus (exact rfl)); (focus (exact rfl)); (focus (exact rfl)); simp only [List.map_toArray, List.map_cons, List.map_nil]; try walk_nrm)
    (repeat (first | (co_apply wpS_region; simp only [List.size_toArray, List.length_cons, List.length_nil, Nat.reduceAdd, Nat.zero_add, List.range, List.range.loop]) | (co_apply opsS_pure; (focus (exact rfl)); (focus (exact rfl)); (focus (intro w; go_simp <;> exact rfl)); (focus (intro w; simp [go_sem, execOp, Act.eval]; done)); try walk_nrm) | (co_apply opsS_nil; try dsimp only) | co_apply wpS_seq | co_apply wpS_skip | (co_apply wpS_cond; (focus (exact rfl)); simp only [if_true, if_false, reduceIte, Bool.false_eq_true])))
    co_apply opsS_enter (f := 23) (args := #[.pointer (some ⟨b1, 0, none⟩), .pointer (some ⟨b2, 0, none⟩)])
    · rfl
    · rfl
    · intro w; go_simp
    · intro w; simp [go_sem, execOp, Act.eval, ev_callFunc Try.func23 rfl rfl]
    · exact w_close1 rfl (hfit.sets _ _) hro hp hcl hal hq (h1.other n1) (h2.sets n2) (h3.sets n3) hb
    rintro _ _ ⟨rfl, rfl⟩
    walk_nrm
    (repeat (first | (co_apply wpS_region; simp only [List.size_toArray, List.length_cons, List.length_nil, Nat.reduceAdd, Nat.zero_add, List.range, List.range.loop]) | (co_apply opsS_pure; (focus (exact rfl)); (focus (exact rfl)); (focus (intro w; go_simp <;> exact rfl)); (focus (intro w; simp [go_sem, execOp, Act.eval]; done)); try walk_nrm) | (co_apply opsS_nil; try dsimp only) | co_apply wpS_seq | co_apply wpS_skip | (co_apply wpS_cond; (focus (exact rfl)); simp only [if_true, if_false, reduceIte, Bool.false_eq_true])))
    refine ⟨_, fun w => ⟨results_none rfl _ _ _, events_results_none rfl _ _⟩, ?_⟩
    co_apply unwinds_enter Try.func54 rfl rfl
    · exact w_boolStoreD rfl (((hfit.sets _ _).sets _ _).turn _ _) (((h5.other n5).other n6).turn _ _)
    rintro _ rfl
    co_apply unwinds_enter Try.func53 rfl rfl
    · exact w_unlock rfl ((((hfit.sets _ _).sets _ _).turn _ _).sets _ _) hd ((((h6.sets _).other n7).turn _ _).other n8)
    rintro _ rfl
    exact unwinds_nil ⟨rfl, rfl⟩
  · decide
theorem w_do1 [Inhabited Base] (hP : X.P = Try.prog) {m : MainR} {p : PoolG} {b1 b2 : Nat} {u : Value} (hfit : Fit L) (hd : L.d = 0) (hro : L.role = .main m) (hp : p ∈ m.ps) (hcl : m.cl p.b = false) (hal : m.al = none) (hq : L.q = none)
    (h1 : Has L ⟨b1, 0, none⟩ u) (h2 : Sees L ⟨b2, 0, none⟩ (.pointer (some ⟨p.b, 0, none⟩))) (h3 : Sees L ⟨p.b, 2, none⟩ (.chan (some p.ce))) (h5 : Has L ⟨p.b, 5, none⟩ (.int .u32 0)) (h6 : Has L ⟨p.b, 6, none⟩ (.int .i32 0)) (hb : b1 ≠ b2 ∧ b1 ≠ p.b) (hb2 : b2 ≠ p.b) :
    CallsS X 0 22 #[.pointer (some ⟨p.b, 5, none⟩), .func (.func 23) #[] #[.pointer (some ⟨b1, 0, none⟩), .pointer (some ⟨b2, 0, none⟩)]] 1200 L fun r L' => r = .tuple #[] ∧ L' = L.onced m p b1 := by
  (obtain ⟨P, ap, SelAt, CI, CW, Q⟩ := X; dsimp only at hP; subst hP)
  (co_apply CallsS.more; co_apply callsS_of_wp Try.func22 rfl; simp only [Try.ntmps22, List.size_toArray, List.length_cons, List.length_nil, Nat.reduceAdd, Nat.reduceSub, Array.replicate, List.replicate, List.append_toArray, List.cons_append, List.nil_append, List.append_eq])
  · (repeat (first | (co_apply wpS_region; simp only [List.size_toArray, List.length_cons, List.length_nil, Nat.reduceAdd, Nat.zero_add, List.range, List.range.loop]) | (co_apply opsS_pure; (focus (exact rfl)); (focus (exact rfl)); (focus (intro w; go_simp <;> exact rfl)); (focus (intro w; simp [go_sem, execOp, Act.eval]; done)); try walk_nrm) | (co_apply opsS_nil; try dsimp only) | co_apply wpS_seq | co_apply wpS_skip | (co_apply wpS_cond; (focus (exact rfl)); simp only [if_true, if_false, reduceIte, Bool.false_eq_true])))
    (co_apply opsS_call; (focus (exact rfl)); (focus (exact rfl)); (focus (exact rfl)); (focus (exact Try.func44)); (focus (rfl)); (focus (rfl)); try simp only [List.map_toArray, List.map_cons, List.map_nil])
    · exact w_boolLoad rfl hfit h5.sees
    intro _ _ hE
    rw [hE.1, hE.2]
    clear hE
    walk_nrm
    (repeat (first | (co_apply wpS_region; simp only [List.size_toArray, List.length_cons, List.length_nil, Nat.reduceAdd, Nat.zero_add, List.range, List.range.loop]) | (co_apply opsS_pure; (focus (exact rfl)); (focus (exact rfl)); (focus (intro w; go_simp <;> exact rfl)); (focus (intro w; simp [go_sem, execOp, Act.eval]; done)); try walk_nrm) | (co_apply opsS_nil; try dsimp only) | co_apply wpS_seq | co_apply wpS_skip | (co_apply wpS_cond; (focus (exact rfl)); simp only [if_true, if_false, reduceIte, Bool.false_eq_true])))
    (co_apply opsS_call; (focus (exact rfl)); (focus (exact rfl)); (focus (exact rfl)); (focus (exact Try.func45)); (focus (rfl)); (focus (rfl)); try simp only [List.map_toArray, List.map_cons, List.map_nil])
    · exact w_doSlow rfl hfit hd hro hp hcl hal hq h1 h2 h3 h5 h6 hb hb2
    rintro _ _ ⟨rfl, rfl⟩
    walk_nrm
    (repeat (first | (co_apply wpS_region; simp only [List.size_toArray, List.length_cons, List.length_nil, Nat.reduceAdd, Nat.zero_add, List.range, List.range.loop]) | (co_apply opsS_pure; (focus (exact rfl)); (focus (exact rfl)); (focus (intro w; go_simp <;> exact rfl)); (focus (intro w; simp [go_sem, execOp, Act.eval]; done)); try walk_nrm) | (co_apply opsS_nil; try dsimp only) | co_apply wpS_seq | co_apply wpS_skip | (co_apply wpS_cond; (focus (exact rfl)); simp only [if_true, if_false, reduceIte, Bool.false_eq_true])))
    (first | (co_apply wpS_ret; refine ⟨_, fun w => ⟨results_tmp rfl _ _ _, events_results_tmp rfl _ _⟩, unwinds_nil ?_⟩) | (refine ⟨_, fun w => ⟨results_none rfl _ _ _, events_results_none rfl _ _⟩, unwinds_nil ?_⟩) | (co_apply wpS_ret; refine ⟨_, fun w => ⟨results_none rfl _ _ _, events_results_none rfl _ _⟩, unwinds_nil ?_⟩))
    exact ⟨rfl, rfl⟩
  · decide
/-- Behind the first. -/
theorem w_do2 [Inhabited Base] (hP : X.P = Try.prog) {b : Nat} {f : Value} (hfit : Fit L) (h5 : Sees L ⟨b, 5, none⟩ (.int .u32 1)) : CallsS X 0 22 #[.pointer (some ⟨b, 5, none⟩), f] 200 L fun r L' => r = .tuple #[] ∧ L' = L := by
  (obtain ⟨P, ap, SelAt, CI, CW, Q⟩ := X; dsimp only at hP; subst hP)
  (co_apply CallsS.more; co_apply callsS_of_wp Try.func22 rfl; simp only [Try.ntmps22, List.size_toArray, List.length_cons, List.length_nil, Nat.reduceAdd, Nat.reduceSub, Array.replicate, List.replicate, List.append_toArray, List.cons_append, List.nil_append, List.append_eq])
  · (repeat (first | (co_apply wpS_region; simp only [List.size_toArray, List.length_cons, List.length_nil, Nat.reduceAdd, Nat.zero_add, List.range, List.range.loop]) | (co_apply opsS_pure; (focus (exact rfl)); (focus (exact rfl)); (focus (intro w; go_simp <;> exact rfl)); (focus (intro w; simp [go_sem, execOp, Act.eval]; done)); try walk_nrm) | (co_apply opsS_nil; try dsimp only) | co_apply wpS_seq | co_apply wpS_skip | (co_apply wpS_cond; (focus (exact rfl)); simp only [if_true, if_false, reduceIte, Bool.false_eq_true])))
    (co_apply opsS_call; (focus (exact rfl)); (focus (exact rfl)); (focus (exact rfl)); (focus (exact Try.func44)); (focus (rfl)); (focus (rfl)); try simp only [List.map_toArray, List.map_cons, List.map_nil])
    · exact w_boolLoad rfl hfit h5
    intro _ _ hE
    rw [hE.1, hE.2]
    clear hE
    walk_nrm
    (repeat (first | (co_apply wpS_region; simp only [List.size_toArray, List.length_cons, List.length_nil, Nat.reduceAdd, Nat.zero_add, List.range, List.range.loop]) | (co_apply opsS_pure; (focus (exact rfl)); (focus (exact rfl)); (focus (intro w; go_simp <;> exact rfl)); (focus (intro w; simp [go_sem, execOp, Act.eval]; done)); try walk_nrm) | (co_apply opsS_nil; try dsimp only) | co_apply wpS_seq | co_apply wpS_skip | (co_apply wpS_cond; (focus (exact rfl)); simp only [if_true, if_false, reduceIte, Bool.false_eq_true])))
    (first | (co_apply wpS_ret; refine ⟨_, fun w => ⟨results_tmp rfl _ _ _, events_results_tmp rfl _ _⟩, unwinds_nil ?_⟩) | (refine ⟨_, fun w => ⟨results_none rfl _ _ _, events_results_none rfl _ _⟩, unwinds_nil ?_⟩) | (co_apply wpS_ret; refine ⟨_, fun w => ⟨results_none rfl _ _ _, events_results_none rfl _ _⟩, unwinds_nil ?_⟩))
    exact ⟨rfl, rfl⟩
  · decide
end Go.Proofs.Ytaceedenkmccdaa

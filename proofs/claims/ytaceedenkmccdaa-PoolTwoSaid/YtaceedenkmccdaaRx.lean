/- Pools: the worker's walk: a question is answered. -/
import Derived.Test.YtaceedenkmccdaaRw
namespace Go.Proofs.Ytaceedenkmccdaa
open Go Go.Conc Go.ConcN
set_option linter.unusedSimpArgs false
set_option linter.unusedVariables false
variable {X : Cx} {i : Nat} {L : Lo} {Post : Value → Lo → Prop}
set_option maxRecDepth 100000
set_option maxHeartbeats 4000000
theorem w_serve [Inhabited Base] (hP : X.P = Try.prog) (hap : ∀ v, X.ap 9 v = IntKind.i64.wrap (v + v) ∧ X.ap 14 v = IntKind.i64.wrap (v.tdiv 2)) {p : PoolG} {a : Act} {u1 u3 : Value} {cb : Nat} {v : Int} (ha : WA p a) (h14 : a.tmps[14]? = some (.tuple #[.int .i64 0, u1, qval v cb, u3])) (h16 : a.tmps[16]? = some (.bool true)) (h17 : a.tmps[17]? = some (.bool false))
    (hs : WS p i L) (hr : L.role = .worker p (some (cb, v, false))) : wpS X i 16 wB2 2000 (fun e a' L' => e = .normal ∧ WA p a' ∧ WS p i L' ∧ L'.role = .worker p none) a L := by
  (obtain ⟨P, ap, SelAt, CI, CW, Q⟩ := X; dsimp only at hP; subst hP)
  obtain ⟨tmps, defers⟩ := a
  obtain ⟨ds, sz, p0⟩ := ha
  dsimp only at ds sz p0 h14 h16 h17
  subst ds
  obtain ⟨f0, hlit, hf0⟩ := lit tmps 32 sz
  have e0 := hf0 0 _ p0
  have e14 := hf0 14 _ h14
  have e16 := hf0 16 _ h16
  have e17 := hf0 17 _ h17
  subst hlit
  clear sz p0 hf0 h14 h16 h17
  simp only [List.range, List.range.loop, List.map, e0, e14, e16, e17]
  clear e0 e14 e16 e17
  dsimp only [wB2, Try.f16]
  have hap' : ∀ v, ap 9 v = IntKind.i64.wrap (v + v) ∧ ap 14 v = IntKind.i64.wrap (v.tdiv 2) := hap
  have hf := hs.fit hr
  co_apply wpS_more
  co_apply wpS_block
  (repeat (first | (co_apply wpS_region; simp only [List.size_toArray, List.length_cons, List.length_nil, Nat.reduceAdd, Nat.zero_add, List.range, List.range.loop]) | (co_apply opsS_pure; (focus (exact rfl)); (focus (exact rfl)); (focus (intro w; go_simp <;> exact rfl)); (focus (intro w; simp [go_sem, execOp, Act.eval]; done)); try walk_nrm) | (co_apply opsS_nil; try dsimp only) | co_apply wpS_seq | co_apply wpS_skip | (co_apply wpS_cond; (focus (exact rfl)); simp only [if_true, if_false, reduceIte, Bool.false_eq_true])))
  co_apply opsS_add (cs := #[.int .i64 0, .chan none]) (r := fun bk => .pointer (some ⟨bk, 0, none⟩)) (ty := 63) (fun _ => False)
  · rfl
  · rfl
  · exact hf.live
  · exact hf.vm
  · intro w hS
    go_simp
  · intro w hS
    simp [listed, go_sem, execOp, Act.eval, seen_none]
  intro bk hbk
  walk_nrm
  have n0 : Has (L.adds bk #[.int .i64 0, .chan none] fun _ => False) ⟨bk, 0, none⟩ (.int .i64 0) := has_new (k := 0) rfl (fun x => x) fun a ha => hbk a (.inl (hf.vm a ha))
  have n1 : Has (L.adds bk #[.int .i64 0, .chan none] fun _ => False) ⟨bk, 1, none⟩ (.chan none) := has_new (k := 1) rfl (fun x => x) fun a ha => hbk a (.inl (hf.vm a ha))
  have hf1 : Fit (L.adds bk #[.int .i64 0, .chan none] fun _ => False) := ⟨hf.live, fun a ha => ha.elim (fun x => .inl (hf.vm a x)) fun ⟨_, _, _, x⟩ => x.elim⟩
  have hne : (⟨bk, 1, none⟩ : Addr) ≠ ⟨bk, 0, none⟩ := fun e => by cases e
  co_apply opsS_put2 (.int .i64 v) (.chan (some cb)) n0 n1 hne
  · rfl
  · rfl
  · exact hf1.live
  · exact hf1.vm
  · intro w c0 z0 c1 z1
    unfold qval
    go_simp
  · intro w c0 z0 c1 z1 e he
    have hm := mem_listed he
    simp [go_sem, execOp, Act.eval, qval, c0, z0, c1, z1] at hm
    rcases hm with rfl | rfl
    · exact n0.ev _ _
    · exact n1.ev _ _
  walk_nrm
  have m0 : Has (((L.adds bk #[.int .i64 0, .chan none] fun _ => False).sets ⟨bk, 0, none⟩ (.int .i64 v)).sets ⟨bk, 1, none⟩ (.chan (some cb))) ⟨bk, 0, none⟩ (.int .i64 v) := (n0.sets _).other hne.symm
  have m1 : Has (((L.adds bk #[.int .i64 0, .chan none] fun _ => False).sets ⟨bk, 0, none⟩ (.int .i64 v)).sets ⟨bk, 1, none⟩ (.chan (some cb))) ⟨bk, 1, none⟩ (.chan (some cb)) := (n1.other hne).sets _
  have hfar : ∀ {ad : Addr} {u : Value}, Sees L ad u → Sees (((L.adds bk #[.int .i64 0, .chan none] fun _ => False).sets ⟨bk, 0, none⟩ (.int .i64 v)).sets ⟨bk, 1, none⟩ (.chan (some cb))) ad u := fun {ad u} h => by
    have hlt := hbk ad h.acc
    exact ((h.adds hlt).sets (fun e => by rw [e] at hlt; exact absurd hlt (Nat.lt_irrefl _))).sets (fun e => by rw [e] at hlt; exact absurd hlt (Nat.lt_irrefl _))
  have g0 := hfar hs.f
  have gci := hfar hs.ci
  have gce := hfar hs.ce
  have gvm : ∀ a, (((L.adds bk #[.int .i64 0, .chan none] fun _ => False).sets ⟨bk, 0, none⟩ (.int .i64 v)).sets ⟨bk, 1, none⟩ (.chan (some cb))).V a → (((L.adds bk #[.int .i64 0, .chan none] fun _ => False).sets ⟨bk, 0, none⟩ (.int .i64 v)).sets ⟨bk, 1, none⟩ (.chan (some cb))).M a := hf1.vm
  have gro : (((L.adds bk #[.int .i64 0, .chan none] fun _ => False).sets ⟨bk, 0, none⟩ (.int .i64 v)).sets ⟨bk, 1, none⟩ (.chan (some cb))).role = .worker p (some (cb, v, false)) := hr
  have gh : (((L.adds bk #[.int .i64 0, .chan none] fun _ => False).sets ⟨bk, 0, none⟩ (.int .i64 v)).sets ⟨bk, 1, none⟩ (.chan (some cb))).h = .alive := hs.h
  have gd : (((L.adds bk #[.int .i64 0, .chan none] fun _ => False).sets ⟨bk, 0, none⟩ (.int .i64 v)).sets ⟨bk, 1, none⟩ (.chan (some cb))).d = 0 := hs.d
  have gq : (((L.adds bk #[.int .i64 0, .chan none] fun _ => False).sets ⟨bk, 0, none⟩ (.int .i64 v)).sets ⟨bk, 1, none⟩ (.chan (some cb))).q = none := hs.q
  generalize (((L.adds bk #[.int .i64 0, .chan none] fun _ => False).sets ⟨bk, 0, none⟩ (.int .i64 v)).sets ⟨bk, 1, none⟩ (.chan (some cb))) = L1 at m0 m1 g0 gci gce gvm gro gh gd gq ⊢
  (repeat (first | (co_apply wpS_region; simp only [List.size_toArray, List.length_cons, List.length_nil, Nat.reduceAdd, Nat.zero_add, List.range, List.range.loop]) | (co_apply opsS_pure; (focus (exact rfl)); (focus (exact rfl)); (focus (intro w; go_simp <;> exact rfl)); (focus (intro w; simp [go_sem, execOp, Act.eval]; done)); try walk_nrm) | (co_apply opsS_nil; try dsimp only) | co_apply wpS_seq | co_apply wpS_skip | (co_apply wpS_cond; (focus (exact rfl)); simp only [if_true, if_false, reduceIte, Bool.false_eq_true])))
  (co_apply opsS_call; (focus (exact rfl)); (focus (exact rfl)); (focus (exact rfl)); (focus (exact Try.func19)); (focus (rfl)); (focus (rfl)); try simp only [List.map_toArray, List.map_cons, List.map_nil])
  · exact w_i64add rfl (mv_counted hs.i0 gro gq gh)
  intro r L2 hL2
  walk_nrm
  (repeat (first | (co_apply wpS_region; simp only [List.size_toArray, List.length_cons, List.length_nil, Nat.reduceAdd, Nat.zero_add, List.range, List.range.loop]) | (co_apply opsS_pure; (focus (exact rfl)); (focus (exact rfl)); (focus (intro w; go_simp <;> exact rfl)); (focus (intro w; simp [go_sem, execOp, Act.eval]; done)); try walk_nrm) | (co_apply opsS_nil; try dsimp only) | co_apply wpS_seq | co_apply wpS_skip | (co_apply wpS_cond; (focus (exact rfl)); simp only [if_true, if_false, reduceIte, Bool.false_eq_true])))
  have hkeep : ∀ (done : Array Bool) (j : Nat) {L' : Lo}, j ≠ 9 → done.size = 10 → L' = (if done.getD 9 false = true then L1.turn (.worker p none) none else L2) → L' = (if (done.setIfInBounds j true).getD 9 false = true then L1.turn (.worker p none) none else L2) := fun done j L' hj hs hSt => by
    rw [hSt]
    by_cases hlt : j < done.size
    · rw [done_set hlt, if_neg (Ne.symm hj)]
    · rw [show done.setIfInBounds j true = done from by simp [Array.setIfInBounds, hlt]]
  co_apply wpS_fill (fun | 0 => .pointer (some ⟨bk, 1, none⟩) | 1 => .chan (some cb) | 2 => .pointer (some ⟨p.b, 0, none⟩) | 3 => .pointer (some ⟨p.b, 0, none⟩) | 4 => .pointer (some ⟨p.b, 0, none⟩) | 5 => .func (.func p.fn) #[] #[] | 6 => .pointer (some ⟨bk, 0, none⟩) | 7 => .int .i64 v | 8 => .int .i64 (ap p.fn v) | _ => undef) (fun done L' => L' = if done.getD 9 false = true then L1.turn (.worker p none) none else L2) 60
  · kernel_rfl
  · subst hL2; exact nl_of (r := .worker p (some (cb, v, true))) rfl fun wa zs f => by simp
  · rfl
  · intro done j o a' L' hs0 ho hnd hdep hF hSt
    obtain ⟨hlt, _⟩ := Array.getElem?_eq_some_iff.1 ho
    have hL' : ∃ job, L' = L1.turn (.worker p job) none := by
      rw [hSt]
      split
      · exact ⟨_, rfl⟩
      · exact ⟨_, hL2⟩
    have hfit : Fit L' := by obtain ⟨job, rfl⟩ := hL'; exact ⟨⟨gh, fun wa zs f s e => by cases e⟩, gvm⟩
    have s1 : Sees L' ⟨bk, 1, none⟩ (.chan (some cb)) := by obtain ⟨job, rfl⟩ := hL'; exact m1.sees.turn _ _
    have s7 : Sees L' ⟨bk, 0, none⟩ (.int .i64 v) := by obtain ⟨job, rfl⟩ := hL'; exact m0.sees.turn _ _
    have s5 : Sees L' ⟨p.b, 0, none⟩ (.func (.func p.fn) #[] #[]) := by obtain ⟨job, rfl⟩ := hL'; exact g0.turn _ _
    match j, hlt with
    | 0, _ =>
      cases ho
      have e2 : a'.tmps[2]? = some (.pointer (some ⟨bk, 0, none⟩)) := hF.base rfl rfl
      exact opS_pure _ rfl rfl (by intro w; simp [go_sem, execOp, e2]) (by intro w; simp [go_sem, execOp, e2]) ⟨rfl, hkeep done 0 (by decide) hs0 hSt⟩ (by decide)
    | 1, _ =>
      cases ho
      have d0 : done.getD 0 false = true := hdep ⟨0, .data⟩ (by simp) rfl
      have e23 : a'.tmps[23]? = some (.pointer (some ⟨bk, 1, none⟩)) := hF.at (k := 0) rfl rfl rfl d0
      exact opS_read _ rfl rfl hfit.live hfit.vm (by intro w hS; have hc := (s1).know w hS; simp [go_sem, execOp, hc, e23]) (by intro w hS e he; have hc := (s1).know w hS; have hm := mem_listed he; simp [go_sem, execOp, hc, e23] at hm; subst hm; exact (s1).ev _) ⟨rfl, hkeep done 1 (by decide) hs0 hSt⟩ (by decide)
    | 2, _ =>
      cases ho
      have e0 : a'.tmps[0]? = some (.pointer (some ⟨p.b, 0, none⟩)) := hF.base rfl rfl
      exact opS_pure _ rfl rfl (by intro w; simp [go_sem, execOp, e0]) (by intro w; simp [go_sem, execOp, e0]) ⟨rfl, hkeep done 2 (by decide) hs0 hSt⟩ (by decide)
    | 3, _ =>
      cases ho
      have d2 : done.getD 2 false = true := hdep ⟨2, .data⟩ (by simp) rfl
      have e25 : a'.tmps[25]? = some (.pointer (some ⟨p.b, 0, none⟩)) := hF.at (k := 2) rfl rfl rfl d2
      exact opS_pure _ rfl rfl (by intro w; simp [go_sem, execOp, e25]) (by intro w; simp [go_sem, execOp, e25]) ⟨rfl, hkeep done 3 (by decide) hs0 hSt⟩ (by decide)
    | 4, _ =>
      cases ho
      have d3 : done.getD 3 false = true := hdep ⟨3, .data⟩ (by simp) rfl
      have e26 : a'.tmps[26]? = some (.pointer (some ⟨p.b, 0, none⟩)) := hF.at (k := 3) rfl rfl rfl d3
      exact opS_pure _ rfl rfl (by intro w; simp [go_sem, execOp, e26]) (by intro w; simp [go_sem, execOp, e26]) ⟨rfl, hkeep done 4 (by decide) hs0 hSt⟩ (by decide)
    | 5, _ =>
      cases ho
      have d4 : done.getD 4 false = true := hdep ⟨4, .data⟩ (by simp) rfl
      have e27 : a'.tmps[27]? = some (.pointer (some ⟨p.b, 0, none⟩)) := hF.at (k := 4) rfl rfl rfl d4
      exact opS_read _ rfl rfl hfit.live hfit.vm (by intro w hS; have hc := (s5).know w hS; simp [go_sem, execOp, hc, e27]) (by intro w hS e he; have hc := (s5).know w hS; have hm := mem_listed he; simp [go_sem, execOp, hc, e27] at hm; subst hm; exact (s5).ev _) ⟨rfl, hkeep done 5 (by decide) hs0 hSt⟩ (by decide)
    | 6, _ =>
      cases ho
      have e2 : a'.tmps[2]? = some (.pointer (some ⟨bk, 0, none⟩)) := hF.base rfl rfl
      exact opS_pure _ rfl rfl (by intro w; simp [go_sem, execOp, e2]) (by intro w; simp [go_sem, execOp, e2]) ⟨rfl, hkeep done 6 (by decide) hs0 hSt⟩ (by decide)
    | 7, _ =>
      cases ho
      have d6 : done.getD 6 false = true := hdep ⟨6, .data⟩ (by simp) rfl
      have e29 : a'.tmps[29]? = some (.pointer (some ⟨bk, 0, none⟩)) := hF.at (k := 6) rfl rfl rfl d6
      exact opS_read _ rfl rfl hfit.live hfit.vm (by intro w hS; have hc := (s7).know w hS; simp [go_sem, execOp, hc, e29]) (by intro w hS e he; have hc := (s7).know w hS; have hm := mem_listed he; simp [go_sem, execOp, hc, e29] at hm; subst hm; exact (s7).ev _) ⟨rfl, hkeep done 7 (by decide) hs0 hSt⟩ (by decide)
    | 8, _ =>
      cases ho
      have d5 : done.getD 5 false = true := hdep ⟨5, .data⟩ (by simp) rfl
      have d7 : done.getD 7 false = true := hdep ⟨7, .data⟩ (by simp) rfl
      have e28 : a'.tmps[28]? = some (.func (.func p.fn) #[] #[]) := hF.at (k := 5) rfl rfl rfl d5
      have e30 : a'.tmps[30]? = some (.int .i64 v) := hF.at (k := 7) rfl rfl rfl d7
      refine opS_enter (nf := 40) (f := p.fn) (args := #[.int .i64 v]) (Post := fun r L'' => r = .int .i64 (ap p.fn v) ∧ L'' = L') rfl rfl ?_ ?_ ?_ (fun r L'' hr => by obtain ⟨rfl, rfl⟩ := hr; exact ⟨rfl, hkeep done 8 (by decide) hs0 hSt⟩) (by decide)
      · intro w; rcases hs.fn with hfn | hfn <;> (rw [hfn] at e28 ⊢; simp [go_sem, execOp, Act.eval, e28, e30])
      · intro w; rcases hs.fn with hfn | hfn <;> (rw [hfn] at e28; simp [go_sem, execOp, Act.eval, e28, e30, ev_callFunc Try.func9 rfl rfl, ev_callFunc Try.func14 rfl rfl])
      · rcases hs.fn with hfn | hfn
        · rw [hfn, (hap' v).1]; exact w_twice rfl
        · rw [hfn, (hap' v).2]; exact w_back rfl
    | 9, _ =>
      cases ho
      have d1 : done.getD 1 false = true := hdep ⟨1, .data⟩ (by simp) rfl
      have d8 : done.getD 8 false = true := hdep ⟨8, .data⟩ (by simp) rfl
      have e24 : a'.tmps[24]? = some (.chan (some cb)) := hF.at (k := 1) rfl rfl rfl d1
      have e31 : a'.tmps[31]? = some (.int .i64 (ap p.fn v)) := hF.at (k := 8) rfl rfl rfl d8
      rw [if_neg (by rw [hnd]; decide)] at hSt
      rw [hL2] at hSt
      subst hSt
      intro rest n Q' hnext
      refine opsS_more (opsS_answer (k := n) (p := p) (cb := cb) (v := v) (z := .tuple #[]) rfl rfl ?_ ?_ rfl rfl (hnext _ _ ⟨rfl, by rw [done_set (by rw [hs0]; decide), if_pos rfl, if_pos rfl]; rfl⟩)) (by omega)
      · intro w; simp [execOp, Act.eval, e24, e31, scase]
      · intro w; simp [listed, execOp, Act.eval, e24, e31, seen_none]
  · intro done a' L' hs0 hall hF heq hSt
    rw [if_pos (hall 9 (by decide))] at hSt
    subst hSt
    exact ⟨rfl, ⟨hF.defers, hF.size, hF.base rfl rfl⟩, ⟨rfl, gh, gd, gvm, g0.turn _ _, gci.turn _ _, gce.turn _ _, hs.fn, hs.i0⟩, rfl⟩
  decide
end Go.Proofs.Ytaceedenkmccdaa

/- Pools: the walk of Ask. -/
import Derived.Test.YtaceedenkmccdaaRy
namespace Go.Proofs.Ytaceedenkmccdaa
open Go Go.Conc Go.ConcN
set_option linter.unusedSimpArgs false
set_option linter.unusedVariables false
variable {X : Cx} {i : Nat} {L : Lo} {Post : Value → Lo → Prop}
set_option maxRecDepth 100000
set_option maxHeartbeats 4000000
theorem mute_bind {P : Program} {α β : Type} {x : Sem α} {f : α → Sem β} (hx : ∀ w es, x.events P w es = es) (hf : ∀ a w es, (f a).events P w es = es) (w : World) (es : Array Event) : (x >>= f).events P w es = es := by
  rw [Sem.events_bind, hx]
  cases x.run P w <;> simp [hf]
theorem mute_mapM [Inhabited Base] {P : Program} {α β : Type} {f : α → Sem β} (hf : ∀ a w es, (f a).events P w es = es) : ∀ (l : List α) w es, (l.mapM f).events P w es = es
  | [], w, es => by simp
  | a :: l, w, es => by
    rw [List.mapM_cons]
    exact mute_bind (hf a) (fun b => mute_bind (mute_mapM hf l) fun c w es => by simp) w es
theorem ev_build [Inhabited Base] {P : Program} (t : TypeId) (parts : Array (Nat × Value)) (w : World) (es : Array Event) : (Instr.build t parts).events P w es = es := by
  unfold Instr.build
  refine mute_bind (events_zeroValue P · · t) (fun z => mute_bind (events_underlying P · · t) fun d w es => ?_) w es
  cases d <;> try (simp; done)
  · rename_i n e
    refine mute_bind (events_sizeOf P · · _) (fun s w es => ?_) w es
    split <;> simp
  · rename_i fields
    dsimp only
    refine mute_bind (fun w es => ?_) (fun s w es => ?_) w es
    · rw [Array.mapM_eq_mapM_toList, Sem.events_map]
      exact mute_mapM (fun f w es => mute_bind (events_sizeOf P · · _) (fun _ _ _ => by simp) w es) _ w es
    · split <;> simp
/-- A cell of one's own, whatever it holds. -/
structure HasE (L : Lo) (a : Addr) : Prop where
  know : ∀ w, L.S w → ∃ v, w.cell? a = some v
  froz : ∀ w, L.S w → w.frozen? a = false
  own : L.M a
  nv : ¬ L.V a
/-- What was seen and had is seen and had yet. -/
structure Grows (L L' : Lo) : Prop where
  sees : ∀ {a v}, Sees L a v → Sees L' a v
  has : ∀ {a v}, Has L a v → Has L' a v
  hase : ∀ {a}, HasE L a → HasE L' a
  own : ∀ a, L.M a → L'.M a
  acc : ∀ a, L.M a ∨ L.R a → L'.M a ∨ L'.R a
  r : L'.R = L.R
  h : L'.h = L.h
  d : L'.d = L.d
  vm : (∀ a, L.V a → L.M a) → ∀ a, L'.V a → L'.M a
  nv : (∀ a, ¬ L.V a) → ∀ a, ¬ L'.V a
theorem Grows.refl (L : Lo) : Grows L L := ⟨fun h => h, fun h => h, fun h => h, fun _ h => h, fun _ h => h, rfl, rfl, rfl, fun h => h, fun h => h⟩
theorem Grows.trans {L L1 L2 : Lo} (h : Grows L L1) (g : Grows L1 L2) : Grows L L2 := ⟨fun x => g.sees (h.sees x), fun x => g.has (h.has x), fun x => g.hase (h.hase x), fun a x => g.own a (h.own a x), fun a x => g.acc a (h.acc a x), g.r.trans h.r, g.h.trans h.h, g.d.trans h.d, fun x => g.vm (h.vm x), fun x => g.nv (h.nv x)⟩
theorem Grows.turn [Inhabited Base] (L : Lo) (r : Role) (q : Option QSt) : Grows L (L.turn r q) := ⟨fun h => h.turn r q, fun h => h.turn r q, fun h => ⟨h.know, h.froz, h.own, h.nv⟩, fun _ h => h, fun _ h => h, rfl, rfl, rfl, fun h => h, fun h => h⟩
theorem Grows.adds [Inhabited Base] {L : Lo} {bk : Nat} {cs : Array Value} (hbk : ∀ ad, L.M ad ∨ L.R ad → ad.block < bk) : Grows L (L.adds bk cs fun _ => False) :=
  ⟨fun h => h.adds (hbk _ h.acc), fun h => h.adds (hbk _ (.inl h.own)), fun {a} h => ⟨fun w x => h.know w x.1, fun w x => h.froz w x.1, .inl h.own, fun x => x.elim h.nv fun ⟨_, _, _, y⟩ => y.elim⟩, fun a h => .inl h, fun a h => h.imp .inl id, rfl, rfl, rfl, fun h a x => x.elim (fun y => .inl (h a y)) fun ⟨_, _, _, y⟩ => y.elim, fun h a x => x.elim (h a) fun ⟨_, _, _, y⟩ => y.elim⟩
/-- A cell that the elder state did not have is written. -/
theorem Grows.sets [Inhabited Base] {L L1 : Lo} {ad : Addr} {v : Value} (h : Grows L L1) (hn : ¬ (L.M ad ∨ L.R ad)) : Grows L (L1.sets ad v) :=
  ⟨fun {a u} x => (h.sees x).sets fun e => hn (e ▸ x.acc), fun {a u} x => (h.has x).other fun e => hn (.inl (e ▸ x.own)), fun {a} x => by
    have y := h.hase x
    have hne : a ≠ ad := fun e => hn (.inl (e ▸ x.own))
    exact ⟨fun w ⟨_, w0, s, k, _⟩ => by rw [(k a hne (.inl y.own)).1]; exact y.know w0 s, fun w ⟨_, w0, s, k, _⟩ => by rw [(k a hne (.inl y.own)).2]; exact y.froz w0 s, y.own, y.nv⟩, h.own, h.acc, h.r, h.h, h.d, h.vm, h.nv⟩
theorem ev_eql_ptr_nil {P : Program} {t e : TypeId} (h : P.underlying t = some (.pointer e)) (p : Option Addr) (w : World) (es : Array Event) : (binOp .eql t (.pointer p) (.pointer none)).events P w es = es := by
  have h1 := fun w => run_underlying (w := w) h
  have h3 : ∀ d, (Op.equalIn (d + 1) t (.pointer p) (.pointer none)).events P w es = es := fun d => by
    cases p <;> simp [Op.equalIn, h1]
  simp only [binOp]
  have h4 : (Op.equal t (.pointer p) (.pointer none)).events P w es = es := h3 9999
  simp [h4]
theorem ev_eql_fn_nil {P : Program} {t : TypeId} {ps rs : Array TypeId} {v : Bool} (h : P.underlying t = some (.func ps rs v)) (x : Value) (w : World) (es : Array Event) (hx : x = .nilFunc ∨ ∃ f a b, x = .func f a b) : (binOp .eql t x .nilFunc).events P w es = es := by
  have h1 := fun w => run_underlying (w := w) h
  have h3 : ∀ d, (Op.equalIn (d + 1) t x .nilFunc).events P w es = es := fun d => by
    rcases hx with rfl | ⟨f, a, b, rfl⟩ <;> simp [Op.equalIn, h1]
  simp only [binOp]
  have h4 : (Op.equal t x .nilFunc).events P w es = es := h3 9999
  simp [h4]
theorem mkch {P : Program} {t e : TypeId} {dir : ChanDir} {n : Nat} (ht : P.underlying t = some (.chan dir e)) (hb : ((P.info? e).any fun i => decide ((i.bytes : Int) * n ≤ 281474976710544)) = true) (h63 : (n : Int) ≤ 9223372036854775807) (w : World) :
    (Instr.makeChan t (.int .i64 n)).run P w = .ok (.chan (some w.heap.size)) (w.alloc (.chan n #[] false 0 0 false)) ∧ ∀ es, (Instr.makeChan t (.int .i64 n)).events P w es = es := by
  cases hi : P.info? e with
  | none => rw [hi] at hb; cases hb
  | some i =>
    rw [hi] at hb
    have hb : (i.bytes : Int) * n ≤ 281474976710544 := by simpa using hb
    exact ⟨run_makeChan ht hi .i64 n h63 hb, fun es => events_makeChan ht hi .i64 n h63 hb es⟩
theorem res_peek1 (c : Nat) (z : Value) : commResult #[rcase c z] .select 0 z false = .tuple #[.int .i64 0, .bool false, z] := by simp [commResult, rcase, goInt, Array.zipIdx]
theorem res_peek0 (c : Nat) (z : Value) : commResult #[rcase c z] .select (-1) undef false = .tuple #[.int .i64 (-1), .bool false, z] := by simp [commResult, rcase, goInt, Array.zipIdx]
theorem res_ask (c c' : Nat) (v z z' : Value) : commResult #[scase c v z', rcase c' z] .select 0 undef false = .tuple #[.int .i64 0, .bool false, z] := by simp [commResult, rcase, scase, goInt, Array.zipIdx]
theorem sent_live {p : PoolG} (h : Live L) : Live (sentL p L) := ⟨h.1, fun wa zs f s e => by
  have e : sentR p L.role = .left wa zs f s := e
  cases hr : L.role with
  | main m => rw [hr] at e; cases e
  | worker p job => rw [hr] at e; cases e
  | asker A zs cur f =>
    rw [hr] at e
    cases cur with
    | none => cases e
    | some c => obtain ⟨z, b⟩ := c; cases e
  | left a b c d => exact h.2 _ _ _ _ hr⟩
/-- Ask, where nobody answers. -/
theorem w_ask0 [Inhabited Base] (hP : X.P = Try.prog) {v : Int} : CallsS X i 11 #[.pointer none, .int .i64 v] 100 L fun r L' => r = .tuple #[.int .i64 0, .bool false] ∧ L' = L := by
  (obtain ⟨P, ap, SelAt, CI, CW, Q⟩ := X; dsimp only at hP; subst hP)
  (co_apply CallsS.more; co_apply callsS_of_wp Try.func11 rfl; simp only [Try.ntmps11, List.size_toArray, List.length_cons, List.length_nil, Nat.reduceAdd, Nat.reduceSub, Array.replicate, List.replicate, List.append_toArray, List.cons_append, List.nil_append, List.append_eq])
  · (co_apply wpS_seq)
    (repeat (first | (co_apply wpS_region; simp only [List.size_toArray, List.length_cons, List.length_nil, Nat.reduceAdd, Nat.zero_add, List.range, List.range.loop]) | (co_apply opsS_pure; (focus (exact rfl)); (focus (exact rfl)); (focus (intro w; go_simp <;> exact rfl)); (focus (intro w; simp [go_sem, execOp, Act.eval]; done)); try walk_nrm) | (co_apply opsS_nil; try dsimp only) | co_apply wpS_skip | (co_apply wpS_cond; (focus (exact rfl)); simp only [if_true, if_false, reduceIte, Bool.false_eq_true])))
    (co_apply wpS_seq)
    (repeat (first | (co_apply wpS_region; simp only [List.size_toArray, List.length_cons, List.length_nil, Nat.reduceAdd, Nat.zero_add, List.range, List.range.loop]) | (co_apply opsS_pure; (focus (exact rfl)); (focus (exact rfl)); (focus (intro w; go_simp <;> exact rfl)); (focus (intro w; simp [go_sem, execOp, Act.eval]; done)); try walk_nrm) | (co_apply opsS_nil; try dsimp only) | co_apply wpS_skip | (co_apply wpS_cond; (focus (exact rfl)); simp only [if_true, if_false, reduceIte, Bool.false_eq_true])))
    co_apply wpS_seq (n₂ := 0)
    (repeat (first | (co_apply wpS_region; simp only [List.size_toArray, List.length_cons, List.length_nil, Nat.reduceAdd, Nat.zero_add, List.range, List.range.loop]) | (co_apply opsS_pure; (focus (exact rfl)); (focus (exact rfl)); (focus (intro w; go_simp <;> exact rfl)); (focus (intro w; simp [go_sem, execOp, Act.eval]; done)); try walk_nrm) | (co_apply opsS_nil; try dsimp only) | co_apply wpS_seq | co_apply wpS_skip | (co_apply wpS_cond; (focus (exact rfl)); simp only [if_true, if_false, reduceIte, Bool.false_eq_true])))
    (co_apply opsS_pure (v := .bool true); (focus (exact rfl)); (focus (exact rfl)); (focus (intro w; go_simp <;> exact rfl)); (focus (intro w; simp [go_sem, execOp, Act.eval, ev_eql_ptr_nil Try.underlying24])); try walk_nrm)
    (repeat (first | (co_apply wpS_region; simp only [List.size_toArray, List.length_cons, List.length_nil, Nat.reduceAdd, Nat.zero_add, List.range, List.range.loop]) | (co_apply opsS_pure; (focus (exact rfl)); (focus (exact rfl)); (focus (intro w; go_simp <;> exact rfl)); (focus (intro w; simp [go_sem, execOp, Act.eval]; done)); try walk_nrm) | (co_apply opsS_nil; try dsimp only) | co_apply wpS_seq | co_apply wpS_skip | (co_apply wpS_cond; (focus (exact rfl)); simp only [if_true, if_false, reduceIte, Bool.false_eq_true])))
    (co_apply wpS_ret; refine ⟨_, fun w => ⟨results_tmp2 rfl _ _ _, events_results_tmp2 rfl _ _⟩, unwinds_nil ?_⟩)
    exact ⟨rfl, rfl⟩
  · decide
/-- Ask, of a pool that is closed. -/
theorem w_askShut [Inhabited Base] (hP : X.P = Try.prog) {p : PoolG} {v : Int} (hfit : Fit L) (hce : Sees L ⟨p.b, 2, none⟩ (.chan (some p.ce))) (hp : ∀ n Γ w t, Inv X.ap n Γ w t → Γ i = L → i < n → p ∈ (Γ 0).role.m.ps ∧ (Γ 0).role.m.cl p.b = true) : CallsS X i 11 #[.pointer (some ⟨p.b, 0, none⟩), .int .i64 v] 100 L fun r L' => r = .tuple #[.int .i64 0, .bool false] ∧ L' = L := by
  (obtain ⟨P, ap, SelAt, CI, CW, Q⟩ := X; dsimp only at hP; subst hP)
  (co_apply CallsS.more; co_apply callsS_of_wp Try.func11 rfl; simp only [Try.ntmps11, List.size_toArray, List.length_cons, List.length_nil, Nat.reduceAdd, Nat.reduceSub, Array.replicate, List.replicate, List.append_toArray, List.cons_append, List.nil_append, List.append_eq])
  · (co_apply wpS_seq)
    (repeat (first | (co_apply wpS_region; simp only [List.size_toArray, List.length_cons, List.length_nil, Nat.reduceAdd, Nat.zero_add, List.range, List.range.loop]) | (co_apply opsS_pure; (focus (exact rfl)); (focus (exact rfl)); (focus (intro w; go_simp <;> exact rfl)); (focus (intro w; simp [go_sem, execOp, Act.eval]; done)); try walk_nrm) | (co_apply opsS_nil; try dsimp only) | co_apply wpS_skip | (co_apply wpS_cond; (focus (exact rfl)); simp only [if_true, if_false, reduceIte, Bool.false_eq_true])))
    (co_apply wpS_seq)
    (repeat (first | (co_apply wpS_region; simp only [List.size_toArray, List.length_cons, List.length_nil, Nat.reduceAdd, Nat.zero_add, List.range, List.range.loop]) | (co_apply opsS_pure; (focus (exact rfl)); (focus (exact rfl)); (focus (intro w; go_simp <;> exact rfl)); (focus (intro w; simp [go_sem, execOp, Act.eval]; done)); try walk_nrm) | (co_apply opsS_nil; try dsimp only) | co_apply wpS_skip | (co_apply wpS_cond; (focus (exact rfl)); simp only [if_true, if_false, reduceIte, Bool.false_eq_true])))
    (co_apply wpS_seq)
    (repeat (first | (co_apply wpS_region; simp only [List.size_toArray, List.length_cons, List.length_nil, Nat.reduceAdd, Nat.zero_add, List.range, List.range.loop]) | (co_apply opsS_pure; (focus (exact rfl)); (focus (exact rfl)); (focus (intro w; go_simp <;> exact rfl)); (focus (intro w; simp [go_sem, execOp, Act.eval]; done)); try walk_nrm) | (co_apply opsS_nil; try dsimp only) | co_apply wpS_seq | co_apply wpS_skip | (co_apply wpS_cond; (focus (exact rfl)); simp only [if_true, if_false, reduceIte, Bool.false_eq_true])))
    (co_apply opsS_pure (v := .bool false); (focus (exact rfl)); (focus (exact rfl)); (focus (intro w; go_simp <;> exact rfl)); (focus (intro w; simp [go_sem, execOp, Act.eval, ev_eql_ptr_nil Try.underlying24])); try walk_nrm)
    (repeat (first | (co_apply opsS_nil; try dsimp only) | (co_apply wpS_region; simp only [List.size_toArray, List.length_cons, List.length_nil, Nat.reduceAdd, Nat.zero_add, List.range, List.range.loop]) | co_apply wpS_skip | (co_apply wpS_cond; (focus (exact rfl)); simp only [if_true, if_false, reduceIte, Bool.false_eq_true])))
    co_apply wpS_seq (n₂ := 0)
    (repeat (first | (co_apply wpS_region; simp only [List.size_toArray, List.length_cons, List.length_nil, Nat.reduceAdd, Nat.zero_add, List.range, List.range.loop]) | (co_apply opsS_pure; (focus (exact rfl)); (focus (exact rfl)); (focus (intro w; go_simp <;> exact rfl)); (focus (intro w; simp [go_sem, execOp, Act.eval]; done)); try walk_nrm) | (co_apply opsS_nil; try dsimp only) | co_apply wpS_seq | co_apply wpS_skip | (co_apply wpS_cond; (focus (exact rfl)); simp only [if_true, if_false, reduceIte, Bool.false_eq_true])))
    (co_apply opsS_read (.chan (some p.ce)); (focus (rfl)); (focus (rfl)); (focus (exact (hfit).live)); (focus (exact (hfit).vm)); (focus (intro w hS; have hu := (hce).know w hS; go_simp)); (focus (intro w hS e he; have hu := (hce).know w hS; have hm := mem_listed he; simp [go_sem, execOp, Act.eval, hu] at hm; subst hm; exact (hce).ev _)); try walk_nrm)
    (repeat (first | (co_apply wpS_region; simp only [List.size_toArray, List.length_cons, List.length_nil, Nat.reduceAdd, Nat.zero_add, List.range, List.range.loop]) | (co_apply opsS_pure; (focus (exact rfl)); (focus (exact rfl)); (focus (intro w; go_simp <;> exact rfl)); (focus (intro w; simp [go_sem, execOp, Act.eval]; done)); try walk_nrm) | (co_apply opsS_nil; try dsimp only) | co_apply wpS_seq | co_apply wpS_skip | (co_apply wpS_cond; (focus (exact rfl)); simp only [if_true, if_false, reduceIte, Bool.false_eq_true])))
    co_apply opsS_peek (p := p) (z := .agg #[]) true
    · rfl
    · rfl
    · exact hfit.live.nl
    · intro w
      go_simp
      rfl
    · intro w
      simp [listed, go_sem, execOp, Act.eval, seen_none]
    · exact hp
    rw [if_pos rfl, res_peek1]
    walk_nrm
    (repeat (first | (co_apply wpS_region; simp only [List.size_toArray, List.length_cons, List.length_nil, Nat.reduceAdd, Nat.zero_add, List.range, List.range.loop]) | (co_apply opsS_pure; (focus (exact rfl)); (focus (exact rfl)); (focus (intro w; go_simp <;> exact rfl)); (focus (intro w; simp [go_sem, execOp, Act.eval]; done)); try walk_nrm) | (co_apply opsS_nil; try dsimp only) | co_apply wpS_seq | co_apply wpS_skip | (co_apply wpS_cond; (focus (exact rfl)); simp only [if_true, if_false, reduceIte, Bool.false_eq_true])))
    co_apply wpS_block
    (repeat (first | (co_apply wpS_region; simp only [List.size_toArray, List.length_cons, List.length_nil, Nat.reduceAdd, Nat.zero_add, List.range, List.range.loop]) | (co_apply opsS_pure; (focus (exact rfl)); (focus (exact rfl)); (focus (intro w; go_simp <;> exact rfl)); (focus (intro w; simp [go_sem, execOp, Act.eval]; done)); try walk_nrm) | (co_apply opsS_nil; try dsimp only) | co_apply wpS_seq | co_apply wpS_skip | (co_apply wpS_cond; (focus (exact rfl)); simp only [if_true, if_false, reduceIte, Bool.false_eq_true])))
    (co_apply wpS_ret; refine ⟨_, fun w => ⟨results_tmp2 rfl _ _ _, events_results_tmp2 rfl _ _⟩, unwinds_nil ?_⟩)
    exact ⟨rfl, rfl⟩
  · decide
/-- Ask, of a pool that answers. -/
theorem w_askOpen [Inhabited Base] (hP : X.P = Try.prog) (hCW : X.CW = 10000) {p : PoolG} {v : Int} (hfit : Fit L) (hq : L.q = none) (hci : Sees L ⟨p.b, 1, none⟩ (.chan (some p.ci))) (hce : Sees L ⟨p.b, 2, none⟩ (.chan (some p.ce))) (hp : ∀ n Γ w t, Inv X.ap n Γ w t → Γ i = L → i < n → p ∈ (Γ 0).role.m.ps ∧ (Γ 0).role.m.cl p.b = false ∧ (Γ 0).role.m.rd p.b = true) 
    (hwho : i = 0 ∨ ∃ A zs cur f, L.role = .asker A zs cur f) (hmay : MayAsk L p) : CallsS X i 11 #[.pointer (some ⟨p.b, 0, none⟩), .int .i64 v] 10400 L fun r L' => r = .tuple #[.int .i64 (X.ap p.fn v), .bool true] ∧ Grows L L' ∧ L'.role = sentR p L.role ∧ L'.q = none := by
  (obtain ⟨P, ap, SelAt, CI, CW, Q⟩ := X; dsimp only at hP; subst hP)
  dsimp only at hCW
  subst hCW
  (co_apply CallsS.more; co_apply callsS_of_wp Try.func11 rfl; simp only [Try.ntmps11, List.size_toArray, List.length_cons, List.length_nil, Nat.reduceAdd, Nat.reduceSub, Array.replicate, List.replicate, List.append_toArray, List.cons_append, List.nil_append, List.append_eq])
  · (co_apply wpS_seq)
    (repeat (first | (co_apply wpS_region; simp only [List.size_toArray, List.length_cons, List.length_nil, Nat.reduceAdd, Nat.zero_add, List.range, List.range.loop]) | (co_apply opsS_pure; (focus (exact rfl)); (focus (exact rfl)); (focus (intro w; go_simp <;> exact rfl)); (focus (intro w; simp [go_sem, execOp, Act.eval]; done)); try walk_nrm) | (co_apply opsS_nil; try dsimp only) | co_apply wpS_skip | (co_apply wpS_cond; (focus (exact rfl)); simp only [if_true, if_false, reduceIte, Bool.false_eq_true])))
    (co_apply wpS_seq)
    (repeat (first | (co_apply wpS_region; simp only [List.size_toArray, List.length_cons, List.length_nil, Nat.reduceAdd, Nat.zero_add, List.range, List.range.loop]) | (co_apply opsS_pure; (focus (exact rfl)); (focus (exact rfl)); (focus (intro w; go_simp <;> exact rfl)); (focus (intro w; simp [go_sem, execOp, Act.eval]; done)); try walk_nrm) | (co_apply opsS_nil; try dsimp only) | co_apply wpS_skip | (co_apply wpS_cond; (focus (exact rfl)); simp only [if_true, if_false, reduceIte, Bool.false_eq_true])))
    (co_apply wpS_seq)
    (repeat (first | (co_apply wpS_region; simp only [List.size_toArray, List.length_cons, List.length_nil, Nat.reduceAdd, Nat.zero_add, List.range, List.range.loop]) | (co_apply opsS_pure; (focus (exact rfl)); (focus (exact rfl)); (focus (intro w; go_simp <;> exact rfl)); (focus (intro w; simp [go_sem, execOp, Act.eval]; done)); try walk_nrm) | (co_apply opsS_nil; try dsimp only) | co_apply wpS_seq | co_apply wpS_skip | (co_apply wpS_cond; (focus (exact rfl)); simp only [if_true, if_false, reduceIte, Bool.false_eq_true])))
    (co_apply opsS_pure (v := .bool false); (focus (exact rfl)); (focus (exact rfl)); (focus (intro w; go_simp <;> exact rfl)); (focus (intro w; simp [go_sem, execOp, Act.eval, ev_eql_ptr_nil Try.underlying24])); try walk_nrm)
    (repeat (first | (co_apply wpS_region; simp only [List.size_toArray, List.length_cons, List.length_nil, Nat.reduceAdd, Nat.zero_add, List.range, List.range.loop]) | (co_apply opsS_pure; (focus (exact rfl)); (focus (exact rfl)); (focus (intro w; go_simp <;> exact rfl)); (focus (intro w; simp [go_sem, execOp, Act.eval]; done)); try walk_nrm) | (co_apply opsS_nil; try dsimp only) | co_apply wpS_seq | co_apply wpS_skip | (co_apply wpS_cond; (focus (exact rfl)); simp only [if_true, if_false, reduceIte, Bool.false_eq_true])))
    (co_apply opsS_read (.chan (some p.ce)); (focus (rfl)); (focus (rfl)); (focus (exact (hfit).live)); (focus (exact (hfit).vm)); (focus (intro w hS; have hu := (hce).know w hS; go_simp)); (focus (intro w hS e he; have hu := (hce).know w hS; have hm := mem_listed he; simp [go_sem, execOp, Act.eval, hu] at hm; subst hm; exact (hce).ev _)); try walk_nrm)
    (repeat (first | (co_apply wpS_region; simp only [List.size_toArray, List.length_cons, List.length_nil, Nat.reduceAdd, Nat.zero_add, List.range, List.range.loop]) | (co_apply opsS_pure; (focus (exact rfl)); (focus (exact rfl)); (focus (intro w; go_simp <;> exact rfl)); (focus (intro w; simp [go_sem, execOp, Act.eval]; done)); try walk_nrm) | (co_apply opsS_nil; try dsimp only) | co_apply wpS_seq | co_apply wpS_skip | (co_apply wpS_cond; (focus (exact rfl)); simp only [if_true, if_false, reduceIte, Bool.false_eq_true])))
    co_apply opsS_peek (p := p) (z := .agg #[]) false
    · rfl
    · rfl
    · exact hfit.live.nl
    · intro w
      go_simp
      rfl
    · intro w
      simp [listed, go_sem, execOp, Act.eval, seen_none]
    · intro n Γ w t hI hL hi
      exact ⟨(hp n Γ w t hI hL hi).1, (hp n Γ w t hI hL hi).2.1⟩
    rw [if_neg (by simp), res_peek0]
    walk_nrm
    (repeat (first | (co_apply wpS_region; simp only [List.size_toArray, List.length_cons, List.length_nil, Nat.reduceAdd, Nat.zero_add, List.range, List.range.loop]) | (co_apply opsS_pure; (focus (exact rfl)); (focus (exact rfl)); (focus (intro w; go_simp <;> exact rfl)); (focus (intro w; simp [go_sem, execOp, Act.eval]; done)); try walk_nrm) | (co_apply opsS_nil; try dsimp only) | co_apply wpS_seq | co_apply wpS_skip | (co_apply wpS_cond; (focus (exact rfl)); simp only [if_true, if_false, reduceIte, Bool.false_eq_true])))
    co_apply wpS_block
    (repeat (first | (co_apply wpS_region; simp only [List.size_toArray, List.length_cons, List.length_nil, Nat.reduceAdd, Nat.zero_add, List.range, List.range.loop]) | (co_apply opsS_pure; (focus (exact rfl)); (focus (exact rfl)); (focus (intro w; go_simp <;> exact rfl)); (focus (intro w; simp [go_sem, execOp, Act.eval]; done)); try walk_nrm) | (co_apply opsS_nil; try dsimp only) | co_apply wpS_seq | co_apply wpS_skip | (co_apply wpS_cond; (focus (exact rfl)); simp only [if_true, if_false, reduceIte, Bool.false_eq_true])))
    co_apply opsS_mk1 (p := p) v
    · rfl
    · rfl
    · exact hfit.live
    · exact hq
    · exact hwho
    · exact hp
    · intro w
      have hm := (mkch (n := 1) Try.underlying61 (by kernel_rfl) (by decide) w).1
      simp [go_sem, execOp, Act.eval]
      erw [hm]
      rfl
    · intro w
      have hm := (mkch (n := 1) Try.underlying61 (by kernel_rfl) (by decide) w).2 #[]
      simp [listed, go_sem, execOp, Act.eval]
      erw [hm]
      rw [seen_none]
    intro c
    walk_nrm
    have hf0 : Fit (L.turn L.role (some ⟨p, c, v, false⟩)) := ⟨⟨hfit.live.1, hfit.live.2⟩, hfit.vm⟩
    (repeat (first | (co_apply wpS_region; simp only [List.size_toArray, List.length_cons, List.length_nil, Nat.reduceAdd, Nat.zero_add, List.range, List.range.loop]) | (co_apply opsS_pure; (focus (exact rfl)); (focus (exact rfl)); (focus (intro w; go_simp <;> exact rfl)); (focus (intro w; simp [go_sem, execOp, Act.eval]; done)); try walk_nrm) | (co_apply opsS_nil; try dsimp only) | co_apply wpS_seq | co_apply wpS_skip | (co_apply wpS_cond; (focus (exact rfl)); simp only [if_true, if_false, reduceIte, Bool.false_eq_true])))
    (co_apply opsS_pure (v := .agg #[.int .i64 v, .chan (some c)]); (focus (exact rfl)); (focus (exact rfl)); (focus (intro w; have hb := run_build (P := Try.prog) w 63 #[(0, .int .i64 v), (1, .chan (some c))] #[.int .i64 v, .chan (some c)] (by kernel_rfl); simp [go_sem, execOp, Act.eval, hb])); (focus (intro w; simp [go_sem, execOp, Act.eval, ev_build])); try walk_nrm)
    (co_apply opsS_add (cs := #[.int .i64 0, .chan none]) (r := fun bk => .pointer (some ⟨bk, 0, none⟩)) (ty := 63) (fun _ => False); (focus (rfl)); (focus (rfl)); (focus (exact (hf0).live)); (focus (exact (hf0).vm)); (focus (intro w hS; go_simp)); (focus (intro w hS; simp [listed, go_sem, execOp, Act.eval, seen_none])))
    intro bk hbk
    walk_nrm
    have gr := (Grows.turn L L.role (some ⟨p, c, v, false⟩)).trans (Grows.adds (cs := #[.int .i64 0, .chan none]) hbk)
    have n0 : Has ((L.turn L.role (some ⟨p, c, v, false⟩)).adds bk #[.int .i64 0, .chan none] fun _ => False) ⟨bk, 0, none⟩ (.int .i64 0) := has_new (k := 0) rfl (fun x => x) fun a ha => hbk a (.inl (hf0.vm a ha))
    have n1 : Has ((L.turn L.role (some ⟨p, c, v, false⟩)).adds bk #[.int .i64 0, .chan none] fun _ => False) ⟨bk, 1, none⟩ (.chan none) := has_new (k := 1) rfl (fun x => x) fun a ha => hbk a (.inl (hf0.vm a ha))
    have hf1 : Fit ((L.turn L.role (some ⟨p, c, v, false⟩)).adds bk #[.int .i64 0, .chan none] fun _ => False) := ⟨hf0.live, gr.vm hfit.vm⟩
    have hne : (⟨bk, 1, none⟩ : Addr) ≠ ⟨bk, 0, none⟩ := fun e => by cases e
    have far : ∀ j, ¬ (L.M ⟨bk, j, none⟩ ∨ L.R ⟨bk, j, none⟩) := fun j x => Nat.lt_irrefl _ (hbk ⟨bk, j, none⟩ x)
    co_apply opsS_put2 (.int .i64 v) (.chan (some c)) n0 n1 hne
    · rfl
    · rfl
    · exact hf1.live
    · exact hf1.vm
    · intro w c0 z0 c1 z1
      go_simp
    · intro w c0 z0 c1 z1 e he
      have hm := mem_listed he
      simp [go_sem, execOp, Act.eval, c0, z0, c1, z1] at hm
      rcases hm with rfl | rfl
      · exact n0.ev _ _
      · exact n1.ev _ _
    walk_nrm
    have gr := (gr.sets (v := .int .i64 v) (far 0)).sets (v := .chan (some c)) (far 1)
    have m0 := (n0.sets (.int .i64 v)).other (v := .chan (some c)) hne.symm
    have m1 := (n1.other (v := .int .i64 v) hne).sets (.chan (some c))
    have gro : ((((L.turn L.role (some ⟨p, c, v, false⟩)).adds bk #[.int .i64 0, .chan none] fun _ => False).sets ⟨bk, 0, none⟩ (.int .i64 v)).sets ⟨bk, 1, none⟩ (.chan (some c))).role = L.role := rfl
    have gq : ((((L.turn L.role (some ⟨p, c, v, false⟩)).adds bk #[.int .i64 0, .chan none] fun _ => False).sets ⟨bk, 0, none⟩ (.int .i64 v)).sets ⟨bk, 1, none⟩ (.chan (some c))).q = some ⟨p, c, v, false⟩ := rfl
    generalize ((((L.turn L.role (some ⟨p, c, v, false⟩)).adds bk #[.int .i64 0, .chan none] fun _ => False).sets ⟨bk, 0, none⟩ (.int .i64 v)).sets ⟨bk, 1, none⟩ (.chan (some c))) = L1 at gr m0 m1 gro gq ⊢
    clear n0 n1 hf1 hf0 hbk
    have hf1 : Fit L1 := ⟨⟨by rw [gr.h]; exact hfit.live.1, by rw [gro]; exact hfit.live.2⟩, gr.vm hfit.vm⟩
    (repeat (first | (co_apply wpS_region; simp only [List.size_toArray, List.length_cons, List.length_nil, Nat.reduceAdd, Nat.zero_add, List.range, List.range.loop]) | (co_apply opsS_pure; (focus (exact rfl)); (focus (exact rfl)); (focus (intro w; go_simp <;> exact rfl)); (focus (intro w; simp [go_sem, execOp, Act.eval]; done)); try walk_nrm) | (co_apply opsS_nil; try dsimp only) | co_apply wpS_seq | co_apply wpS_skip | (co_apply wpS_cond; (focus (exact rfl)); simp only [if_true, if_false, reduceIte, Bool.false_eq_true])))
    (co_apply opsS_read (.chan (some p.ci)); (focus (rfl)); (focus (rfl)); (focus (exact (hf1).live)); (focus (exact (hf1).vm)); (focus (intro w hS; have hu := ((gr.sees hci)).know w hS; go_simp)); (focus (intro w hS e he; have hu := ((gr.sees hci)).know w hS; have hm := mem_listed he; simp [go_sem, execOp, Act.eval, hu] at hm; subst hm; exact ((gr.sees hci)).ev _)); try walk_nrm)
    (repeat (first | (co_apply wpS_region; simp only [List.size_toArray, List.length_cons, List.length_nil, Nat.reduceAdd, Nat.zero_add, List.range, List.range.loop]) | (co_apply opsS_pure; (focus (exact rfl)); (focus (exact rfl)); (focus (intro w; go_simp <;> exact rfl)); (focus (intro w; simp [go_sem, execOp, Act.eval]; done)); try walk_nrm) | (co_apply opsS_nil; try dsimp only) | co_apply wpS_seq | co_apply wpS_skip | (co_apply wpS_cond; (focus (exact rfl)); simp only [if_true, if_false, reduceIte, Bool.false_eq_true])))
    co_apply opsS_read (qval v c)
    · rfl
    · rfl
    · exact hf1.live
    · exact hf1.vm
    · intro w hS
      have c0 := m0.know w hS
      have c1 := m1.know w hS
      unfold qval
      go_simp
    · intro w hS e he
      have c0 := m0.know w hS
      have c1 := m1.know w hS
      have hm := mem_listed he
      simp [go_sem, execOp, Act.eval, c0, c1] at hm
      rcases hm with rfl | rfl
      · exact m0.ev _ _
      · exact m1.ev _ _
    walk_nrm
    (repeat (first | (co_apply wpS_region; simp only [List.size_toArray, List.length_cons, List.length_nil, Nat.reduceAdd, Nat.zero_add, List.range, List.range.loop]) | (co_apply opsS_pure; (focus (exact rfl)); (focus (exact rfl)); (focus (intro w; go_simp <;> exact rfl)); (focus (intro w; simp [go_sem, execOp, Act.eval]; done)); try walk_nrm) | (co_apply opsS_nil; try dsimp only) | co_apply wpS_seq | co_apply wpS_skip | (co_apply wpS_cond; (focus (exact rfl)); simp only [if_true, if_false, reduceIte, Bool.false_eq_true])))
    (co_apply opsS_read (.chan (some p.ce)); (focus (rfl)); (focus (rfl)); (focus (exact (hf1).live)); (focus (exact (hf1).vm)); (focus (intro w hS; have hu := ((gr.sees hce)).know w hS; go_simp)); (focus (intro w hS e he; have hu := ((gr.sees hce)).know w hS; have hm := mem_listed he; simp [go_sem, execOp, Act.eval, hu] at hm; subst hm; exact ((gr.sees hce)).ev _)); try walk_nrm)
    (repeat (first | (co_apply wpS_region; simp only [List.size_toArray, List.length_cons, List.length_nil, Nat.reduceAdd, Nat.zero_add, List.range, List.range.loop]) | (co_apply opsS_pure; (focus (exact rfl)); (focus (exact rfl)); (focus (intro w; go_simp <;> exact rfl)); (focus (intro w; simp [go_sem, execOp, Act.eval]; done)); try walk_nrm) | (co_apply opsS_nil; try dsimp only) | co_apply wpS_seq | co_apply wpS_skip | (co_apply wpS_cond; (focus (exact rfl)); simp only [if_true, if_false, reduceIte, Bool.false_eq_true])))
    co_apply opsS_ask (p := p) (cb := c) (v := v) (z := .agg #[]) (zq := .agg #[.int .i64 0, .chan none])
    · rfl
    · rfl
    · exact hf1.live.nl
    · exact (sent_live hf1.live).nl
    · intro w
      go_simp
      exact ⟨rfl, rfl⟩
    · intro w
      simp [listed, go_sem, execOp, Act.eval, seen_none]
    · exact gq
    · rcases hmay with ⟨m, e, x⟩ | ⟨A, zs, z, f, e, x⟩
      · exact .inl ⟨m, gro.trans e, x⟩
      · exact .inr ⟨A, zs, z, f, gro.trans e, x⟩
    rw [res_ask]
    walk_nrm
    (repeat (first | (co_apply wpS_region; simp only [List.size_toArray, List.length_cons, List.length_nil, Nat.reduceAdd, Nat.zero_add, List.range, List.range.loop]) | (co_apply opsS_pure; (focus (exact rfl)); (focus (exact rfl)); (focus (intro w; go_simp <;> exact rfl)); (focus (intro w; simp [go_sem, execOp, Act.eval]; done)); try walk_nrm) | (co_apply opsS_nil; try dsimp only) | co_apply wpS_seq | co_apply wpS_skip | (co_apply wpS_cond; (focus (exact rfl)); simp only [if_true, if_false, reduceIte, Bool.false_eq_true])))
    co_apply wpS_block
    (repeat (first | (co_apply wpS_region; simp only [List.size_toArray, List.length_cons, List.length_nil, Nat.reduceAdd, Nat.zero_add, List.range, List.range.loop]) | (co_apply opsS_pure; (focus (exact rfl)); (focus (exact rfl)); (focus (intro w; go_simp <;> exact rfl)); (focus (intro w; simp [go_sem, execOp, Act.eval]; done)); try walk_nrm) | (co_apply opsS_nil; try dsimp only) | co_apply wpS_seq | co_apply wpS_skip | (co_apply wpS_cond; (focus (exact rfl)); simp only [if_true, if_false, reduceIte, Bool.false_eq_true])))
    have hf2 : Fit (sentL p L1) := ⟨sent_live hf1.live, hf1.vm⟩
    have gr2 : Grows L (sentL p L1) := gr.trans (Grows.turn _ _ _)
    have k1 : Has (sentL p L1) ⟨bk, 1, none⟩ (.chan (some c)) := m1.turn _ _
    have gq2 : (sentL p L1).q = some ⟨p, c, v, true⟩ := by unfold sentL Lo.turn; rw [gq]; rfl
    have gro2 : (sentL p L1).role = sentR p L.role := by rw [← gro]; rfl
    generalize sentL p L1 = L2 at hf2 gr2 k1 gq2 gro2 ⊢
    (co_apply opsS_read (.chan (some c)); (focus (rfl)); (focus (rfl)); (focus (exact (hf2).live)); (focus (exact (hf2).vm)); (focus (intro w hS; have hu := (k1.sees).know w hS; go_simp)); (focus (intro w hS e he; have hu := (k1.sees).know w hS; have hm := mem_listed he; simp [go_sem, execOp, Act.eval, hu] at hm; subst hm; exact (k1.sees).ev _)); try walk_nrm)
    (repeat (first | (co_apply wpS_region; simp only [List.size_toArray, List.length_cons, List.length_nil, Nat.reduceAdd, Nat.zero_add, List.range, List.range.loop]) | (co_apply opsS_pure; (focus (exact rfl)); (focus (exact rfl)); (focus (intro w; go_simp <;> exact rfl)); (focus (intro w; simp [go_sem, execOp, Act.eval]; done)); try walk_nrm) | (co_apply opsS_nil; try dsimp only) | co_apply wpS_seq | co_apply wpS_skip | (co_apply wpS_cond; (focus (exact rfl)); simp only [if_true, if_false, reduceIte, Bool.false_eq_true])))
    co_apply opsS_fetch (p := p) (cb := c) (v := v) (z := .int .i64 0)
    · rfl
    · rfl
    · exact hf2.live.nl
    · exact fun ⟨⟨wa, zs, f, e⟩, _⟩ => hf2.live.2 _ _ _ _ e
    · intro w
      go_simp
      rfl
    · intro w
      simp [listed, go_sem, execOp, Act.eval, seen_none]
    · exact gq2
    walk_nrm
    (repeat (first | (co_apply wpS_region; simp only [List.size_toArray, List.length_cons, List.length_nil, Nat.reduceAdd, Nat.zero_add, List.range, List.range.loop]) | (co_apply opsS_pure; (focus (exact rfl)); (focus (exact rfl)); (focus (intro w; go_simp <;> exact rfl)); (focus (intro w; simp [go_sem, execOp, Act.eval]; done)); try walk_nrm) | (co_apply opsS_nil; try dsimp only) | co_apply wpS_seq | co_apply wpS_skip | (co_apply wpS_cond; (focus (exact rfl)); simp only [if_true, if_false, reduceIte, Bool.false_eq_true])))
    (co_apply wpS_ret; refine ⟨_, fun w => ⟨results_tmp2 rfl _ _ _, events_results_tmp2 rfl _ _⟩, unwinds_nil ?_⟩)
    exact ⟨rfl, gr2.trans (Grows.turn _ _ _), gro2, rfl⟩
  · dsimp only
    decide
end Go.Proofs.Ytaceedenkmccdaa

/- Pools: the document's examples, walked. -/
import Derived.Test.YtaceedenkmccdaaSj
import Derived.Great.BuildSlice
namespace Go.Proofs.Ytaceedenkmccdaa
open Go Go.Conc Go.ConcN
set_option linter.unusedSimpArgs false
set_option linter.unusedVariables false
variable {X : Cx} {i : Nat} {L L' : Lo} {Post : Value → Lo → Prop}
set_option maxRecDepth 100000
set_option maxHeartbeats 8000000
/-- Asked by main. -/
structure AskedAs (m m' : MainR) (p : PoolG) : Prop where
  ps : m'.ps = m.ps
  cl : m'.cl = m.cl
  rd : m'.rd = m.rd
  fin : m'.fin = m.fin
  asks : m'.asks = fun b => if b = p.b then m.asks b + 1 else m.asks b
theorem PoolAt.ext {m m' : MainR} {p : PoolG} (h : PoolAt L m p) (hps : m'.ps = m.ps) (hcl : m'.cl = m.cl) (hrd : m'.rd = m.rd) (g : Ext L L') : PoolAt L' m' p := ⟨by rw [hps]; exact h.mem, by rw [hrd]; exact h.rd, g.sees h.ci, g.sees h.ce, by rw [hcl]; exact g.has h.once, g.has h.mu⟩
theorem w_askM [Inhabited Base] (hP : X.P = Try.prog) (hCW : X.CW = 10000) {m : MainR} {p : PoolG} {v : Int} (hb : Boss L m) (hp : PoolAt L m p) (hcl : m.cl p.b = false) (hbd : m.asks p.b + 1 ≤ 1000000000000000) : CallsS X 0 11 #[.pointer (some ⟨p.b, 0, none⟩), .int .i64 v] 10400 L fun r L' => r = .tuple #[.int .i64 (X.ap p.fn v), .bool true] ∧ ∃ m', Boss L' m' ∧ Ext L L' ∧ AskedAs m m' p :=
  (w_askOpen hP hCW hb.fit hb.q hp.ci hp.ce (fun n Γ w t _ hL _ => by rw [hL, hb.role]; exact ⟨hp.mem, hcl, hp.rd⟩) (.inl rfl) (.inl ⟨m, hb.role, hbd⟩)).mono fun r L' ⟨h1, h2, h3, h4⟩ =>
    ⟨h1, { m with asks := fun b => if b = p.b then m.asks b + 1 else m.asks b }, ⟨by rw [h3, hb.role]; rfl, h4, h2.h.trans hb.h, h2.d.trans hb.d, h2.vm hb.vm, hb.reg, hb.pnd, hb.al, hb.dn, hb.nw, hb.clb⟩, h2.ext, ⟨rfl, rfl, rfl, rfl, rfl⟩⟩
theorem w_askMshut [Inhabited Base] (hP : X.P = Try.prog) {m : MainR} {p : PoolG} {v : Int} (hb : Boss L m) (hp : PoolAt L m p) (hcl : m.cl p.b = true) : CallsS X 0 11 #[.pointer (some ⟨p.b, 0, none⟩), .int .i64 v] 100 L fun r L' => r = .tuple #[.int .i64 0, .bool false] ∧ L' = L :=
  w_askShut hP hb.fit hp.ce fun n Γ w t _ hL _ => by rw [hL, hb.role]; exact ⟨hp.mem, hcl⟩
theorem ev_buildSlice [Inhabited Base] {P : Program} (t : TypeId) (n : Nat) (parts : Array (Nat × Value)) (w : World) (es : Array Event) : (Instr.buildSlice t n parts).events P w es = es := by
  unfold Instr.buildSlice
  refine mute_bind (events_underlying P · · t) (fun d w es => ?_) w es
  cases d <;> try (simp; done)
  rename_i el
  refine mute_bind (events_sizeOf P · · _) (fun s w es => ?_) w es
  dsimp only
  split
  · simp
  · have tail : ∀ (z : Array Value) w es, ((match Instr.fill (fun i => some (i * s, s)) ((Array.range (n * s)).map (z[· % z.size]!)) parts.toList with
        | some cells => do pure (.slice (some (← newRow el cells)) n n)
        | x => stuck "buildSlice: a part of the wrong size") : Sem Value).events P w es = es := fun z w es => by
      split
      · simp [newRow]
      · simp
    split
    · refine mute_bind (fun w es => by simp) (fun z w es => ?_) w es
      exact tail z w es
    · refine mute_bind (events_zeroValue P · · _) (fun z w es => ?_) w es
      refine mute_bind (fun w es => by simp) (fun z w es => ?_) w es
      exact tail z w es
theorem mkbuilt {P : Program} {t e : TypeId} {n : Nat} {parts : Array (Nat × Value)} {cells : Array Value} {z : Value} (ht : P.underlying t = some (.slice e)) (hi : (P.info? e).map (fun i => (i.zero, i.size)) = some (some z, 1)) (hn : 0 < n ∧ n ≤ 1000) (h : Instr.fill (fun i => some (i * 1, 1)) ((Array.range (n * 1)).map (z.cells[· % z.cells.size]!)) parts.toList = some cells) (w : World) :
    (Instr.buildSlice t n parts).run P w = .ok (.slice (some ⟨w.heap.size, 0, none⟩) n n) (w.alloc (.cells cells e)) := by
  obtain ⟨i, hi, hi2⟩ := Option.map_eq_some_iff.1 hi
  simp only [Prod.mk.injEq] at hi2
  obtain ⟨z1, z3⟩ := hi2
  exact run_buildSlice w t e n parts cells i z ht hi z1 (by rw [z3]; omega) (by rw [z3]; omega) (by rw [z3]; exact h)
/-- The pool, behind All. -/
theorem AllAs.pool [Inhabited Base] {ap : Nat → Int → Int} {m m' : MainR} {A : AllG} {so : Option Addr} {p : PoolG} (h : AllAs ap L m A so L' m') (hAp : A.p = some p) (hp : PoolAt L m p) (hne : ∀ sb z, so = some sb → z < A.items.length → p.b ≠ sb.block) : PoolAt L' m' p := by
  have k5 : ∀ q, A.p = some q → (⟨p.b, 5, none⟩ : Addr) ≠ ⟨q.b, 1, none⟩ ∧ (⟨p.b, 5, none⟩ : Addr) ≠ ⟨q.b, 2, none⟩ := fun q hq => ⟨fun e => absurd (congrArg Addr.off e) (show ¬ (5 : Nat) = 1 by decide), fun e => absurd (congrArg Addr.off e) (show ¬ (5 : Nat) = 2 by decide)⟩
  have k6 : ∀ q, A.p = some q → (⟨p.b, 6, none⟩ : Addr) ≠ ⟨q.b, 1, none⟩ ∧ (⟨p.b, 6, none⟩ : Addr) ≠ ⟨q.b, 2, none⟩ := fun q hq => ⟨fun e => absurd (congrArg Addr.off e) (show ¬ (6 : Nat) = 1 by decide), fun e => absurd (congrArg Addr.off e) (show ¬ (6 : Nat) = 2 by decide)⟩
  refine ⟨by rw [h.ps]; exact hp.mem, by rw [h.rd]; exact hp.rd, h.sees hp.ci, h.sees hp.ce, ?_, h.has hp.mu (fun sb z hsb hz => ne_add (hne sb z hsb hz)) k6⟩
  rw [h.cl]
  exact h.has hp.once (fun sb z hsb hz => ne_add (hne sb z hsb hz)) k5
/-- All that main has made is done with. -/
def AllFin (m : MainR) : Prop := ∀ e ∈ m.ps, m.fin e.b = true
theorem w_fixed [Inhabited Base] (hP : X.P = Try.prog) (hCW : X.CW = 10000) (hap : ∀ v, X.ap 9 v = IntKind.i64.wrap (v + v)) (hwk : ∀ i p L, WS p i L → L.role = .worker p none → X.safe i 2300 (born X.P { target := .fn (.func 16) #[], args := #[.pointer (some ⟨p.b, 0, none⟩)] }) L) :
    ∃ N, ∀ {L : Lo} {m : MainR}, Boss L m → AllFin m → CallsS X 0 7 #[] N L fun r L' => r = .bool true ∧ ∃ m', Boss L' m' ∧ Ext L L' ∧ AllFin m' := by
  have hw := fun {m : MainR} {L : Lo} (hb : Boss L m) => w_new (X := X) (L := L) (m := m) (fn := 9) (k := 3) hP hwk hb (.inl rfl)
  (obtain ⟨P, ap, SelAt, CI, CW, Q⟩ := X; dsimp only at hP; subst hP)
  dsimp only at hCW
  subst hCW
  apply Exists.intro
  intro L m hb hfin
  co_apply callsS_of_wp Try.func7 rfl
  simp only [Try.ntmps7, List.size_toArray, List.length_cons, List.length_nil, Nat.reduceAdd, Nat.reduceSub, Array.replicate, List.replicate, List.append_toArray, List.cons_append, List.nil_append, List.append_eq]
  (repeat (first | (co_apply wpS_region; simp only [List.size_toArray, List.length_cons, List.length_nil, Nat.reduceAdd, Nat.zero_add, List.range, List.range.loop]) | (co_apply opsS_pure; (focus (exact rfl)); (focus (exact rfl)); (focus (intro w; go_simp <;> exact rfl)); (focus (intro w; simp [go_sem, execOp, Act.eval]; done)); try walk_nrm) | (co_apply opsS_nil; try dsimp only) | co_apply wpS_seq | co_apply wpS_skip | (co_apply wpS_cond; (focus (exact rfl)); simp only [if_true, if_false, reduceIte, Bool.false_eq_true])))
  (co_apply opsS_call; (focus (exact rfl)); (focus (exact rfl)); (focus (exact rfl)); (focus (exact Try.func8)); (focus (rfl)); (focus (rfl)); try simp only [List.map_toArray, List.map_cons, List.map_nil])
  · exact hw hb
  rintro _ L1 ⟨p, m1, rfl, hpf, hN⟩
  walk_nrm
  (repeat (first | (co_apply wpS_region; simp only [List.size_toArray, List.length_cons, List.length_nil, Nat.reduceAdd, Nat.zero_add, List.range, List.range.loop]) | (co_apply opsS_pure; (focus (exact rfl)); (focus (exact rfl)); (focus (intro w; go_simp <;> exact rfl)); (focus (intro w; simp [go_sem, execOp, Act.eval]; done)); try walk_nrm) | (co_apply opsS_nil; try dsimp only) | co_apply wpS_seq | co_apply wpS_skip | (co_apply wpS_cond; (focus (exact rfl)); simp only [if_true, if_false, reduceIte, Bool.false_eq_true])))
  have hp1 := hN.pool
  obtain ⟨j, hpe⟩ := hN.pe
  have far1 := hN.far
  have x1 := hN.ext
  have b1 := hN.boss
  clear hN
  (co_apply opsS_call; (focus (exact rfl)); (focus (exact rfl)); (focus (exact rfl)); (focus (exact Try.func11)); (focus (rfl)); (focus (rfl)); try simp only [List.map_toArray, List.map_cons, List.map_nil])
  · exact w_askM rfl rfl b1 hp1 hpe.cl (by rw [hpe.asks]; omega)
  rintro _ L2 ⟨rfl, m2, b2, x2, q2⟩
  have e8 : ap p.fn 4 = 8 := by rw [hpf]; exact (hap 4).trans (by decide)
  have e8 : ({ P := Try.prog, ap := ap, SelAt := SelAt, CI := CI, CW := 10000, Q := Q } : Cx).ap p.fn 4 = 8 := e8
  rw [e8]
  clear e8
  have hp2 := hp1.ext q2.ps q2.cl q2.rd x2
  walk_nrm
  (repeat (first | (co_apply wpS_region; simp only [List.size_toArray, List.length_cons, List.length_nil, Nat.reduceAdd, Nat.zero_add, List.range, List.range.loop]) | (co_apply opsS_pure; (focus (exact rfl)); (focus (exact rfl)); (focus (intro w; go_simp <;> exact rfl)); (focus (intro w; simp [go_sem, execOp, Act.eval]; done)); try walk_nrm) | (co_apply opsS_nil; try dsimp only) | co_apply wpS_seq | co_apply wpS_skip | (co_apply wpS_cond; (focus (exact rfl)); simp only [if_true, if_false, reduceIte, Bool.false_eq_true])))
  have hbs := fun w => mkbuilt (P := Try.prog) (t := 22) (e := 2) (n := 3) (parts := #[(0, .int .i64 1), (1, .int .i64 2), (2, .int .i64 3)]) (cells := #[.int .i64 1, .int .i64 2, .int .i64 3]) (z := .int .i64 0) Try.underlying22 (by kernel_rfl) (by decide) (by kernel_rfl) w
  co_apply opsS_add (cs := #[.int .i64 1, .int .i64 2, .int .i64 3]) (r := fun bk => .slice (some ⟨bk, 0, none⟩) 3 3) (ty := 2) (fun _ => False)
  · rfl
  · rfl
  · exact b2.fit.live
  · exact b2.vm
  · intro w hS; simp [go_sem, execOp, Act.eval, hbs]
  · intro w hS; simp [listed, go_sem, execOp, Act.eval, ev_buildSlice, seen_none]
  intro bs hbs2
  walk_nrm
  have lt1 : p.b < bs := hbs2 ⟨p.b, 1, none⟩ hp2.ci.acc
  have g3 : Grows L2 (L2.adds bs #[.int .i64 1, .int .i64 2, .int .i64 3] fun _ => False) := Grows.adds hbs2
  have b3 : Boss (L2.adds bs #[.int .i64 1, .int .i64 2, .int .i64 3] fun _ => False) m2 := ⟨b2.role, b2.q, b2.h, b2.d, g3.vm b2.vm, b2.reg, b2.pnd, b2.al, b2.dn, b2.nw, b2.clb⟩
  have n3 : ∀ z, z < 3 → Sees (L2.adds bs #[.int .i64 1, .int .i64 2, .int .i64 3] fun _ => False) ((⟨bs, 0, none⟩ : Addr).add z) (.int .i64 (([1, 2, 3] : List Int).getD z 0)) := fun z hz => by
    match z, hz with
    | 0, _ => exact (has_new (bk := bs) (k := 0) rfl (fun x => x) fun a ha => hbs2 a (.inl (b2.vm a ha))).sees
    | 1, _ => exact (has_new (bk := bs) (k := 1) rfl (fun x => x) fun a ha => hbs2 a (.inl (b2.vm a ha))).sees
    | 2, _ => exact (has_new (bk := bs) (k := 2) rfl (fun x => x) fun a ha => hbs2 a (.inl (b2.vm a ha))).sees
  have hp3 := hp2.ext rfl rfl rfl g3.ext
  have x3 := (x1.trans x2).trans g3.ext
  generalize (L2.adds bs #[.int .i64 1, .int .i64 2, .int .i64 3] fun _ => False) = L3 at b3 n3 hp3 x3 ⊢
  (co_apply opsS_call; (focus (exact rfl)); (focus (exact rfl)); (focus (exact rfl)); (focus (exact Try.func10)); (focus (rfl)); (focus (rfl)); try simp only [List.map_toArray, List.map_cons, List.map_nil])
  · exact w_all (po := some p) (c := false) (items := [1, 2, 3]) (so := some ⟨bs, 0, none⟩) (cap := 3) rfl rfl b3 (fun q hq => by cases hq; exact ⟨hp3, by rw [q2.cl]; exact hpe.cl⟩) (by decide) (fun _ => ⟨_, rfl⟩) (fun sb hsb => by cases hsb; exact n3) (fun q hq _ => by
      cases hq
      rw [q2.asks]
      simp only [if_true, hpe.asks]
      decide)
  rintro _ L4 ⟨A, m4, rfl, hAp, hAc, hAi, hAll⟩
  walk_nrm
  have hap4 : ∀ x, A.val ap x = IntKind.i64.wrap (x + x) := fun x => by
    unfold AllG.val
    rw [hAp, hAc]
    simp only [Bool.false_eq_true, if_false]
    rw [hpf]
    exact hap x
  have a0 : Sees L4 ⟨A.bo, 0, none⟩ (.int .i64 2) := by have := hAll.ans 0 (by rw [hAi]; decide); rw [hap4, hAi] at this; exact this
  have a1 : Sees L4 ⟨A.bo, 1, none⟩ (.int .i64 4) := by have := hAll.ans 1 (by rw [hAi]; decide); rw [hap4, hAi] at this; exact this
  have a2 : Sees L4 ⟨A.bo, 2, none⟩ (.int .i64 6) := by have := hAll.ans 2 (by rw [hAi]; decide); rw [hap4, hAi] at this; exact this
  have b4 := hAll.boss
  have k4 : m4.asks p.b = 4 := by
    rw [hAll.asks]
    simp only [hAp, hAc, Option.map_some, and_self, if_true, hAi]
    rw [q2.asks]
    simp only [if_true, hpe.asks]
    decide
  have hp4 : PoolAt L4 m4 p := by
    refine ⟨by rw [hAll.ps]; exact hp3.mem, by rw [hAll.rd]; exact hp3.rd, hAll.sees hp3.ci, hAll.sees hp3.ce, ?_, ?_⟩
    · rw [hAll.cl]
      exact hAll.has hp3.once (fun sb z hsb _ => ne_add (by cases hsb; show p.b ≠ bs; omega)) fun q hq => by rw [hAp] at hq; cases hq; exact ⟨fun e => (by cases e), fun e => (by cases e)⟩
    · exact hAll.has hp3.mu (fun sb z hsb _ => ne_add (by cases hsb; show p.b ≠ bs; omega)) fun q hq => by rw [hAp] at hq; cases hq; exact ⟨fun e => (by cases e), fun e => (by cases e)⟩
  have c4 : m4.cl p.b = false := by rw [hAll.cl, q2.cl]; exact hpe.cl
  have f4 : m4.fin p.b = false := by rw [hAll.fin, q2.fin]; exact hpe.fin
  have x4 : Ext L L4 := ⟨fun h => hAll.sees (x3.sees h), fun {a v} h => hAll.has (x3.has h) (fun sb z hsb _ => ne_add (by
    cases hsb
    have := far1 a (.inl h.own)
    show a.block ≠ bs
    omega)) fun q hq => by
      rw [hAp] at hq
      cases hq
      have := far1 a (.inl h.own)
      exact ⟨fun e => by rw [e] at this; exact Nat.lt_irrefl _ this, fun e => by rw [e] at this; exact Nat.lt_irrefl _ this⟩⟩
  have s4 : m4.ps = p :: m.ps := by rw [hAll.ps, q2.ps, hpe.ps]
  have o4 : ∀ b, b ≠ p.b → m4.fin b = m.fin b := fun b h => by rw [hAll.fin, q2.fin]; exact hpe.ofin b h
  clear hAll hap4 hbs
  generalize hbo : A.bo = bo at a0 a1 a2 ⊢
  clear hbo hAp hAc hAi
  (repeat (first | (co_apply wpS_region; simp only [List.size_toArray, List.length_cons, List.length_nil, Nat.reduceAdd, Nat.zero_add, List.range, List.range.loop]) | (co_apply opsS_pure; (focus (exact rfl)); (focus (exact rfl)); (focus (intro w; go_simp <;> exact rfl)); (focus (intro w; simp [go_sem, execOp, Act.eval]; done)); try walk_nrm) | (co_apply opsS_nil; try dsimp only) | co_apply wpS_seq | co_apply wpS_skip | (co_apply wpS_cond; (focus (exact rfl)); simp only [if_true, if_false, reduceIte, Bool.false_eq_true])))
  (co_apply opsS_call; (focus (exact rfl)); (focus (exact rfl)); (focus (exact rfl)); (focus (exact Try.func12)); (focus (rfl)); (focus (rfl)); try simp only [List.map_toArray, List.map_cons, List.map_nil])
  · exact w_asked rfl b4 hp4.mem
  rintro _ _ ⟨rfl, rfl⟩
  rw [k4]
  walk_nrm
  (repeat (first | (co_apply wpS_region; simp only [List.size_toArray, List.length_cons, List.length_nil, Nat.reduceAdd, Nat.zero_add, List.range, List.range.loop]) | (co_apply opsS_pure; (focus (exact rfl)); (focus (exact rfl)); (focus (intro w; go_simp <;> exact rfl)); (focus (intro w; simp [go_sem, execOp, Act.eval]; done)); try walk_nrm) | (co_apply opsS_unwanted; (focus (exact rfl)); (focus (exact rfl)); walk_nrm) | (co_apply opsS_nil; try dsimp only) | co_apply wpS_seq | co_apply wpS_skip | (co_apply wpS_cond; (focus (exact rfl)); simp only [if_true, if_false, reduceIte, Bool.false_eq_true])))
  (co_apply opsS_read (.int .i64 2); (focus (rfl)); (focus (rfl)); (focus (exact (b4.fit).live)); (focus (exact (b4.fit).vm)); (focus (intro w hS; have hu := (a0).know w hS; go_simp)); (focus (intro w hS e he; have hu := (a0).know w hS; have hm := mem_listed he; simp [go_sem, execOp, Act.eval, hu] at hm; subst hm; exact (a0).ev _)); try walk_nrm)
  (repeat (first | (co_apply wpS_region; simp only [List.size_toArray, List.length_cons, List.length_nil, Nat.reduceAdd, Nat.zero_add, List.range, List.range.loop]) | (co_apply opsS_pure; (focus (exact rfl)); (focus (exact rfl)); (focus (intro w; go_simp <;> exact rfl)); (focus (intro w; simp [go_sem, execOp, Act.eval]; done)); try walk_nrm) | (co_apply opsS_unwanted; (focus (exact rfl)); (focus (exact rfl)); walk_nrm) | (co_apply opsS_nil; try dsimp only) | co_apply wpS_seq | co_apply wpS_skip | (co_apply wpS_cond; (focus (exact rfl)); simp only [if_true, if_false, reduceIte, Bool.false_eq_true])))
  (co_apply opsS_read (.int .i64 4); (focus (rfl)); (focus (rfl)); (focus (exact (b4.fit).live)); (focus (exact (b4.fit).vm)); (focus (intro w hS; have hu := (a1).know w hS; go_simp)); (focus (intro w hS e he; have hu := (a1).know w hS; have hm := mem_listed he; simp [go_sem, execOp, Act.eval, hu] at hm; subst hm; exact (a1).ev _)); try walk_nrm)
  (repeat (first | (co_apply wpS_region; simp only [List.size_toArray, List.length_cons, List.length_nil, Nat.reduceAdd, Nat.zero_add, List.range, List.range.loop]) | (co_apply opsS_pure; (focus (exact rfl)); (focus (exact rfl)); (focus (intro w; go_simp <;> exact rfl)); (focus (intro w; simp [go_sem, execOp, Act.eval]; done)); try walk_nrm) | (co_apply opsS_unwanted; (focus (exact rfl)); (focus (exact rfl)); walk_nrm) | (co_apply opsS_nil; try dsimp only) | co_apply wpS_seq | co_apply wpS_skip | (co_apply wpS_cond; (focus (exact rfl)); simp only [if_true, if_false, reduceIte, Bool.false_eq_true])))
  (co_apply opsS_read (.int .i64 6); (focus (rfl)); (focus (rfl)); (focus (exact (b4.fit).live)); (focus (exact (b4.fit).vm)); (focus (intro w hS; have hu := (a2).know w hS; go_simp)); (focus (intro w hS e he; have hu := (a2).know w hS; have hm := mem_listed he; simp [go_sem, execOp, Act.eval, hu] at hm; subst hm; exact (a2).ev _)); try walk_nrm)
  (repeat (first | (co_apply wpS_region; simp only [List.size_toArray, List.length_cons, List.length_nil, Nat.reduceAdd, Nat.zero_add, List.range, List.range.loop]) | (co_apply opsS_pure; (focus (exact rfl)); (focus (exact rfl)); (focus (intro w; go_simp <;> exact rfl)); (focus (intro w; simp [go_sem, execOp, Act.eval]; done)); try walk_nrm) | (co_apply opsS_unwanted; (focus (exact rfl)); (focus (exact rfl)); walk_nrm) | (co_apply opsS_nil; try dsimp only) | co_apply wpS_seq | co_apply wpS_skip | (co_apply wpS_cond; (focus (exact rfl)); simp only [if_true, if_false, reduceIte, Bool.false_eq_true])))
  (co_apply opsS_call; (focus (exact rfl)); (focus (exact rfl)); (focus (exact rfl)); (focus (exact Try.func13)); (focus (rfl)); (focus (rfl)); try simp only [List.map_toArray, List.map_cons, List.map_nil])
  · exact w_closeA rfl b4 hp4 c4 f4
  rintro _ L5 ⟨rfl, m5, b5, k5, hp5, x5⟩
  walk_nrm
  (repeat (first | (co_apply wpS_region; simp only [List.size_toArray, List.length_cons, List.length_nil, Nat.reduceAdd, Nat.zero_add, List.range, List.range.loop]) | (co_apply opsS_pure; (focus (exact rfl)); (focus (exact rfl)); (focus (intro w; go_simp <;> exact rfl)); (focus (intro w; simp [go_sem, execOp, Act.eval]; done)); try walk_nrm) | (co_apply opsS_unwanted; (focus (exact rfl)); (focus (exact rfl)); walk_nrm) | (co_apply opsS_nil; try dsimp only) | co_apply wpS_seq | co_apply wpS_skip | (co_apply wpS_cond; (focus (exact rfl)); simp only [if_true, if_false, reduceIte, Bool.false_eq_true])))
  have x45 : Ext L L5 := ⟨fun {a v} h => x5.sees (fun e => by have := far1 a h.acc; rw [e] at this; exact Nat.lt_irrefl _ this) (fun e => by have := far1 a h.acc; rw [e] at this; exact Nat.lt_irrefl _ this) (x4.sees h), fun {a v} h => x5.has (fun e => by have := far1 a (.inl h.own); rw [e] at this; exact Nat.lt_irrefl _ this) (fun e => by have := far1 a (.inl h.own); rw [e] at this; exact Nat.lt_irrefl _ this) (x4.has h)⟩
  have c5 : m5.cl p.b = true := by rw [k5.cl]; simp
  have f5 : m5.fin p.b = true := by rw [k5.fin]; simp
  (co_apply opsS_call; (focus (exact rfl)); (focus (exact rfl)); (focus (exact rfl)); (focus (exact Try.func13)); (focus (rfl)); (focus (rfl)); try simp only [List.map_toArray, List.map_cons, List.map_nil])
  · exact w_closeB rfl b5 hp5 c5 f5
  rintro _ L6 ⟨rfl, m6, b6, k6, x6⟩
  walk_nrm
  (repeat (first | (co_apply wpS_region; simp only [List.size_toArray, List.length_cons, List.length_nil, Nat.reduceAdd, Nat.zero_add, List.range, List.range.loop]) | (co_apply opsS_pure; (focus (exact rfl)); (focus (exact rfl)); (focus (intro w; go_simp <;> exact rfl)); (focus (intro w; simp [go_sem, execOp, Act.eval]; done)); try walk_nrm) | (co_apply opsS_unwanted; (focus (exact rfl)); (focus (exact rfl)); walk_nrm) | (co_apply opsS_nil; try dsimp only) | co_apply wpS_seq | co_apply wpS_skip | (co_apply wpS_cond; (focus (exact rfl)); simp only [if_true, if_false, reduceIte, Bool.false_eq_true])))
  (first | (co_apply wpS_ret; refine ⟨_, fun w => ⟨results_tmp rfl _ _ _, events_results_tmp rfl _ _⟩, unwinds_nil ?_⟩) | (refine ⟨_, fun w => ⟨results_none rfl _ _ _, events_results_none rfl _ _⟩, unwinds_nil ?_⟩) | (co_apply wpS_ret; refine ⟨_, fun w => ⟨results_none rfl _ _ _, events_results_none rfl _ _⟩, unwinds_nil ?_⟩))
  refine ⟨rfl, m6, b6, x45.trans x6, fun e he => ?_⟩
  rw [k6.ps, k5.ps, s4] at he
  rw [k6.fin, k5.fin]
  dsimp only
  by_cases h : e.b = p.b
  · rw [if_pos h]
  · rw [if_neg h, if_neg h, o4 _ h]
    rcases List.mem_cons.1 he with rfl | he
    · exact absurd rfl h
    · exact hfin e he
end Go.Proofs.Ytaceedenkmccdaa

/- Pools: the walk of New, whole. -/
import Derived.Test.YtaceedenkmccdaaSg
namespace Go.Proofs.Ytaceedenkmccdaa
open Go Go.Conc Go.ConcN
set_option linter.unusedSimpArgs false
set_option linter.unusedVariables false
variable {X : Cx} {i : Nat} {L L' : Lo} {Post : Value → Lo → Prop}
set_option maxRecDepth 100000
set_option maxHeartbeats 4000000
theorem ev_max2 {P : Program} (ts : Array TypeId) (t : TypeId) (k k' : IntKind) (x y : Int) (w : World) (es : Array Event) : (Builtin.max_ ts t #[.int k x, .int k' y]).events P w es = es := rfl
theorem ev_min2 {P : Program} (ts : Array TypeId) (t : TypeId) (k k' : IntKind) (x y : Int) (w : World) (es : Array Event) : (Builtin.min_ ts t #[.int k x, .int k' y]).events P w es = es := rfl
theorem rn_max2 {P : Program} (ts : Array TypeId) (t : TypeId) (k k' : IntKind) (x y : Int) (w : World) : (Builtin.max_ ts t #[.int k x, .int k' y]).run P w = .ok (.int k (if x < y then y else x)) w := by
  simp [Builtin.max_, Builtin.max2]
theorem rn_min2 {P : Program} (ts : Array TypeId) (t : TypeId) (k k' : IntKind) (x y : Int) (w : World) : (Builtin.min_ ts t #[.int k x, .int k' y]).run P w = .ok (.int k (if y < x then y else x)) w := by
  simp [Builtin.min_, Builtin.min2]
def left16 (a : Act) : Nat := match (a.tmps[16]? : Option Value) with | some (Value.int _ z) => ((16 : Int) - z).toNat | _ => 0
theorem left16_eq {a : Act} {z : Nat} (h : a.tmps[16]? = some (.int .i64 z)) : left16 a = 16 - z := by
  unfold left16
  rw [h]
  show ((16 : Int) - (z : Int)).toNat = 16 - z
  omega
/-- New, of no function. -/
theorem w_new0 [Inhabited Base] (hP : X.P = Try.prog) {k : Int} : CallsS X i 8 #[.int .i64 k, .nilFunc] 100 L fun r L' => r = .pointer none ∧ L' = L := by
  (obtain ⟨P, ap, SelAt, CI, CW, Q⟩ := X; dsimp only at hP; subst hP)
  (co_apply CallsS.more; co_apply callsS_of_wp Try.func8 rfl; simp only [Try.ntmps8, List.size_toArray, List.length_cons, List.length_nil, Nat.reduceAdd, Nat.reduceSub, Array.replicate, List.replicate, List.append_toArray, List.cons_append, List.nil_append, List.append_eq])
  · (co_apply wpS_seq)
    (repeat (first | (co_apply wpS_region; simp only [List.size_toArray, List.length_cons, List.length_nil, Nat.reduceAdd, Nat.zero_add, List.range, List.range.loop]) | (co_apply opsS_pure; (focus (exact rfl)); (focus (exact rfl)); (focus (intro w; go_simp <;> exact rfl)); (focus (intro w; simp [go_sem, execOp, Act.eval]; done)); try walk_nrm) | (co_apply opsS_nil; try dsimp only) | co_apply wpS_skip | (co_apply wpS_cond; (focus (exact rfl)); simp only [if_true, if_false, reduceIte, Bool.false_eq_true])))
    co_apply wpS_seq (n₂ := 0)
    (repeat (first | (co_apply wpS_region; simp only [List.size_toArray, List.length_cons, List.length_nil, Nat.reduceAdd, Nat.zero_add, List.range, List.range.loop]) | (co_apply opsS_pure; (focus (exact rfl)); (focus (exact rfl)); (focus (intro w; go_simp <;> exact rfl)); (focus (intro w; simp [go_sem, execOp, Act.eval]; done)); try walk_nrm) | (co_apply opsS_nil; try dsimp only) | co_apply wpS_seq | co_apply wpS_skip | (co_apply wpS_cond; (focus (exact rfl)); simp only [if_true, if_false, reduceIte, Bool.false_eq_true])))
    (co_apply opsS_pure (v := .bool true); (focus (exact rfl)); (focus (exact rfl)); (focus (intro w; go_simp <;> exact rfl)); (focus (intro w; simp [go_sem, execOp, Act.eval]; exact ev_eql_fn_nil Try.underlying26 _ _ _ (.inl rfl))); try walk_nrm)
    (repeat (first | (co_apply wpS_region; simp only [List.size_toArray, List.length_cons, List.length_nil, Nat.reduceAdd, Nat.zero_add, List.range, List.range.loop]) | (co_apply opsS_pure; (focus (exact rfl)); (focus (exact rfl)); (focus (intro w; go_simp <;> exact rfl)); (focus (intro w; simp [go_sem, execOp, Act.eval]; done)); try walk_nrm) | (co_apply opsS_nil; try dsimp only) | co_apply wpS_seq | co_apply wpS_skip | (co_apply wpS_cond; (focus (exact rfl)); simp only [if_true, if_false, reduceIte, Bool.false_eq_true])))
    (first | (co_apply wpS_ret; refine ⟨_, fun w => ⟨results_tmp rfl _ _ _, events_results_tmp rfl _ _⟩, unwinds_nil ?_⟩) | (refine ⟨_, fun w => ⟨results_none rfl _ _ _, events_results_none rfl _ _⟩, unwinds_nil ?_⟩) | (co_apply wpS_ret; refine ⟨_, fun w => ⟨results_none rfl _ _ _, events_results_none rfl _ _⟩, unwinds_nil ?_⟩))
    exact ⟨rfl, rfl⟩
  · decide
/-- A worker's beginning. -/
def workLo (p : PoolG) : Lo :=
  ⟨fun _ => False, fun a => a = ca p.b 0 ∨ a = ca p.b 1 ∨ a = ca p.b 2, fun _ => False, fun w => w.cell? (ca p.b 0) = some (.func (.func p.fn) #[] #[]) ∧ w.cell? (ca p.b 1) = some (.chan (some p.ci)) ∧ w.cell? (ca p.b 2) = some (.chan (some p.ce)),
   fun w w' hc _ h => ⟨by rw [(hc _ (.inr (.inl rfl))).1]; exact h.1, by rw [(hc _ (.inr (.inr (.inl rfl)))).1]; exact h.2.1, by rw [(hc _ (.inr (.inr (.inr rfl)))).1]; exact h.2.2⟩, .alive, 0, .worker p none, none⟩
theorem workLo_ws {p : PoolG} (hfn : p.fn = 9 ∨ p.fn = 14) (hi : i ≠ 0) : WS p i (workLo p) :=
  ⟨rfl, rfl, rfl, fun a h => h, ⟨fun w h => h.1, .inr (.inl rfl), fun h => h⟩, ⟨fun w h => h.2.1, .inr (.inr (.inl rfl)), fun h => h⟩, ⟨fun w h => h.2.2, .inr (.inr (.inr rfl)), fun h => h⟩, hfn, hi⟩
/-- What main knows of a pool that is being peopled. -/
structure Peopled (m mm : MainR) (p : PoolG) (j : Nat) : Prop where
  ps : mm.ps = p :: m.ps
  ws : mm.ws p.b = j
  rd : 0 < j → mm.rd p.b = true
  cl : mm.cl p.b = false
  fin : mm.fin p.b = false
  asks : mm.asks p.b = 0
  ocl : ∀ b, b ≠ p.b → mm.cl b = m.cl b
  ord : ∀ b, b ≠ p.b → mm.rd b = m.rd b
  ofin : ∀ b, b ≠ p.b → mm.fin b = m.fin b
  oasks : ∀ b, b ≠ p.b → mm.asks b = m.asks b
theorem Peopled.start (m : MainR) (p : PoolG) : Peopled m (m.adds p) p 0 := ⟨rfl, by simp [MainR.adds], fun h => absurd h (by decide), by simp [MainR.adds], by simp [MainR.adds], by simp [MainR.adds], fun b h => by simp [MainR.adds, h], fun b h => by simp [MainR.adds, h], fun b h => by simp [MainR.adds, h], fun b h => by simp [MainR.adds, h]⟩
theorem Peopled.next {m mm : MainR} {p : PoolG} {j : Nat} (h : Peopled m mm p j) (wa : Addr) : Peopled m { mm.at none (some wa) none with pnd := none, rd := fun b => if b = p.b then true else mm.rd b, ws := fun b => if b = p.b then mm.ws b + 1 else mm.ws b } p (j + 1) :=
  ⟨h.ps, by simp [h.ws], fun _ => by simp, h.cl, h.fin, h.asks, h.ocl, fun b hb => by simp [hb, h.ord b hb], h.ofin, h.oasks⟩
/-- What is held at the loop's head. -/
structure NLoop (L : Lo) (m : MainR) (p : PoolG) (j : Nat) (L' : Lo) (mm : MainR) : Prop where
  boss : Boss L' mm
  pe : Peopled m mm p j
  ext : Ext L L'
  f : Sees L' ⟨p.b, 0, none⟩ (.func (.func p.fn) #[] #[])
  ci : Sees L' ⟨p.b, 1, none⟩ (.chan (some p.ci))
  ce : Sees L' ⟨p.b, 2, none⟩ (.chan (some p.ce))
  once : Has L' ⟨p.b, 5, none⟩ (.int .u32 0)
  mu : Has L' ⟨p.b, 6, none⟩ (.int .i32 0)
/-- A new pool, as main has it. -/
structure NewAs (L : Lo) (m : MainR) (p : PoolG) (L' : Lo) (m' : MainR) : Prop where
  boss : Boss L' m'
  pe : ∃ j, Peopled m m' p j
  ext : Ext L L'
  pool : PoolAt L' m' p
  far : ∀ ad, L.M ad ∨ L.R ad → ad.block < p.b
theorem w_new [Inhabited Base] (hP : X.P = Try.prog) (hwk : ∀ i p L, WS p i L → L.role = .worker p none → X.safe i 2300 (born X.P { target := .fn (.func 16) #[], args := #[.pointer (some ⟨p.b, 0, none⟩)] }) L) {m : MainR} (hb : Boss L m) {fn : Nat} (hfn : fn = 9 ∨ fn = 14) {k : Int} :
    CallsS X 0 8 #[.int .i64 k, .func (.func fn) #[] #[]] 60000 L fun r L' => ∃ p m', r = .pointer (some ⟨p.b, 0, none⟩) ∧ p.fn = fn ∧ NewAs L m p L' m' := by
  (obtain ⟨P, ap, SelAt, CI, CW, Q⟩ := X; dsimp only at hP; subst hP)
  (co_apply CallsS.more; co_apply callsS_of_wp Try.func8 rfl; simp only [Try.ntmps8, List.size_toArray, List.length_cons, List.length_nil, Nat.reduceAdd, Nat.reduceSub, Array.replicate, List.replicate, List.append_toArray, List.cons_append, List.nil_append, List.append_eq])
  · (co_apply wpS_seq)
    (repeat (first | (co_apply wpS_region; simp only [List.size_toArray, List.length_cons, List.length_nil, Nat.reduceAdd, Nat.zero_add, List.range, List.range.loop]) | (co_apply opsS_pure; (focus (exact rfl)); (focus (exact rfl)); (focus (intro w; go_simp <;> exact rfl)); (focus (intro w; simp [go_sem, execOp, Act.eval]; done)); try walk_nrm) | (co_apply opsS_nil; try dsimp only) | co_apply wpS_skip | (co_apply wpS_cond; (focus (exact rfl)); simp only [if_true, if_false, reduceIte, Bool.false_eq_true])))
    (repeat (first | (co_apply wpS_region; simp only [List.size_toArray, List.length_cons, List.length_nil, Nat.reduceAdd, Nat.zero_add, List.range, List.range.loop]) | (co_apply opsS_pure; (focus (exact rfl)); (focus (exact rfl)); (focus (intro w; go_simp <;> exact rfl)); (focus (intro w; simp [go_sem, execOp, Act.eval]; done)); try walk_nrm) | (co_apply opsS_nil; try dsimp only) | co_apply wpS_seq | co_apply wpS_skip | (co_apply wpS_cond; (focus (exact rfl)); simp only [if_true, if_false, reduceIte, Bool.false_eq_true])))
    (co_apply opsS_pure (v := .bool false); (focus (exact rfl)); (focus (exact rfl)); (focus (intro w; go_simp <;> exact rfl)); (focus (intro w; simp [go_sem, execOp, Act.eval]; exact ev_eql_fn_nil Try.underlying26 _ _ _ (.inr ⟨_, _, _, rfl⟩))); try walk_nrm)
    (repeat (first | (co_apply wpS_region; simp only [List.size_toArray, List.length_cons, List.length_nil, Nat.reduceAdd, Nat.zero_add, List.range, List.range.loop]) | (co_apply opsS_pure; (focus (exact rfl)); (focus (exact rfl)); (focus (intro w; go_simp <;> exact rfl)); (focus (intro w; simp [go_sem, execOp, Act.eval]; done)); try walk_nrm) | (co_apply opsS_nil; try dsimp only) | co_apply wpS_seq | co_apply wpS_skip | (co_apply wpS_cond; (focus (exact rfl)); simp only [if_true, if_false, reduceIte, Bool.false_eq_true])))
    co_apply wpS_mono (w_newFill (X := ⟨Try.prog, ap, SelAt, CI, CW, Q⟩) (fn := fn) rfl hb rfl rfl)
    rintro _ ⟨tmps, defers⟩ L1 ⟨rfl, k1, k2, k3, bk, c1, c2, nw, k5, m1, m2, hne, hbk, hL1⟩
    dsimp only at k1 k2 k3 k5
    subst k1
    have j0 : tmps[0]? = some (.int .i64 k) := (k3 0 (by decide)).trans rfl
    have j1 : tmps[1]? = some (.func (.func fn) #[] #[]) := (k3 1 (by decide)).trans rfl
    obtain ⟨f1, hlit, hf1⟩ := lit tmps 25 k2
    have e0 := hf1 0 _ j0
    have e1 := hf1 1 _ j1
    have e5 := hf1 5 _ k5
    subst hlit
    clear k2 k3 j0 j1 k5 hf1
    simp only [List.range, List.range.loop, List.map, e0, e1, e5]
    clear e0 e1 e5
    obtain ⟨p, hp⟩ : ∃ p : PoolG, p = ⟨bk, c1, c2, fn⟩ := ⟨_, rfl⟩
    have pb : p.b = bk := by rw [hp]
    have hf1 : Fit L1 := by rw [hL1]; exact ⟨⟨hb.h, fun wa zs f s e => by cases e⟩, fun a ha => ha.elim (fun y => .inl (hb.vm a y)) fun ⟨k, hk, e, _⟩ => .inr ⟨k, .inl hk, e⟩⟩
    have hV0 : ∀ a, (L.turn (.main { m with nw := nw }) none).V a → a.block < bk := fun a ha => hbk a (.inl (hb.vm a ha))
    have g0 : Has L1 ⟨bk, 0, none⟩ (.func (.func fn) #[] #[]) := by rw [hL1]; exact has_new (k := 0) rfl (by simp [poolVirg]) hV0
    have g1 : Has L1 ⟨bk, 1, none⟩ (.chan (some c1)) := by rw [hL1]; exact has_new (k := 1) rfl (by simp [poolVirg]) hV0
    have g2 : Has L1 ⟨bk, 2, none⟩ (.chan (some c2)) := by rw [hL1]; exact has_new (k := 2) rfl (by simp [poolVirg]) hV0
    have g5 : Has L1 ⟨bk, 5, none⟩ (.int .u32 0) := by rw [hL1]; exact has_new (k := 5) rfl (by simp [poolVirg]) hV0
    have g6 : Has L1 ⟨bk, 6, none⟩ (.int .i32 0) := by rw [hL1]; exact has_new (k := 6) rfl (by simp [poolVirg]) hV0
    have g3 : New1 L1 ⟨bk, 3, none⟩ (.int .u64 0) := by rw [hL1]; exact new_new (k := 3) rfl (by simp [poolVirg])
    have g4 : New1 L1 ⟨bk, 4, none⟩ (.int .u32 0) := by rw [hL1]; exact new_new (k := 4) rfl (by simp [poolVirg])
    have g8 : New1 L1 ⟨bk, 8, none⟩ (.int .i64 0) := by rw [hL1]; exact new_new (k := 8) rfl (by simp [poolVirg])
    have r1 : L1.role = .main { m with nw := nw } := by rw [hL1]; rfl
    have q1 : L1.q = none := by rw [hL1]; rfl
    have d1 : L1.d = 0 := by rw [hL1]; exact hb.d
    have x1 : Ext L L1 := by rw [hL1]; exact ⟨fun h => (h.turn _ _).adds (hbk _ h.acc), fun h => (h.turn _ _).adds (hbk _ (.inl h.own))⟩
    have far1 : ∀ {a : Addr}, (L.M a ∨ L.R a) → a.block < bk := fun {a} h => hbk a h
    clear hL1 hV0
    co_apply wpS_seq
    co_apply wpS_seq
    co_apply wpS_region_told (L' := (L1.gives fun a => a = ca bk 3 ∨ a = ca bk 4 ∨ a = ca bk 8).turn (.main (m.adds p)) none)
    · exact hf1.live.nl
    · intro n Γ w t hI hL hi
      have hS : L1.S w := by have := hI.know 0; rwa [hL] at this
      subst hp
      exact hI.newPool (p := ⟨bk, c1, c2, fn⟩) (L' := (L1.gives fun a => a = ca bk 3 ∨ a = ca bk 4 ∨ a = ca bk 8).turn (.main (m.adds ⟨bk, c1, c2, fn⟩)) none) hL r1 rfl q1.symm
        (fun a ha => ⟨ha.1, fun e => ha.2 (.inl e), fun e => ha.2 (.inr (.inl e)), fun e => ha.2 (.inr (.inr e))⟩) (fun a ha => ⟨ha.1, fun e => ha.2 (.inl e), fun e => ha.2 (.inr (.inl e)), fun e => ha.2 (.inr (.inr e))⟩) (fun a ha => ⟨ha.1, hf1.vm a ha.1, ha.2⟩) rfl rfl (gives_S hS)
        ⟨g3.virg, g4.virg, g8.virg⟩ ⟨⟨g3.know w hS, g3.froz w hS⟩, ⟨g4.know w hS, g4.froz w hS⟩, ⟨g8.know w hS, g8.froz w hS⟩⟩ ⟨m1, m2, hne.symm⟩ hb.al hb.reg hb.pnd hb.dn hfn
    · intro n Γ w t hI hL hi
      rw [r1]
      show (fun b => if b = p.b then false else m.cl b) = m.cl
      funext b
      by_cases e : b = p.b
      · rw [if_pos e]
        cases hc : m.cl b with
        | false => rfl
        | true =>
          obtain ⟨e', he, heb⟩ := hb.clb b hc
          have hat : AT (Γ 0).role (ca bk 3) := by
            rw [hL, r1]
            exact .inl ⟨e', he, .inl (by rw [heb, e, pb])⟩
          exact absurd (by rw [hL]; exact g3.own) (hI.apart.shared 0 _ hat).1
      · rw [if_neg e]
    have hN0 : NLoop L m p 0 ((L1.gives fun a => a = ca bk 3 ∨ a = ca bk 4 ∨ a = ca bk 8).turn (.main (m.adds p)) none) (m.adds p) := by
      have nP : ∀ j : Nat, j ≠ 3 → j ≠ 4 → j ≠ 8 → ¬ ((⟨bk, j, none⟩ : Addr) = ca bk 3 ∨ (⟨bk, j, none⟩ : Addr) = ca bk 4 ∨ (⟨bk, j, none⟩ : Addr) = ca bk 8) := fun j h3 h4 h8 h => by
        rcases h with h | h | h
        · exact h3 (ca_eq (b := bk) (i := j) h).2
        · exact h4 (ca_eq (b := bk) (i := j) h).2
        · exact h8 (ca_eq (b := bk) (i := j) h).2
      have nF : ∀ {a : Addr}, (L.M a ∨ L.R a) → ¬ (a = ca bk 3 ∨ a = ca bk 4 ∨ a = ca bk 8) := fun {a} h e => by
        have := far1 h
        rcases e with e | e | e <;> (rw [e] at this; exact Nat.lt_irrefl _ this)
      subst hp
      exact ⟨⟨rfl, rfl, hf1.live.1, d1, fun a ha => ⟨hf1.vm a ha.1, ha.2⟩, hb.reg, hb.pnd, hb.al, hb.dn, rfl, fun b h => (by
        by_cases e : b = bk
        · exact ⟨_, List.mem_cons_self .., e.symm⟩
        · have h : (if b = bk then false else m.cl b) = true := h
          rw [if_neg e] at h
          obtain ⟨e', h1, h2⟩ := hb.clb b h
          exact ⟨e', List.mem_cons_of_mem _ h1, h2⟩)⟩, Peopled.start m _, ⟨fun h => ((x1.sees h).gives (nF h.acc)).turn _ _, fun h => ((x1.has h).gives (nF (.inl h.own))).turn _ _⟩,
        (g0.sees.gives (nP 0 (by decide) (by decide) (by decide))).turn _ _, (g1.sees.gives (nP 1 (by decide) (by decide) (by decide))).turn _ _, (g2.sees.gives (nP 2 (by decide) (by decide) (by decide))).turn _ _, (g5.gives (nP 5 (by decide) (by decide) (by decide))).turn _ _, (g6.gives (nP 6 (by decide) (by decide) (by decide))).turn _ _⟩
    generalize ((L1.gives fun a => a = ca bk 3 ∨ a = ca bk 4 ∨ a = ca bk 8).turn (.main (m.adds p)) none) = L2 at hN0 ⊢
    have hpf : p.fn = fn := by rw [hp]
    clear hp g0 g1 g2 g3 g4 g5 g6 g8 r1 q1 d1 x1 hf1 m1 m2 hne
    subst pb
    simp only [List.size_toArray, List.length_cons, List.length_nil, Nat.reduceAdd, Nat.zero_add, List.range, List.range.loop]
    (co_apply opsS_pure; (focus (exact rfl)); (focus (exact rfl)); (focus (intro w; go_simp <;> exact rfl)); (focus (intro w; simp [go_sem, execOp, Act.eval]; done)); try walk_nrm)
    co_apply opsS_pure (v := .int .i64 (if k < 1 then 1 else k))
    · rfl
    · rfl
    · intro w; simp [go_sem, execOp, Act.eval, rn_max2]
    · intro w; simp [go_sem, execOp, Act.eval, ev_max2]
    walk_nrm
    co_apply opsS_pure (v := .int .i64 (if 16 < (if k < 1 then 1 else k) then 16 else (if k < 1 then 1 else k)))
    · rfl
    · rfl
    · intro w; simp [go_sem, execOp, Act.eval, rn_min2]
    · intro w; simp [go_sem, execOp, Act.eval, ev_min2]
    walk_nrm
    obtain ⟨kk, hkk⟩ : ∃ kk : Int, kk = (if 16 < (if k < 1 then 1 else k) then 16 else (if k < 1 then 1 else k)) := ⟨_, rfl⟩
    rw [← hkk]
    have hk1 : 1 ≤ kk ∧ kk ≤ 16 := by rw [hkk]; split <;> split <;> omega
    clear hkk
    (repeat (first | (co_apply wpS_region; simp only [List.size_toArray, List.length_cons, List.length_nil, Nat.reduceAdd, Nat.zero_add, List.range, List.range.loop]) | (co_apply opsS_pure; (focus (exact rfl)); (focus (exact rfl)); (focus (intro w; go_simp <;> exact rfl)); (focus (intro w; simp [go_sem, execOp, Act.eval]; done)); try walk_nrm) | (co_apply opsS_nil; try dsimp only) | co_apply wpS_seq | co_apply wpS_skip | (co_apply wpS_cond; (focus (exact rfl)); simp only [if_true, if_false, reduceIte, Bool.false_eq_true])))
    co_apply wpS_block
    co_apply wpS_loop (fun a L' => a.defers = [] ∧ a.tmps.size = 25 ∧ a.tmps[5]? = some (.pointer (some ⟨p.b, 0, none⟩)) ∧ a.tmps[15]? = some (.int .i64 kk) ∧ ∃ j : Nat, a.tmps[16]? = some (.int .i64 j) ∧ (j : Int) ≤ kk ∧ ∃ mm, NLoop L m p j L' mm) (fun a _ => left16 a) 3200 16
    · exact ⟨rfl, rfl, rfl, rfl, 0, rfl, by omega, _, hN0⟩
    · rw [left16_eq (z := 0) rfl]
      decide
    · clear hN0
      rintro ⟨tmps, defers⟩ L3 ⟨k1, k2, k5, k15, j, k16, hj, mm, hN⟩
      dsimp only at k1 k2 k5 k15 k16
      subst k1
      obtain ⟨f2, hlit, hf2⟩ := lit tmps 25 k2
      have e5 := hf2 5 _ k5
      have e15 := hf2 15 _ k15
      have e16 := hf2 16 _ k16
      subst hlit
      clear k2 k5 k15 k16 hf2
      simp only [List.range, List.range.loop, List.map, e5, e15, e16]
      clear e5 e15 e16
      by_cases hlt : (j : Int) < kk
      · co_apply wpS_more
        (repeat (first | (co_apply wpS_region; simp only [List.size_toArray, List.length_cons, List.length_nil, Nat.reduceAdd, Nat.zero_add, List.range, List.range.loop]) | (co_apply opsS_pure; (focus (exact rfl)); (focus (exact rfl)); (focus (intro w; go_simp <;> exact rfl)); (focus (intro w; simp [go_sem, execOp, Act.eval]; done)); try walk_nrm) | (co_apply opsS_nil; try dsimp only) | co_apply wpS_seq | co_apply wpS_skip | (co_apply wpS_cond; (focus (exact rfl)); simp only [if_true, if_false, reduceIte, Bool.false_eq_true])))
        co_apply wpS_block
        (repeat (first | (co_apply wpS_region; simp only [List.size_toArray, List.length_cons, List.length_nil, Nat.reduceAdd, Nat.zero_add, List.range, List.range.loop]) | (co_apply opsS_pure; (focus (exact rfl)); (focus (exact rfl)); (focus (intro w; go_simp <;> exact rfl)); (focus (intro w; simp [go_sem, execOp, Act.eval]; done)); try walk_nrm) | (co_apply opsS_nil; try dsimp only) | co_apply wpS_seq | co_apply wpS_skip | (co_apply wpS_cond; (focus (exact rfl)); simp only [if_true, if_false, reduceIte, Bool.false_eq_true])))
        have hmem : p ∈ mm.ps := by rw [hN.pe.ps]; exact List.mem_cons_self ..
        (co_apply opsS_call; (focus (exact rfl)); (focus (exact rfl)); (focus (exact rfl)); (focus (exact Try.func15)); (focus (rfl)); (focus (rfl)); try simp only [List.map_toArray, List.map_cons, List.map_nil])
        · exact w_add1 (wa := handsA p) rfl hN.boss.d ⟨hN.boss.role, .inl ⟨p, hmem, rfl⟩, hN.boss.reg, hN.boss.pnd⟩
        rintro _ L4 ⟨rfl, hL4⟩
        rw [hN.boss.q] at hL4
        walk_nrm
        (repeat (first | (co_apply wpS_region; simp only [List.size_toArray, List.length_cons, List.length_nil, Nat.reduceAdd, Nat.zero_add, List.range, List.range.loop]) | (co_apply opsS_pure; (focus (exact rfl)); (focus (exact rfl)); (focus (intro w; go_simp <;> exact rfl)); (focus (intro w; simp [go_sem, execOp, Act.eval]; done)); try walk_nrm) | (co_apply opsS_nil; try dsimp only) | co_apply wpS_seq | co_apply wpS_skip | (co_apply wpS_cond; (focus (exact rfl)); simp only [if_true, if_false, reduceIte, Bool.false_eq_true])))
        co_apply opsS_go (d := { target := .fn (.func 16) #[], args := #[.pointer (some ⟨p.b, 0, none⟩)] }) (f := .func 16) (cap := #[]) (c2 := 2300) (Lc := workLo p) (L' := (L4.lends fun a => a = ca p.b 0 ∨ a = ca p.b 1 ∨ a = ca p.b 2).turn (.main { mm.at none (some (handsA p)) none with pnd := none, rd := fun b => if b = p.b then true else mm.rd b, ws := fun b => if b = p.b then mm.ws b + 1 else mm.ws b }) none)
        · rfl
        · rfl
        · intro w; go_simp
        · rfl
        · intro w; simp [listed, go_sem, execOp, Act.eval, seen_none]
        · rfl
        · subst hL4; exact fun ⟨⟨wa, zs, f, e⟩, _⟩ => by cases e
        · exact fun ⟨⟨wa, zs, f, e⟩, _⟩ => by cases e
        · exact fun ⟨⟨wa, zs, f, e⟩, _⟩ => by cases e
        · intro n Γ w t hI hL
          have hS : L4.S w := by have := hI.know 0; rwa [hL] at this
          subst hL4
          refine ⟨rfl, fun fn pos fn' pos' => ?_⟩
          have h16 : mm.ws p.b < 16 := by rw [hN.pe.ws]; omega
          exact hI.spawn (m := mm.at none (some (handsA p)) none) (m' := { mm.at none (some (handsA p)) none with pnd := none, rd := fun b => if b = p.b then true else mm.rd b, ws := fun b => if b = p.b then mm.ws b + 1 else mm.ws b }) (Lc := workLo p) (L' := ((L3.turn (.main (mm.at none (some (handsA p)) none)) none).lends fun a => a = ca p.b 0 ∨ a = ca p.b 1 ∨ a = ca p.b 2).turn (.main { mm.at none (some (handsA p)) none with pnd := none, rd := fun b => if b = p.b then true else mm.rd b, ws := fun b => if b = p.b then mm.ws b + 1 else mm.ws b }) none)
            hL rfl rfl (.inl ⟨p, rfl, hmem, rfl, hN.boss.al, h16, hN.pe.fin, rfl⟩) hN.boss.d (fun a ha => ha.1) (fun a ha => ha.elim .inr fun x => .inl x.1) (fun a ha => ⟨ha.1, hN.boss.vm a ha.1, ha.2⟩) rfl hN.boss.d hS rfl
            (fun a h => h) (fun a ha => ⟨by rcases ha with rfl | rfl | rfl; exact hN.f.acc; exact hN.ci.acc; exact hN.ce.acc, fun x => x.2 ha⟩) (fun a h => h) ⟨hN.f.know w hS, hN.ci.know w hS, hN.ce.know w hS⟩ rfl rfl rfl fn pos fn' pos'
        · exact fun n hn => hwk n p (workLo p) (workLo_ws (by rw [hpf]; exact hfn) hn) rfl
        walk_nrm
        have hN2 : NLoop L m p (j + 1) ((L4.lends fun a => a = ca p.b 0 ∨ a = ca p.b 1 ∨ a = ca p.b 2).turn (.main { mm.at none (some (handsA p)) none with pnd := none, rd := fun b => if b = p.b then true else mm.rd b, ws := fun b => if b = p.b then mm.ws b + 1 else mm.ws b }) none) { mm.at none (some (handsA p)) none with pnd := none, rd := fun b => if b = p.b then true else mm.rd b, ws := fun b => if b = p.b then mm.ws b + 1 else mm.ws b } := by
          have nP : ∀ j : Nat, j ≠ 0 → j ≠ 1 → j ≠ 2 → ¬ ((⟨p.b, j, none⟩ : Addr) = ca p.b 0 ∨ (⟨p.b, j, none⟩ : Addr) = ca p.b 1 ∨ (⟨p.b, j, none⟩ : Addr) = ca p.b 2) := fun j h3 h4 h8 h => by
            rcases h with h | h | h
            · exact h3 (ca_eq (b := p.b) (i := j) h).2
            · exact h4 (ca_eq (b := p.b) (i := j) h).2
            · exact h8 (ca_eq (b := p.b) (i := j) h).2
          have nF : ∀ {a : Addr}, (L.M a ∨ L.R a) → ¬ (a = ca p.b 0 ∨ a = ca p.b 1 ∨ a = ca p.b 2) := fun {a} h e => by
            have := far1 h
            rcases e with e | e | e <;> (rw [e] at this; exact Nat.lt_irrefl _ this)
          subst hL4
          exact ⟨⟨rfl, rfl, hN.boss.h, hN.boss.d, fun a ha => ⟨hN.boss.vm a ha.1, ha.2⟩, rfl, rfl, hN.boss.al, rfl, hN.boss.nw, hN.boss.clb⟩, hN.pe.next _, ⟨fun h => (((hN.ext.sees h).turn _ _).lends _).turn _ _, fun h => (((hN.ext.has h).turn _ _).lends (nF (.inl h.own))).turn _ _⟩,
            ((hN.f.turn _ _).lends _).turn _ _, ((hN.ci.turn _ _).lends _).turn _ _, ((hN.ce.turn _ _).lends _).turn _ _, ((hN.once.turn _ _).lends (nP 5 (by decide) (by decide) (by decide))).turn _ _, ((hN.mu.turn _ _).lends (nP 6 (by decide) (by decide) (by decide))).turn _ _⟩
        generalize ((L4.lends fun a => a = ca p.b 0 ∨ a = ca p.b 1 ∨ a = ca p.b 2).turn (.main { mm.at none (some (handsA p)) none with pnd := none, rd := fun b => if b = p.b then true else mm.rd b, ws := fun b => if b = p.b then mm.ws b + 1 else mm.ws b }) none) = L5 at hN2 ⊢
        (repeat (first | (co_apply opsS_nil; try dsimp only) | co_apply wpS_seq | (co_apply wpS_region; simp only [List.size_toArray, List.length_cons, List.length_nil, Nat.reduceAdd, Nat.zero_add, List.range, List.range.loop]) | co_apply wpS_skip | (co_apply wpS_cond; (focus (exact rfl)); simp only [if_true, if_false, reduceIte, Bool.false_eq_true])))
        have hw := wrap_i64 ((j : Int) + 1) (by omega) (by omega)
        (co_apply opsS_pure (v := (.int .i64 ((j : Int) + 1))); (focus (exact rfl)); (focus (exact rfl)); (focus (intro w; go_simp <;> first | done | exact rfl | assumption | omega | ((simp only [IntKind.wrap_u64, IntKind.wrap_u32, IntKind.wrap_i32]); omega) | decide)); (focus (intro w; simp [go_sem, execOp, Act.eval, *]; done)); try walk_nrm)
        (co_apply opsS_pure (v := (.int .i64 ((j : Int) + 1))); (focus (exact rfl)); (focus (exact rfl)); (focus (intro w; go_simp <;> first | done | exact rfl | assumption | omega | ((simp only [IntKind.wrap_u64, IntKind.wrap_u32, IntKind.wrap_i32]); omega) | decide)); (focus (intro w; simp [go_sem, execOp, Act.eval, *]; done)); try walk_nrm)
        clear hw
        (repeat (first | (co_apply opsS_nil; try dsimp only) | co_apply wpS_seq | (co_apply wpS_region; simp only [List.size_toArray, List.length_cons, List.length_nil, Nat.reduceAdd, Nat.zero_add, List.range, List.range.loop]) | co_apply wpS_skip | (co_apply wpS_cond; (focus (exact rfl)); simp only [if_true, if_false, reduceIte, Bool.false_eq_true])))
        refine ⟨⟨rfl, rfl, rfl, rfl, j + 1, rfl, by omega, _, hN2⟩, ?_⟩
        rw [left16_eq (z := j + 1) rfl, left16_eq (z := j) rfl]
        omega
        decide
      · have hjk : kk = (j : Int) := by omega
        have hj0 : 0 < j := by omega
        co_apply wpS_more
        co_apply wpS_seq
        (repeat (first | (co_apply wpS_region; simp only [List.size_toArray, List.length_cons, List.length_nil, Nat.reduceAdd, Nat.zero_add, List.range, List.range.loop]) | (co_apply opsS_pure; (focus (exact rfl)); (focus (exact rfl)); (focus (intro w; go_simp <;> exact rfl)); (focus (intro w; simp [go_sem, execOp, Act.eval]; done)); try walk_nrm) | (co_apply opsS_nil; try dsimp only) | co_apply wpS_skip | (co_apply wpS_cond; (focus (exact rfl)); simp only [if_true, if_false, reduceIte, Bool.false_eq_true])))
        co_apply wpS_seq (n₂ := 0)
        (repeat (first | (co_apply wpS_region; simp only [List.size_toArray, List.length_cons, List.length_nil, Nat.reduceAdd, Nat.zero_add, List.range, List.range.loop]) | (co_apply opsS_pure; (focus (exact rfl)); (focus (exact rfl)); (focus (intro w; go_simp <;> exact rfl)); (focus (intro w; simp [go_sem, execOp, Act.eval]; done)); try walk_nrm) | (co_apply opsS_nil; try dsimp only) | co_apply wpS_seq | co_apply wpS_skip | (co_apply wpS_cond; (focus (exact rfl)); simp only [if_true, if_false, reduceIte, Bool.false_eq_true])))
        co_apply wpS_exit
        try dsimp only
        try simp only [if_true, reduceIte]
        co_apply wpS_more (n' := 100)
        (repeat (first | (co_apply wpS_region; simp only [List.size_toArray, List.length_cons, List.length_nil, Nat.reduceAdd, Nat.zero_add, List.range, List.range.loop]) | (co_apply opsS_pure; (focus (exact rfl)); (focus (exact rfl)); (focus (intro w; go_simp <;> exact rfl)); (focus (intro w; simp [go_sem, execOp, Act.eval]; done)); try walk_nrm) | (co_apply opsS_nil; try dsimp only) | co_apply wpS_seq | co_apply wpS_skip | (co_apply wpS_cond; (focus (exact rfl)); simp only [if_true, if_false, reduceIte, Bool.false_eq_true])))
        (first | (co_apply wpS_ret; refine ⟨_, fun w => ⟨results_tmp rfl _ _ _, events_results_tmp rfl _ _⟩, unwinds_nil ?_⟩) | (refine ⟨_, fun w => ⟨results_none rfl _ _ _, events_results_none rfl _ _⟩, unwinds_nil ?_⟩) | (co_apply wpS_ret; refine ⟨_, fun w => ⟨results_none rfl _ _ _, events_results_none rfl _ _⟩, unwinds_nil ?_⟩))
        have hmem : p ∈ mm.ps := by rw [hN.pe.ps]; exact List.mem_cons_self ..
        refine ⟨p, mm, rfl, hpf, hN.boss, ⟨j, hN.pe⟩, hN.ext, ⟨hmem, hN.pe.rd hj0, hN.ci, hN.ce, ?_, hN.mu⟩, fun ad h => far1 h⟩
        rw [if_neg (by rw [hN.pe.cl]; simp)]
        exact hN.once
        decide
        decide
  · decide
end Go.Proofs.Ytaceedenkmccdaa

/- Pools: the walk of New: the pool is made. -/
import Derived.Test.YtaceedenkmccdaaSf
namespace Go.Proofs.Ytaceedenkmccdaa
open Go Go.Conc Go.ConcN
set_option linter.unusedSimpArgs false
set_option linter.unusedVariables false
variable {X : Cx} {i : Nat} {L L' : Lo} {Post : Value → Lo → Prop}
set_option maxRecDepth 100000
set_option maxHeartbeats 4000000
noncomputable def nR3 : Code := match Try.f8.body with | some (.seq _ (.seq _ (.seq r _))) => r | _ => .skip
def poolCells (fn c1 c2 : Nat) : Array Value := #[.func (.func fn) #[] #[], .chan (some c1), .chan (some c2), .int .u64 0, .int .u32 0, .int .u32 0, .int .i32 0, .int .u32 0, .int .i64 0]
def poolVirg (k : Nat) : Prop := k = 3 ∨ k = 4 ∨ k = 8
/-- How far the making is. -/
structure NSt (m : MainR) (fn : Nat) (L : Lo) (v : Nat → Value) (d0 d1 d2 d3 d4 d5 : Bool) (L' : Lo) (nw : List Nat) : Prop where
  c1 : d1 = true → ∃ c, v 1 = .chan (some c) ∧ c ∈ nw
  c2 : d2 = true → ∃ c, v 2 = .chan (some c) ∧ c ∈ nw
  ne : d1 = true → d2 = true → v 1 ≠ v 2
  f0 : d0 = true → v 0 = .func (.func fn) #[] #[]
  b3 : d3 = true → d1 = true ∧ d2 = true ∧ ∃ c1 c2, v 1 = .chan (some c1) ∧ v 2 = .chan (some c2) ∧ v 3 = .agg (poolCells fn c1 c2)
  no4 : d4 = false → L' = L.turn (.main { m with nw := nw }) none
  x4 : d4 = true → d3 = true ∧ ∃ bk c1 c2, v 4 = .pointer (some ⟨bk, 0, none⟩) ∧ v 1 = .chan (some c1) ∧ v 2 = .chan (some c2) ∧ (∀ ad, L.M ad ∨ L.R ad → ad.block < bk) ∧ L' = (L.turn (.main { m with nw := nw }) none).adds bk (poolCells fn c1 c2) poolVirg
  s5 : d5 = true → d4 = true ∧ v 5 = v 4
section
variable {m : MainR} {fn : Nat} {v : Nat → Value} {d0 d1 d2 d3 d4 d5 : Bool} {nw : List Nat}
theorem NSt.s0 (h : NSt m fn L v d0 d1 d2 d3 d4 d5 L' nw) : NSt m fn L (upd v 0 (.func (.func fn) #[] #[])) true d1 d2 d3 d4 d5 L' nw :=
  ⟨fun x => h.c1 x, fun x => h.c2 x, fun x y => h.ne x y, fun _ => rfl, fun x => h.b3 x, fun x => h.no4 x, fun x => h.x4 x, fun x => h.s5 x⟩
theorem NSt.mk1 (h : NSt m fn L v d0 false d2 d3 d4 d5 L' nw) {c : Nat} (hc : ∀ c' ∈ nw, c' ≠ c) : NSt m fn L (upd v 1 (.chan (some c))) d0 true d2 d3 d4 d5 (L.turn (.main { m with nw := c :: nw }) none) (c :: nw) := by
  have n3 : d3 = false := by cases hd : d3 with | false => rfl | true => exact absurd (h.b3 hd).1 (by simp)
  have n4 : d4 = false := by cases hd : d4 with | false => rfl | true => exact absurd (h.x4 hd).1 (by simp [n3])
  subst n3 n4
  refine ⟨fun _ => ⟨c, rfl, List.mem_cons_self ..⟩, fun x => ?_, fun _ y e => ?_, fun x => h.f0 x, fun x => (by cases x), fun _ => rfl, fun x => (by cases x), fun x => h.s5 x⟩
  · obtain ⟨c', h1, h2⟩ := h.c2 x
    exact ⟨c', h1, List.mem_cons_of_mem _ h2⟩
  · obtain ⟨c', h1, h2⟩ := h.c2 y
    have e : (.chan (some c) : Value) = v 2 := e
    rw [h1] at e
    cases e
    exact hc _ h2 rfl
theorem NSt.mk2 (h : NSt m fn L v d0 d1 false d3 d4 d5 L' nw) {c : Nat} (hc : ∀ c' ∈ nw, c' ≠ c) : NSt m fn L (upd v 2 (.chan (some c))) d0 d1 true d3 d4 d5 (L.turn (.main { m with nw := c :: nw }) none) (c :: nw) := by
  have n3 : d3 = false := by cases hd : d3 with | false => rfl | true => exact absurd (h.b3 hd).2.1 (by simp)
  have n4 : d4 = false := by cases hd : d4 with | false => rfl | true => exact absurd (h.x4 hd).1 (by simp [n3])
  subst n3 n4
  refine ⟨fun x => ?_, fun _ => ⟨c, rfl, List.mem_cons_self ..⟩, fun y _ e => ?_, fun x => h.f0 x, fun x => (by cases x), fun _ => rfl, fun x => (by cases x), fun x => h.s5 x⟩
  · obtain ⟨c', h1, h2⟩ := h.c1 x
    exact ⟨c', h1, List.mem_cons_of_mem _ h2⟩
  · obtain ⟨c', h1, h2⟩ := h.c1 y
    have e : v 1 = (.chan (some c) : Value) := e
    rw [h1] at e
    cases e
    exact hc _ h2 rfl
theorem NSt.bd3 (h : NSt m fn L v d0 true true false d4 d5 L' nw) {c1 c2 : Nat} (h1 : v 1 = .chan (some c1)) (h2 : v 2 = .chan (some c2)) : NSt m fn L (upd v 3 (.agg (poolCells fn c1 c2))) d0 true true true d4 d5 L' nw :=
  ⟨fun x => h.c1 x, fun x => h.c2 x, fun x y => h.ne x y, fun x => h.f0 x, fun _ => ⟨rfl, rfl, c1, c2, h1, h2, rfl⟩, fun x => h.no4 x, fun x => absurd (h.x4 x).1 (by simp), fun x => h.s5 x⟩
theorem NSt.bx4 (h : NSt m fn L v d0 d1 d2 true false false L' nw) {bk c1 c2 : Nat} (h1 : v 1 = .chan (some c1)) (h2 : v 2 = .chan (some c2)) (hbk : ∀ ad, L.M ad ∨ L.R ad → ad.block < bk) : NSt m fn L (upd v 4 (.pointer (some ⟨bk, 0, none⟩))) d0 d1 d2 true true false ((L.turn (.main { m with nw := nw }) none).adds bk (poolCells fn c1 c2) poolVirg) nw :=
  ⟨fun x => h.c1 x, fun x => h.c2 x, fun x y => h.ne x y, fun x => h.f0 x, fun x => h.b3 x, fun x => (by cases x), fun x => ⟨rfl, bk, c1, c2, rfl, h1, h2, hbk, rfl⟩, fun x => (by cases x)⟩
theorem NSt.as5 (h : NSt m fn L v d0 d1 d2 d3 true d5 L' nw) : NSt m fn L (upd v 5 (v 4)) d0 d1 d2 d3 true true L' nw :=
  ⟨fun x => h.c1 x, fun x => h.c2 x, fun x y => h.ne x y, fun x => h.f0 x, fun x => h.b3 x, fun x => h.no4 x, fun x => h.x4 x, fun x => ⟨rfl, rfl⟩⟩
theorem NSt.pre (h : NSt m fn L v d0 d1 d2 d3 d4 d5 L' nw) (hd : d1 = false ∨ d2 = false) : L' = L.turn (.main { m with nw := nw }) none := by
  refine h.no4 ?_
  cases h4 : d4 with
  | false => rfl
  | true =>
    obtain ⟨x, y, _⟩ := h.b3 (h.x4 h4).1
    rcases hd with hd | hd
    · rw [hd] at x; cases x
    · rw [hd] at y; cases y
theorem NSt.role (h : NSt m fn L v d0 d1 d2 d3 d4 d5 L' nw) : L'.role = .main { m with nw := nw } ∧ L'.h = L.h ∧ ((∀ a, L.V a → L.M a) → ∀ a, L'.V a → L'.M a) := by
  cases hd : d4 with
  | false => rw [h.no4 hd]; exact ⟨rfl, rfl, fun x => x⟩
  | true =>
    obtain ⟨_, bk, c1, c2, _, _, _, _, e⟩ := h.x4 hd
    rw [e]
    exact ⟨rfl, rfl, fun x a ha => ha.elim (fun y => .inl (x a y)) fun ⟨k, hk, e, _⟩ => .inr ⟨k, .inl hk, e⟩⟩
end
theorem w_newFill [Inhabited Base] (hP : X.P = Try.prog) {m : MainR} {fn : Nat} {a : Act} (hb : Boss L m) (sz : a.tmps.size = 25) (h1 : a.tmps[1]? = some (.func (.func fn) #[] #[])) :
    wpS X 0 8 nR3 800 (fun e a' L' => e = .normal ∧ a'.defers = a.defers ∧ a'.tmps.size = 25 ∧ (∀ s, s < 5 → a'.tmps[s]? = a.tmps[s]?) ∧ ∃ bk c1 c2 nw, a'.tmps[5]? = some (.pointer (some ⟨bk, 0, none⟩)) ∧ c1 ∈ nw ∧ c2 ∈ nw ∧ c1 ≠ c2 ∧ (∀ ad, L.M ad ∨ L.R ad → ad.block < bk) ∧ L' = (L.turn (.main { m with nw := nw }) none).adds bk (poolCells fn c1 c2) poolVirg) a L := by
  (obtain ⟨P, ap, SelAt, CI, CW, Q⟩ := X; dsimp only at hP; subst hP)
  dsimp only [nR3, Try.f8]
  have hf := hb.fit
  co_apply wpS_more
  co_apply wpS_fillE (v0 := fun _ => undef) (fun v done L' => ∃ nw, NSt m fn L v (done.getD 0 false) (done.getD 1 false) (done.getD 2 false) (done.getD 3 false) (done.getD 4 false) (done.getD 5 false) L' nw) 60
  · rw [sz]; kernel_rfl
  · exact hf.live.nl
  · exact ⟨[], ⟨fun h => by simp at h, fun h => by simp at h, fun h => by simp at h, fun h => by simp at h, fun h => by simp at h, fun _ => by
      have : ({ m with nw := [] } : MainR) = m := by have := hb.nw; obtain ⟨_, _, _, _, _, _, _, _, _, _, _⟩ := m; simp only at this; rw [this]
      rw [this]; exact (turn_same hb.role hb.q).symm, fun h => by simp at h, fun h => by simp at h⟩⟩
  · rintro v done j o a' L' hs0 ho hnd hdep hF ⟨nw, hN⟩
    obtain ⟨hlt', _⟩ := Array.getElem?_eq_some_iff.1 ho
    have hset : ∀ k, (done.setIfInBounds j true).getD k false = if k = j then true else done.getD k false := fun k => done_set (by rw [hs0]; exact hlt')
    obtain ⟨r1, r2, r3⟩ := hN.role
    have hfit : Fit L' := ⟨⟨r2.trans hb.h, fun wa zs f s e => by rw [r1] at e; cases e⟩, r3 hb.vm⟩
    match j, hlt' with
    | 0, _ =>
      cases ho
      have e1 : a'.tmps[1]? = some (.func (.func fn) #[] #[]) := hF.base rfl h1
      refine opS_pure (.func (.func fn) #[] #[]) rfl rfl (by intro w; simp [go_sem, execOp, e1]) (by intro w; simp [go_sem, execOp, e1]) ⟨_, rfl, nw, ?_⟩ (by decide)
      rw [hset 0, hset 1, hset 2, hset 3, hset 4, hset 5]
      exact hN.s0
    | 1, _ =>
      cases ho
      have hnd : done.getD 1 false = false := hnd
      rw [hnd] at hN
      have hpre := hN.pre (.inl rfl)
      intro rest n Q' hnext
      refine opsS_more (opsS_mk0 (k := n) (m := { m with nw := nw }) rfl rfl rfl r1 ?_ ?_ fun c hc => hnext _ _ ⟨.chan (some c), rfl, c :: nw, ?_⟩) (by omega)
      · intro w
        have hm := (mkch (P := Try.prog) (n := 0) Try.underlying36 (by kernel_rfl) (by decide) w).1
        simp [go_sem, execOp, Act.eval]
        erw [hm]
        rfl
      · intro w
        have hm := (mkch (P := Try.prog) (n := 0) Try.underlying36 (by kernel_rfl) (by decide) w).2 #[]
        simp [listed, go_sem, execOp, Act.eval]
        erw [hm]
        rw [seen_none]
      · rw [hset 0, hset 1, hset 2, hset 3, hset 4, hset 5]
        subst hpre
        exact hN.mk1 hc
    | 2, _ =>
      cases ho
      have hnd : done.getD 2 false = false := hnd
      rw [hnd] at hN
      have hpre := hN.pre (.inr rfl)
      intro rest n Q' hnext
      refine opsS_more (opsS_mk0 (k := n) (m := { m with nw := nw }) rfl rfl rfl r1 ?_ ?_ fun c hc => hnext _ _ ⟨.chan (some c), rfl, c :: nw, ?_⟩) (by omega)
      · intro w
        have hm := (mkch (P := Try.prog) (n := 0) Try.underlying37 (by kernel_rfl) (by decide) w).1
        simp [go_sem, execOp, Act.eval]
        erw [hm]
        rfl
      · intro w
        have hm := (mkch (P := Try.prog) (n := 0) Try.underlying37 (by kernel_rfl) (by decide) w).2 #[]
        simp [listed, go_sem, execOp, Act.eval]
        erw [hm]
        rw [seen_none]
      · rw [hset 0, hset 1, hset 2, hset 3, hset 4, hset 5]
        subst hpre
        exact hN.mk2 hc
    | 3, _ =>
      cases ho
      have d0 : done.getD 0 false = true := hdep ⟨0, .data⟩ (by simp) rfl
      have d1 : done.getD 1 false = true := hdep ⟨1, .data⟩ (by simp) rfl
      have d2 : done.getD 2 false = true := hdep ⟨2, .data⟩ (by simp) rfl
      have hnd : done.getD 3 false = false := hnd
      obtain ⟨c1, v1, _⟩ := hN.c1 d1
      obtain ⟨c2, v2, _⟩ := hN.c2 d2
      have e8 : a'.tmps[8]? = some (.func (.func fn) #[] #[]) := hF.at (k := 0) (hN.f0 d0) rfl rfl d0
      have e9 : a'.tmps[9]? = some (.chan (some c1)) := hF.at (k := 1) v1 rfl rfl d1
      have e10 : a'.tmps[10]? = some (.chan (some c2)) := hF.at (k := 2) v2 rfl rfl d2
      have hbld := fun w => run_build (P := Try.prog) w 59 #[(0, .func (.func fn) #[] #[]), (1, .chan (some c1)), (2, .chan (some c2))] (poolCells fn c1 c2) (by kernel_rfl)
      refine opS_pure (.agg (poolCells fn c1 c2)) rfl rfl (by intro w; simp [go_sem, execOp, e8, e9, e10, hbld]) (by intro w; simp [go_sem, execOp, e8, e9, e10, ev_build]) ⟨_, rfl, nw, ?_⟩ (by decide)
      rw [hset 0, hset 1, hset 2, hset 3, hset 4, hset 5]
      rw [d1, d2, hnd] at hN
      rw [d1, d2]
      exact hN.bd3 v1 v2
    | 4, _ =>
      cases ho
      have d3 : done.getD 3 false = true := hdep ⟨3, .data⟩ (by simp) rfl
      have hnd : done.getD 4 false = false := hnd
      obtain ⟨_, _, c1, c2, v1, v2, v3⟩ := hN.b3 d3
      have hpre := hN.no4 hnd
      have n5 : done.getD 5 false = false := by
        cases h5 : done.getD 5 false with
        | false => rfl
        | true =>
          have := (hN.s5 h5).1
          rw [hnd] at this; cases this
      have e11 : a'.tmps[11]? = some (.agg (poolCells fn c1 c2)) := hF.at (k := 3) v3 rfl rfl d3
      intro rest n Q' hnext
      refine opsS_more (opsS_add (k := n) (r := fun bk => .pointer (some ⟨bk, 0, none⟩)) (cs := poolCells fn c1 c2) (ty := 59) poolVirg rfl rfl hfit.live hfit.vm ?_ ?_ fun bk hbk => hnext _ _ ⟨.pointer (some ⟨bk, 0, none⟩), rfl, nw, ?_⟩) (by omega)
      · intro w hS
        simp [go_sem, execOp, Act.eval, e11]
      · intro w hS
        simp [listed, go_sem, execOp, Act.eval, e11, seen_none]
      · rw [hset 0, hset 1, hset 2, hset 3, hset 4, hset 5]
        subst hpre
        rw [d3, hnd, n5] at hN
        rw [d3, n5]
        exact hN.bx4 v1 v2 hbk
    | 5, _ =>
      cases ho
      have d4 : done.getD 4 false = true := hdep ⟨4, .data⟩ (by simp) rfl
      have e12 : a'.tmps[12]? = some (v 4) := hF.at (k := 4) rfl rfl rfl d4
      refine opS_pure (v 4) rfl rfl (by intro w; simp [go_sem, execOp, e12]) (by intro w; simp [go_sem, execOp, e12]) ⟨_, rfl, nw, ?_⟩ (by decide)
      rw [hset 0, hset 1, hset 2, hset 3, hset 4, hset 5]
      rw [d4] at hN
      rw [d4]
      exact hN.as5
  · rintro v done a' L' hs0 hall hF heq ⟨nw, hN⟩
    obtain ⟨_, bk, c1, c2, v4, v1, v2, hbk, hL'⟩ := hN.x4 (hall 4 (by decide))
    obtain ⟨c1', v1', m1⟩ := hN.c1 (hall 1 (by decide))
    obtain ⟨c2', v2', m2⟩ := hN.c2 (hall 2 (by decide))
    rw [v1] at v1'
    cases v1'
    rw [v2] at v2'
    cases v2'
    have hne := hN.ne (hall 1 (by decide)) (hall 2 (by decide))
    refine ⟨rfl, hF.defers, hF.size.trans sz, fun s hs => ?_, bk, c1, c2, nw, hF.at (k := 5) ((hN.s5 (hall 5 (by decide))).2.trans v4) rfl rfl (hall 5 (by decide)), m1, m2, fun e => hne (by rw [v1, v2, e]), hbk, hL'⟩
    have hno : ∀ s, s < 5 → (List.all (#[(8 : Nat), 9, 10, 11, 12, 5] : Array Nat).toList fun t => t != s) = true := by decide
    have := hno s hs
    refine hF.no s fun k o ho hd => ?_
    exfalso
    obtain ⟨hk, _⟩ := Array.getElem?_eq_some_iff.1 ho
    match k, hk with
    | 0, _ | 1, _ | 2, _ | 3, _ | 4, _ | 5, _ => cases ho; cases hd; omega
  decide
end Go.Proofs.Ytaceedenkmccdaa

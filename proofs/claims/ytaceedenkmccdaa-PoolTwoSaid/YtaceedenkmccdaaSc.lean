/- Pools: the walk of those who ask for All: one question. -/
import Derived.Test.YtaceedenkmccdaaSb
namespace Go.Proofs.Ytaceedenkmccdaa
open Go Go.Conc Go.ConcN
set_option linter.unusedSimpArgs false
set_option linter.unusedVariables false
variable {X : Cx} {i : Nat} {L L' : Lo} {Post : Value → Lo → Prop}
set_option maxRecDepth 100000
set_option maxHeartbeats 4000000
noncomputable def aR4 : Code := match Try.f17.body with | some (.seq _ (.seq _ (.block _ (.loop (.seq _ (.seq (.block _ r) _)))))) => r | _ => .skip
/-- How far a question is. -/
def AStage (ap : Nat → Int → Int) (A : AllG) (zs : List Nat) (z : Nat) (f : Bool) (L : Lo) (d7 d12 : Bool) (L' : Lo) : Prop :=
  match d12, d7 with
  | true, _ => ∃ L2, Grows L L2 ∧ (∃ b, L2.role = .asker A zs (some (z, b)) f ∧ (b = true ∨ A.cl = true ∨ A.p = none)) ∧ L2.q = none ∧ L' = L2.sets ⟨A.bo, z, none⟩ (.int .i64 (A.val ap (A.items.getD z 0)))
  | false, true => Grows L L' ∧ (∃ b, L'.role = .asker A zs (some (z, b)) f ∧ (b = true ∨ A.cl = true ∨ A.p = none)) ∧ L'.q = none
  | false, false => L' = L
theorem AStage.two {ap : Nat → Int → Int} {A : AllG} {zs : List Nat} {z : Nat} {f d7 : Bool} {L L' : Lo} (h : ∃ L2, Grows L L2 ∧ (∃ b, L2.role = .asker A zs (some (z, b)) f ∧ (b = true ∨ A.cl = true ∨ A.p = none)) ∧ L2.q = none ∧ L' = L2.sets ⟨A.bo, z, none⟩ (.int .i64 (A.val ap (A.items.getD z 0)))) : AStage ap A zs z f L d7 true L' := h
theorem w_fill17 [Inhabited Base] (hP : X.P = Try.prog) (hCW : X.CW = 10000) {A : AllG} {bi bp bt : Nat} {sb : Addr} {cap : Nat} {a : Act} {zs : List Nat} {z : Nat} {f : Bool} (hz : z < A.items.length) (hA0 : AskS A i L bi bp bt sb cap) (hr0 : L.role = .asker A zs (some (z, false)) f) (hE0 : HasE L ⟨A.bo, z, none⟩)
    (sz : a.tmps.size = 26) (h2 : a.tmps[2]? = some (.pointer (some ⟨bi, 0, none⟩))) (h3 : a.tmps[3]? = some (.pointer (some ⟨bp, 0, none⟩))) (h4 : a.tmps[4]? = some (.pointer (some ⟨bt, 0, none⟩))) (h5 : a.tmps[5]? = some (.int .i64 z)) :
    wpS X i 17 aR4 136000 (fun e a' L' => e = .normal ∧ a'.defers = a.defers ∧ a'.tmps.size = 26 ∧ (∀ s, s < 5 → a'.tmps[s]? = a.tmps[s]?) ∧ AStage X.ap A zs z f L true true L') a L := by
  (obtain ⟨P, ap, SelAt, CI, CW, Q⟩ := X; dsimp only at hP; subst hP)
  dsimp only at hCW
  subst hCW
  dsimp only [aR4, Try.f17]
  have hlt : z < A.items.length := hz
  co_apply wpS_more
  co_apply wpS_fill (fun | 0 => .slice (some ⟨A.bo, 0, none⟩) A.items.length A.items.length | 1 => .int .i64 z | 2 => .pointer (A.p.map fun p => ⟨p.b, 0, none⟩) | 3 => .slice (some sb) A.items.length cap | 4 => .int .i64 z | 5 => .pointer (some (sb.add z)) | 6 => .int .i64 (A.items.getD z 0) | 7 => .tuple #[.int .i64 (A.val ap (A.items.getD z 0)), .bool (A.p.isSome && !A.cl)] | 8 => .tuple #[.int .i64 (A.val ap (A.items.getD z 0)), .bool (A.p.isSome && !A.cl)] | 9 => .int .i64 (A.val ap (A.items.getD z 0)) | 10 => .bool (A.p.isSome && !A.cl) | 11 => .pointer (some ⟨A.bo, z, none⟩) | _ => undef) (fun done L' => (done.getD 12 false = true → done.getD 7 false = true) ∧ AStage ap A zs z f L (done.getD 7 false) (done.getD 12 false) L') 10450
  · rw [sz]; kernel_rfl
  · exact (hA0.fit hr0).live.nl
  · exact ⟨fun h => by simp at h, rfl⟩
  · intro done j o a' L' hs0 ho hnd hdep hF hSt0
    obtain ⟨h127, hSt⟩ := hSt0
    obtain ⟨hlt', _⟩ := Array.getElem?_eq_some_iff.1 ho
    have hkeep : ∀ j, j ≠ 7 → j ≠ 12 → ((done.setIfInBounds j true).getD 12 false = true → (done.setIfInBounds j true).getD 7 false = true) ∧ AStage ap A zs z f L ((done.setIfInBounds j true).getD 7 false) ((done.setIfInBounds j true).getD 12 false) L' := fun j h7 h12 => by
      have e : ∀ k, k ≠ j → (done.setIfInBounds j true).getD k false = done.getD k false := fun k hk => by
        by_cases hlt : j < done.size
        · rw [done_set hlt, if_neg hk]
        · rw [show done.setIfInBounds j true = done from by simp [Array.setIfInBounds, hlt]]
      rw [e 7 (Ne.symm h7), e 12 (Ne.symm h12)]
      exact ⟨h127, hSt⟩
    have hA : AskS A i L' bi bp bt sb cap := by
      have := hSt
      unfold AStage at this
      split at this
      · obtain ⟨L2, q1, _, q3, rfl⟩ := this
        exact (hA0.grow q1 q3).put
      · exact hA0.grow this.1 this.2.2
      · rw [this]; exact hA0
    have hfit : Fit L' := by
      have := hSt
      unfold AStage at this
      split at this
      · obtain ⟨L2, q1, ⟨b, q2, _⟩, q3, rfl⟩ := this
        exact ((hA0.grow q1 q3).put (z := z)).fit q2
      · obtain ⟨b, q2, _⟩ := this.2.1
        exact hA.fit q2
      · rw [this]; exact hA0.fit hr0
    match j, hlt' with
    | 0, _ =>
      cases ho
      have e4 : a'.tmps[4]? = some (.pointer (some ⟨bt, 0, none⟩)) := hF.base rfl h4
      exact opS_read _ rfl rfl hfit.live hfit.vm (by intro w hS; have hc := (hA.s4.sees).know w hS; simp [go_sem, execOp, hc, e4, hlt]) (by intro w hS e he; have hc := (hA.s4.sees).know w hS; have hm := mem_listed he; simp [go_sem, execOp, hc, e4, hlt] at hm; subst hm; exact (hA.s4.sees).ev _) ⟨rfl, hkeep 0 (by decide) (by decide)⟩ (by decide)
    | 1, _ =>
      cases ho
      have e5 : a'.tmps[5]? = some (.int .i64 z) := hF.base rfl h5
      exact opS_pure _ rfl rfl (by intro w; simp [go_sem, execOp, e5, hlt]) (by intro w; simp [go_sem, execOp, e5, hlt]) ⟨rfl, hkeep 1 (by decide) (by decide)⟩ (by decide)
    | 2, _ =>
      cases ho
      have e3 : a'.tmps[3]? = some (.pointer (some ⟨bp, 0, none⟩)) := hF.base rfl h3
      exact opS_read _ rfl rfl hfit.live hfit.vm (by intro w hS; have hc := (hA.s3.sees).know w hS; simp [go_sem, execOp, hc, e3, hlt]) (by intro w hS e he; have hc := (hA.s3.sees).know w hS; have hm := mem_listed he; simp [go_sem, execOp, hc, e3, hlt] at hm; subst hm; exact (hA.s3.sees).ev _) ⟨rfl, hkeep 2 (by decide) (by decide)⟩ (by decide)
    | 3, _ =>
      cases ho
      have e2 : a'.tmps[2]? = some (.pointer (some ⟨bi, 0, none⟩)) := hF.base rfl h2
      exact opS_read _ rfl rfl hfit.live hfit.vm (by intro w hS; have hc := (hA.s2.sees).know w hS; simp [go_sem, execOp, hc, e2, hlt]) (by intro w hS e he; have hc := (hA.s2.sees).know w hS; have hm := mem_listed he; simp [go_sem, execOp, hc, e2, hlt] at hm; subst hm; exact (hA.s2.sees).ev _) ⟨rfl, hkeep 3 (by decide) (by decide)⟩ (by decide)
    | 4, _ =>
      cases ho
      have e5 : a'.tmps[5]? = some (.int .i64 z) := hF.base rfl h5
      exact opS_pure _ rfl rfl (by intro w; simp [go_sem, execOp, e5, hlt]) (by intro w; simp [go_sem, execOp, e5, hlt]) ⟨rfl, hkeep 4 (by decide) (by decide)⟩ (by decide)
    | 5, _ =>
      cases ho
      have d3 : done.getD 3 false = true := hdep ⟨3, .data⟩ (by simp) rfl
      have d4 : done.getD 4 false = true := hdep ⟨4, .data⟩ (by simp) rfl
      have e18 : a'.tmps[18]? = some (.slice (some sb) A.items.length cap) := hF.at (k := 3) rfl rfl rfl d3
      have e19 : a'.tmps[19]? = some (.int .i64 z) := hF.at (k := 4) rfl rfl rfl d4
      exact opS_pure _ rfl rfl (by intro w; simp [go_sem, execOp, e18, e19, hlt]) (by intro w; simp [go_sem, execOp, e18, e19, hlt]) ⟨rfl, hkeep 5 (by decide) (by decide)⟩ (by decide)
    | 6, _ =>
      cases ho
      have d5 : done.getD 5 false = true := hdep ⟨5, .data⟩ (by simp) rfl
      have e20 : a'.tmps[20]? = some (.pointer (some (sb.add z))) := hF.at (k := 5) rfl rfl rfl d5
      exact opS_read _ rfl rfl hfit.live hfit.vm (by intro w hS; have hc := ((hA.items z hz).sees).know w hS; simp [go_sem, execOp, hc, e20, hlt]) (by intro w hS e he; have hc := ((hA.items z hz).sees).know w hS; have hm := mem_listed he; simp [go_sem, execOp, hc, e20, hlt] at hm; subst hm; exact ((hA.items z hz).sees).ev _) ⟨rfl, hkeep 6 (by decide) (by decide)⟩ (by decide)
    | 7, _ =>
      cases ho
      have d2 : done.getD 2 false = true := hdep ⟨2, .data⟩ (by simp) rfl
      have d6 : done.getD 6 false = true := hdep ⟨6, .data⟩ (by simp) rfl
      have e17 : a'.tmps[17]? = some (.pointer (A.p.map fun p => ⟨p.b, 0, none⟩)) := hF.at (k := 2) rfl rfl rfl d2
      have e21 : a'.tmps[21]? = some (.int .i64 (A.items.getD z 0)) := hF.at (k := 6) rfl rfl rfl d6
      have hL' : L' = L := by
        have := hSt
        unfold AStage at this
        have d12 : done.getD 12 false = false := by
          cases hx : done.getD 12 false with
          | false => rfl
          | true => rw [hx] at this; exact absurd (h127 hx) (by rw [hnd]; simp)
        rw [d12, hnd] at this
        exact this
      subst hL'
      refine opS_call (nf := 10400) (Post := fun r L'' => r = .tuple #[.int .i64 (A.val ap (A.items.getD z 0)), .bool (A.p.isSome && !A.cl)] ∧ Grows L' L'' ∧ (∃ b, L''.role = .asker A zs (some (z, b)) f ∧ (b = true ∨ A.cl = true ∨ A.p = none)) ∧ L''.q = none) rfl rfl rfl Try.func11 rfl rfl ?_ (fun r L'' hr => ?_) (by decide)
      · simp only [List.map_toArray, List.map_cons, List.map_nil, Act.eval, Array.getD_eq_getD_getElem?, e17, e21, Option.getD_some]
        exact w_askA (X := ⟨Try.prog, ap, SelAt, CI, 10000, Q⟩) rfl rfl hA0 hr0
      · obtain ⟨rfl, q1, q2, q3⟩ := hr
        refine ⟨rfl, ?_⟩
        have e12 : (done.setIfInBounds 7 true).getD 12 false = done.getD 12 false := by rw [done_set (by rw [hs0]; decide), if_neg (by decide)]
        have d12 : done.getD 12 false = false := by
          cases hx : done.getD 12 false with
          | false => rfl
          | true => exact absurd (h127 hx) (by rw [hnd]; simp)
        unfold AStage
        rw [e12, d12, done_set (by rw [hs0]; decide), if_pos rfl]
        exact ⟨fun h => (by cases h), q1, q2, q3⟩
    | 8, _ =>
      cases ho
      have d7 : done.getD 7 false = true := hdep ⟨7, .data⟩ (by simp) rfl
      have e22 : a'.tmps[22]? = some (.tuple #[.int .i64 (A.val ap (A.items.getD z 0)), .bool (A.p.isSome && !A.cl)]) := hF.at (k := 7) rfl rfl rfl d7
      exact opS_pure _ rfl rfl (by intro w; simp [go_sem, execOp, e22, hlt]) (by intro w; simp [go_sem, execOp, e22, hlt]) ⟨rfl, hkeep 8 (by decide) (by decide)⟩ (by decide)
    | 9, _ =>
      cases ho
      have d8 : done.getD 8 false = true := hdep ⟨8, .data⟩ (by simp) rfl
      have e14 : a'.tmps[14]? = some (.tuple #[.int .i64 (A.val ap (A.items.getD z 0)), .bool (A.p.isSome && !A.cl)]) := hF.at (k := 8) rfl rfl rfl d8
      exact opS_pure _ rfl rfl (by intro w; simp [go_sem, execOp, e14, hlt]) (by intro w; simp [go_sem, execOp, e14, hlt]) ⟨rfl, hkeep 9 (by decide) (by decide)⟩ (by decide)
    | 10, _ =>
      cases ho
      have d8 : done.getD 8 false = true := hdep ⟨8, .data⟩ (by simp) rfl
      have e14 : a'.tmps[14]? = some (.tuple #[.int .i64 (A.val ap (A.items.getD z 0)), .bool (A.p.isSome && !A.cl)]) := hF.at (k := 8) rfl rfl rfl d8
      exact opS_pure _ rfl rfl (by intro w; simp [go_sem, execOp, e14, hlt]) (by intro w; simp [go_sem, execOp, e14, hlt]) ⟨rfl, hkeep 10 (by decide) (by decide)⟩ (by decide)
    | 11, _ =>
      cases ho
      have d0 : done.getD 0 false = true := hdep ⟨0, .data⟩ (by simp) rfl
      have d1 : done.getD 1 false = true := hdep ⟨1, .data⟩ (by simp) rfl
      have d2 : done.getD 2 false = true := hdep ⟨2, .phase⟩ (by simp) rfl
      have d3 : done.getD 3 false = true := hdep ⟨3, .phase⟩ (by simp) rfl
      have d4 : done.getD 4 false = true := hdep ⟨4, .phase⟩ (by simp) rfl
      have d5 : done.getD 5 false = true := hdep ⟨5, .phase⟩ (by simp) rfl
      have d6 : done.getD 6 false = true := hdep ⟨6, .phase⟩ (by simp) rfl
      have d7 : done.getD 7 false = true := hdep ⟨7, .phase⟩ (by simp) rfl
      have d8 : done.getD 8 false = true := hdep ⟨8, .phase⟩ (by simp) rfl
      have d9 : done.getD 9 false = true := hdep ⟨9, .phase⟩ (by simp) rfl
      have e15 : a'.tmps[15]? = some (.slice (some ⟨A.bo, 0, none⟩) A.items.length A.items.length) := hF.at (k := 0) rfl rfl rfl d0
      have e16 : a'.tmps[16]? = some (.int .i64 z) := hF.at (k := 1) rfl rfl rfl d1
      exact opS_pure _ rfl rfl (by intro w; simp [go_sem, execOp, e15, e16, hlt]) (by intro w; simp [go_sem, execOp, e15, e16, hlt]) ⟨rfl, hkeep 11 (by decide) (by decide)⟩ (by decide)
    | 12, _ =>
      cases ho
      have d11 : done.getD 11 false = true := hdep ⟨11, .data⟩ (by simp) rfl
      have d9 : done.getD 9 false = true := hdep ⟨9, .data⟩ (by simp) rfl
      have d7 : done.getD 7 false = true := hdep ⟨7, .chain⟩ (by simp) rfl
      have d0 : done.getD 0 false = true := hdep ⟨0, .phase⟩ (by simp) rfl
      have d1 : done.getD 1 false = true := hdep ⟨1, .phase⟩ (by simp) rfl
      have d2 : done.getD 2 false = true := hdep ⟨2, .phase⟩ (by simp) rfl
      have d3 : done.getD 3 false = true := hdep ⟨3, .phase⟩ (by simp) rfl
      have d4 : done.getD 4 false = true := hdep ⟨4, .phase⟩ (by simp) rfl
      have d5 : done.getD 5 false = true := hdep ⟨5, .phase⟩ (by simp) rfl
      have d6 : done.getD 6 false = true := hdep ⟨6, .phase⟩ (by simp) rfl
      have d8 : done.getD 8 false = true := hdep ⟨8, .phase⟩ (by simp) rfl
      have e23 : a'.tmps[23]? = some (.int .i64 (A.val ap (A.items.getD z 0))) := hF.at (k := 9) rfl rfl rfl d9
      have e25 : a'.tmps[25]? = some (.pointer (some ⟨A.bo, z, none⟩)) := hF.at (k := 11) rfl rfl rfl d11
      have hst := hSt
      unfold AStage at hst
      rw [hnd, d7] at hst
      obtain ⟨q1, ⟨b, q2, q2'⟩, q3⟩ : Grows L L' ∧ (∃ b, L'.role = .asker A zs (some (z, b)) f ∧ (b = true ∨ A.cl = true ∨ A.p = none)) ∧ L'.q = none := hst
      have hE := q1.hase hE0
      intro rest n Q' hnext
      refine opsS_more (opsS_putE (k := n) (v := .int .i64 (A.val ap (A.items.getD z 0))) hE rfl rfl hfit.live hfit.vm ?_ ?_ (hnext _ _ ⟨rfl, ?_⟩)) (by omega)
      · intro w u hu hz
        simp [go_sem, execOp, Act.eval, e23, e25, hu, hz]
      · intro w u hu hz e he
        have hm := mem_listed he
        simp [go_sem, execOp, Act.eval, e23, e25, hu, hz] at hm
        exact hm
      · rw [done_set (j := 12) (k := 12) (by rw [hs0]; decide), if_pos rfl]
        refine ⟨fun _ => ?_, AStage.two ⟨L', q1, ⟨b, q2, q2'⟩, q3, rfl⟩⟩
        rw [done_set (by rw [hs0]; decide), if_neg (by decide)]; exact d7
  · intro done a' L' hs0 hall hF heq hSt
    refine ⟨rfl, hF.defers, hF.size.trans sz, fun s hs => ?_, ?_⟩
    · have hno : ∀ s, s < 5 → (List.all (#[(15 : Nat), 16, 17, 18, 19, 20, 21, 22, 14, 23, 24, 25] : Array Nat).toList fun t => t != s) = true := by decide
      have := hno s hs
      refine hF.no s fun k o ho hd => ?_
      exfalso
      obtain ⟨hk, _⟩ := Array.getElem?_eq_some_iff.1 ho
      match k, hk with
      | 0, _ | 1, _ | 2, _ | 3, _ | 4, _ | 5, _ | 6, _ | 7, _ | 8, _ | 9, _ | 10, _ | 11, _ => cases ho; cases hd; omega
      | 12, _ => cases ho; cases hd
    · have := hSt.2
      rw [hall 7 (by decide), hall 12 (by decide)] at this
      exact this
  decide
end Go.Proofs.Ytaceedenkmccdaa

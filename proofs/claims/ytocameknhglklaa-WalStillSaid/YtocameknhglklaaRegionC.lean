/- A region that draws its order, walked in one order (as XRegion), where a CALL that hands back one value and leaves the world as it is, in every world that meets S, is held too. -/
import Derived.Test.YtocameknhglklaaRegion
namespace Go.Proofs.Ytocameknhglklaa
open Go

section
variable {P : Program} {ops : Array Oper} {Q : Exit → Act → World → Prop} {md : Region.Mode} {S : World → Prop} {z : Nat}

/-- In every world that meets S the operation comes to one value, by itself or by a call that leaves the world as it is. -/
def YieldsC (P : Program) (ops : Array Oper) (S : World → Prop) (o : Oper) (v : Value) (a : Act) : Prop :=
  (Region.wanted o (yielded ops a.tmps) = true ∧ ∀ w, S w → (execOp a.eval o).run P w = .ok (.value v) w ∨ ∃ f args, (execOp a.eval o).run P w = .ok (.enter f args) w ∧ Calls P f args w fun e w' => e = .returned v ∧ w = w') ∨
  (Region.wanted o (yielded ops a.tmps) = false ∧ v = undef)

theorem YieldsC.wpOp {i : Nat} {o : Oper} {v : Value} {a : Act} (hi : ops[i]? = some o) (hy : YieldsC P ops S o v a)
    {K : Act → World → Prop} {w : World} (hS : S w) (h : K (a.put o.dst v) w) : wpOp P ops Q i K a w := by
  unfold Go.wpOp
  simp only [hi]
  rcases hy with ⟨hw, hv⟩ | ⟨hw, rfl⟩
  · simp only [hw, if_true]
    refine .inl ?_
    rcases hv w hS with hv | ⟨f, args, hv, hc⟩
    · simp only [Oper.wp, hv, Oper.upon]; exact h
    · simp only [Oper.wp, hv, Oper.upon]
      refine Calls.mono hc ?_
      rintro e w' ⟨rfl, rfl⟩
      exact h
  · simp only [hw, Bool.false_eq_true, if_false]; exact h

theorem YieldsC.of_same {o : Oper} {v : Value} {a a' : Act} (hy : YieldsC P ops S o v a) (he : execOp a'.eval o = execOp a.eval o)
    (hw : Region.wanted o (yielded ops a'.tmps) = Region.wanted o (yielded ops a.tmps)) : YieldsC P ops S o v a' := by
  unfold YieldsC at *
  rw [he, hw]
  exact hy

/-- Another operation, apart from oi, leaves what oi looks at. -/
theorem wpOp_keeps {j : Nat} {oi oj : Oper} (hj : ops[j]? = some oj) (hap : oi.apart ops oj = true) (hsi : ∀ cs b, oi.op ≠ .select cs b) {K : Act → World → Prop} {a : Act} {w : World} (h : wpOp P ops Q j K a w) :
    wpOp P ops Q j (fun a' w' => (execOp a'.eval oi = execOp a.eval oi ∧ Region.wanted oi (yielded ops a'.tmps) = Region.wanted oi (yielded ops a.tmps)) ∧ K a' w') a w := by
  have h3 := (Oper.apart_spec hap).2.2
  have same : ∀ (b : Act) u, execOp (b.put oj.dst u).eval oi = execOp b.eval oi ∧ Region.wanted oi (yielded ops (b.put oj.dst u).tmps) = Region.wanted oi (yielded ops b.tmps) := fun b u =>
    ⟨execOp_put oi hsi b oj.dst u h3, wanted_put oi b oj.dst u h3⟩
  unfold wpOp at *
  simp only [hj] at *
  by_cases hw : Region.wanted oj (yielded ops a.tmps) = true
  · simp only [hw, if_true] at h ⊢
    refine h.imp (fun h => ?_) id
    unfold Oper.wp at *
    generalize (execOp a.eval oj).run P w = r at *
    match r, h with
    | .ok (.value u) w', h => exact ⟨same a u, h⟩
    | .ok .skip w', h => exact ⟨same a undef, h⟩
    | .ok (.defer d) w', h => exact ⟨same { a with defers := d :: a.defers } undef, h⟩
    | .ok (.enter f args) w', h =>
      refine Calls.mono h fun e w'' he => ?_
      cases e with
      | returned u => exact ⟨same a u, he⟩
      | panicked c => exact he
      | outgrown => exact he
    | .ok (.row row args) w', h => exact Rows.mono h fun u w'' he => ⟨same a u, he⟩
    | .halt (.panic u) w', h => exact h
  · simp only [hw] at h ⊢
    exact ⟨same a undef, h⟩

theorem wpOp_putC {j : Nat} {oi oj : Oper} {v : Value} (hj : ops[j]? = some oj) (hap : oi.apart ops oj = true)
    (hsi : ∀ cs b, oi.op ≠ .select cs b) (hsj : ∀ cs b, oj.op ≠ .select cs b)
    (hQ : ∀ c a w, Q (.panic c) (a.put oi.dst v) w → Q (.panic c) a w) {K : Act → World → Prop} {a : Act} {w : World}
    (hy : YieldsC P ops S oi v a) (h : wpOp P ops Q j K (a.put oi.dst v) w) :
    wpOp P ops Q j (fun a' w' => YieldsC P ops S oi v a' ∧ K (a'.put oi.dst v) w') a w := by
  have hF : YieldsIf P ops (fun _ => False) oi v a := hy.imp (fun h => ⟨h.1, fun _ h => h.elim⟩) id
  refine wpOp_mono (fun a' w' h3 => ⟨hy.of_same h3.1.1 h3.1.2, h3.2.2⟩) (wpOp_keeps hj hap hsi (wpOp_putIf hj hap hsi hsj hQ hF h))

theorem wpAnyZ_firstC {i : Nat} {oi : Oper} {v : Value} (hi : ops[i]? = some oi) (hsel : ∀ (j : Nat) (o : Oper) cs b, ops[j]? = some o → o.op ≠ .select cs b)
    (hQ : ∀ d v c a w, Q (.panic c) (Act.put a d v) w → Q (.panic c) a w) (hz : sinkOk md ops z = true) (hiz : i ≠ z) :
    ∀ (fuel : Nat) (listed : Array Bool) (a : Act) (w : World), (z < ops.size → HeadInv md ops z listed) →
      (∀ j oj, ops[j]? = some oj → j ≠ i → listed.getD j true = false → (∀ e ∈ oj.after, Region.binds md e = true → e.on ≠ i) → oi.apart ops oj = true) →
      i ∈ Region.ready md ops listed → YieldsC P ops S oi v a → S w →
      wpAnyZ P md ops Q S z fuel (listed.setIfInBounds i true) (a.put oi.dst v) w → wpAnyZ P md ops Q S z (fuel + 1) listed a w := by
  intro fuel
  induction fuel with
  | zero =>
    intro listed a w _ _ hr hy hS H
    refine ⟨fun h => absurd h (ne_nil_of_mem hr), fun j hj => ?_⟩
    by_cases hji : j = i
    · subst hji; exact hy.wpOp hi hS ⟨fun _ => hS, H⟩
    · have h2 := ready_mono hj hji
      rw [H.1] at h2
      cases h2
  | succ fuel ih =>
    intro listed a w inv hfree hr hy hS H
    refine ⟨fun h => absurd h (ne_nil_of_mem hr), fun j hj => ?_⟩
    by_cases hji : j = i
    · subst hji; exact hy.wpOp hi hS ⟨fun _ => hS, H⟩
    · have hjz := not_sink hz inv hr hiz hj
      have h1 := H.2 j (ready_mono hj hji)
      obtain ⟨hjun, oj, hoj, hall⟩ := mem_ready.1 hj
      have hun := (mem_ready.1 hr).1
      have hnot : ∀ e ∈ oj.after, Region.binds md e = true → e.on ≠ i := fun e he hb heq => by
        have h3 := hall e he hb
        rw [heq, getD_both hun] at h3
        cases h3
      have h2 := wpOp_putC hoj (hfree j oj hoj hji hjun hnot) (fun cs b => hsel i oi cs b hi) (fun cs b => hsel j oj cs b hoj) (hQ oi.dst v) hy h1
      have hfree' : ∀ k ok, ops[k]? = some ok → k ≠ i → (listed.setIfInBounds j true).getD k true = false →
          (∀ e ∈ ok.after, Region.binds md e = true → e.on ≠ i) → oi.apart ops ok = true := fun k ok hk hki hk2 hno => by
        refine hfree k ok hk hki ?_ hno
        by_cases hjk : j = k
        · subst hjk; exact hjun
        · rw [getD_set_ne true hjk] at hk2; exact hk2
      refine wpOp_mono (fun a' w' h3 => ?_) h2
      obtain ⟨hya, hS', H'⟩ := h3
      refine ⟨fun _ => hS' hjz, ih (listed.setIfInBounds j true) a' w' (inv_set hz inv hj hjz) hfree' (ready_mono hr (Ne.symm hji)) hya (hS' hjz) ?_⟩
      rw [Array.setIfInBounds_comm _ _ hji]
      exact H'

/-- The walk along a plan. -/
def wpPlanC (P : Program) (ops : Array Oper) (Q : Exit → Act → World → Prop) (S : World → Prop) (z : Nat) : List (Nat × Bool) → Act → World → Prop
  | [], a, w => Q .normal a w
  | (i, true) :: r, a, w => ∃ oi v, ops[i]? = some oi ∧ YieldsC P ops S oi v a ∧ wpPlanC P ops Q S z r (a.put oi.dst v) w
  | (i, false) :: r, a, w => wpOp P ops Q i (fun a' w' => (i ≠ z → S w') ∧ wpPlanC P ops Q S z r a' w') a w

theorem wpAnyZ_of_planC (hsel : Region.noSelect ops = true) (hQ : ∀ d v c a w, Q (.panic c) (Act.put a d v) w → Q (.panic c) a w) (hz : sinkOk md ops z = true) :
    ∀ (plan : List (Nat × Bool)) (listed : Array Bool) (a : Act) (w : World), (plan ≠ [] → z < ops.size → HeadInv md ops z listed) → planOk md ops z plan listed = true → (plan ≠ [] → S w) →
      wpPlanC P ops Q S z plan a w → wpAnyZ P md ops Q S z plan.length listed a w
  | [], listed, a, w, _, hB, _, h => ⟨by simpa [planOk] using hB, h⟩
  | (i, true) :: r, listed, a, w, inv, hB, hS, h => by
    obtain ⟨oi, v, hi, hy, hr⟩ := h
    simp only [planOk, Bool.and_eq_true, decide_eq_true_eq] at hB
    obtain ⟨⟨⟨hiz, hc⟩, hf⟩, hB'⟩ := hB
    have hrd : i ∈ Region.ready md ops listed := by simpa using hc
    have inv0 := inv (by simp)
    exact wpAnyZ_firstC hi (Region.noSelect_spec hsel) hQ hz hiz r.length listed a w inv0 (Region.free_spec hi hf) hrd hy (hS (by simp))
      (wpAnyZ_of_planC hsel hQ hz r _ _ _ (fun _ => inv_set hz inv0 hrd hiz) hB' (fun _ => hS (by simp)) hr)
  | (i, false) :: r, listed, a, w, inv, hB, hS, h => by
    simp only [planOk, Bool.and_eq_true, decide_eq_true_eq] at hB
    obtain ⟨⟨hrd, hzr⟩, hB'⟩ := hB
    have inv0 := inv (by simp)
    refine ⟨fun h0 => (by rw [hrd] at h0; cases h0), fun j hj => ?_⟩
    have hj' : j = i := by rw [hrd] at hj; simpa using hj
    subst hj'
    refine wpOp_mono (fun a' w' h3 => ⟨h3.1, ?_⟩) h
    refine wpAnyZ_of_planC hsel hQ hz r _ _ _ (fun hr => inv_set hz inv0 hj (fun e => hr (hzr e))) hB' (fun hr => h3.1 (fun e => hr (hzr e))) h3.2

theorem wp_region_planC {id : Nat} {a : Act} {w : World} {l : List Oper} (S : World → Prop) (z : Nat) (plan : List (Nat × Bool)) (hm : P.follows .mixedOrders = true)
    (hB : (Region.noSelect l.toArray && sinkOk .any l.toArray z && decide (plan.length = l.length) && planOk .any l.toArray z plan (Array.replicate l.length false)) = true)
    (hQ : ∀ d v c a w, Q (.panic c) (Act.put a d v) w → Q (.panic c) a w) (hS : S w.drew)
    (h : wpPlanC P l.toArray Q S z plan a w.drew) : (Code.region id l.toArray true).wp P Q a w := by
  simp only [Bool.and_eq_true, decide_eq_true_eq] at hB
  obtain ⟨⟨⟨hsel, hz⟩, hlen⟩, hp⟩ := hB
  refine wp_region_any hm ?_
  have inv0 : z < l.toArray.size → HeadInv .any l.toArray z (Array.replicate l.toArray.size false) := fun _ =>
    ⟨by simp, fun j oj _ hl => (by rw [getD_replicate_false] at hl; cases hl), fun t _ ht => getD_in (by simpa using ht) (getD_replicate_false _ _)⟩
  have H := wpAnyZ_of_planC (md := .any) (S := S) (z := z) hsel hQ hz plan (Array.replicate l.length false) a w.drew (fun _ hlt => by simpa using inv0 hlt) hp (fun _ => hS) h
  have := wpAny_of_Z _ _ _ _ H
  rw [hlen] at this
  simpa using this

theorem planC_held {o : Oper} {i : Nat} {r : List (Nat × Bool)} {a A : Act} {w : World} {d : Nat} (ho : ops[i]? = some o) (hg : o.guard = none) (hd : o.dst = some d) (hsz : d < a.tmps.size) (hS0 : S w)
    (h : ∀ w', S w' → ∀ K : Act → Prop, K A → Oper.gives P o a w' K) (hr : wpPlanC P ops Q S z r A w) : wpPlanC P ops Q S z ((i, true) :: r) a w := by
  have key : ∀ w', S w' → ∃ v, (execOp a.eval o).run P w' = .ok (.value v) w' ∧ a.put o.dst v = A := fun w' hS' => by
    have h1 := h w' hS' (fun x => x = A) rfl
    unfold Oper.gives at h1
    generalize (execOp a.eval o).run P w' = res at *
    cases res with
    | ok n w'' =>
      cases n <;> simp only [Oper.givesUpon] at h1
      case value v => obtain ⟨rfl, h2⟩ := h1; exact ⟨v, rfl, h2⟩
    | halt x w'' => simp only [Oper.givesUpon] at h1
  obtain ⟨v, hv, hA⟩ := key w hS0
  have hval : ∀ u, a.put o.dst u = A → u = v := fun u hu => by
    rw [hd] at hu hA
    have e1 := put_get (v := u) hsz
    have e2 := put_get (v := v) hsz
    rw [hu] at e1
    rw [hA] at e2
    exact e1.symm.trans e2
  refine ⟨o, v, ho, .inl ⟨by simp [Region.wanted, hg], fun w' hS' => .inl ?_⟩, by rw [hA]; exact hr⟩
  obtain ⟨u, hu, hA'⟩ := key w' hS'
  rw [hu, hval u hA']

/-- A guarded operation that isn't wanted. -/
theorem planC_skip {o : Oper} {i : Nat} {r : List (Nat × Bool)} {a : Act} {w : World} (ho : ops[i]? = some o) (hw : Region.wanted o (yielded ops a.tmps) = false)
    (hr : wpPlanC P ops Q S z r (a.put o.dst undef) w) : wpPlanC P ops Q S z ((i, true) :: r) a w :=
  ⟨o, undef, ho, .inr ⟨hw, rfl⟩, hr⟩

/-- A guarded operation that is wanted. -/
theorem planC_wanted {o : Oper} {i : Nat} {r : List (Nat × Bool)} {a A : Act} {w : World} {d : Nat} (ho : ops[i]? = some o) (hw : Region.wanted o (yielded ops a.tmps) = true) (hd : o.dst = some d) (hsz : d < a.tmps.size) (hS0 : S w)
    (h : ∀ w', S w' → ∀ K : Act → Prop, K A → Oper.gives P o a w' K) (hr : wpPlanC P ops Q S z r A w) : wpPlanC P ops Q S z ((i, true) :: r) a w := by
  have key : ∀ w', S w' → ∃ v, (execOp a.eval o).run P w' = .ok (.value v) w' ∧ a.put o.dst v = A := fun w' hS' => by
    have h1 := h w' hS' (fun x => x = A) rfl
    unfold Oper.gives at h1
    generalize (execOp a.eval o).run P w' = res at *
    cases res with
    | ok n w'' =>
      cases n <;> simp only [Oper.givesUpon] at h1
      case value v => obtain ⟨rfl, h2⟩ := h1; exact ⟨v, rfl, h2⟩
    | halt x w'' => simp only [Oper.givesUpon] at h1
  obtain ⟨v, hv, hA⟩ := key w hS0
  have hval : ∀ u, a.put o.dst u = A → u = v := fun u hu => by
    rw [hd] at hu hA
    have e1 := put_get (v := u) hsz
    have e2 := put_get (v := v) hsz
    rw [hu] at e1
    rw [hA] at e2
    exact e1.symm.trans e2
  refine ⟨o, v, ho, .inl ⟨hw, fun w' hS' => .inl ?_⟩, by rw [hA]; exact hr⟩
  obtain ⟨u, hu, hA'⟩ := key w' hS'
  rw [hu, hval u hA']

/-- An operation that comes up alone. -/
theorem planC_do {o : Oper} {i : Nat} {r : List (Nat × Bool)} {a : Act} {w : World} (ho : ops[i]? = some o)
    (h : ∀ K : Act → World → Prop, (∀ a' w', (i ≠ z → S w') → wpPlanC P ops Q S z r a' w' → K a' w') → if Region.wanted o (yielded ops a.tmps) = true then o.wp P a w K Q else K (a.put o.dst undef) w) :
    wpPlanC P ops Q S z ((i, false) :: r) a w :=
  wpOp_step ho fun K' hK => h K' fun a' w' h1 h2 => hK a' w' ⟨h1, h2⟩
theorem planC_op {o : Oper} {i : Nat} {r : List (Nat × Bool)} {a : Act} {w : World} (ho : ops[i]? = some o) (hg : o.guard = none)
    (h : ∀ K : Act → World → Prop, (∀ a' w', (i ≠ z → S w') → wpPlanC P ops Q S z r a' w' → K a' w') → o.wp P a w K Q) : wpPlanC P ops Q S z ((i, false) :: r) a w :=
  planC_do ho fun K hK => by simp only [Region.wanted, hg, if_true]; exact h K hK
theorem planC_nil {a : Act} {w : World} (h : Q .normal a w) : wpPlanC P ops Q S z [] a w := h
/-- A call that leaves the world as it is, in every world that meets S. -/
theorem planC_call {o : Oper} {i : Nat} {r : List (Nat × Bool)} {a : Act} {w : World} (v : Value) (ho : ops[i]? = some o) (hg : o.guard = none)
    (h : ∀ w', S w' → ∃ f args, (execOp a.eval o).run P w' = .ok (.enter f args) w' ∧ Calls P f args w' fun e w'' => e = .returned v ∧ w' = w'') (hr : wpPlanC P ops Q S z r (a.put o.dst v) w) : wpPlanC P ops Q S z ((i, true) :: r) a w :=
  ⟨o, v, ho, .inl ⟨by simp [Region.wanted, hg], fun w' hS' => .inr (h w' hS')⟩, hr⟩

end
end Go.Proofs.Ytocameknhglklaa

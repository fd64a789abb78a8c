/- A region that draws its order, walked in one order (as XRegionC), where what is known of the world (S) may GROW behind an operation that comes up alone. -/
import Derived.Test.YtocameknhglklaaRegionC
namespace Go.Proofs.Ytocameknhglklaa
open Go

section
variable {P : Program} {ops : Array Oper} {Q : Exit → Act → World → Prop} {md : Region.Mode} {S : World → Prop} {z : Nat}

theorem wpAnyZ_grow {S' : World → Prop} (h : ∀ w, S' w → S w) : ∀ (fuel : Nat) (listed : Array Bool) (a : Act) (w : World), wpAnyZ P md ops Q S' z fuel listed a w → wpAnyZ P md ops Q S z fuel listed a w
  | 0, _, _, _, H => H
  | fuel + 1, _, _, _, H => ⟨H.1, fun i hi => wpOp_mono (fun a' w' h' => ⟨fun hz => h _ (h'.1 hz), wpAnyZ_grow h fuel _ a' w' h'.2⟩) (H.2 i hi)⟩

/-- The walk along a plan. -/
def wpPlanD (P : Program) (ops : Array Oper) (Q : Exit → Act → World → Prop) (z : Nat) : List (Nat × Bool) → (World → Prop) → Act → World → Prop
  | [], _, a, w => Q .normal a w
  | (i, true) :: r, S, a, w => ∃ oi v, ops[i]? = some oi ∧ YieldsC P ops S oi v a ∧ wpPlanD P ops Q z r S (a.put oi.dst v) w
  | (i, false) :: r, S, a, w => wpOp P ops Q i (fun a' w' => ∃ S' : World → Prop, (∀ u, S' u → S u) ∧ (i ≠ z → S' w') ∧ wpPlanD P ops Q z r S' a' w') a w

theorem wpAnyZ_of_planD (hsel : Region.noSelect ops = true) (hQ : ∀ d v c a w, Q (.panic c) (Act.put a d v) w → Q (.panic c) a w) (hz : sinkOk md ops z = true) :
    ∀ (plan : List (Nat × Bool)) (S : World → Prop) (listed : Array Bool) (a : Act) (w : World), (plan ≠ [] → z < ops.size → HeadInv md ops z listed) → planOk md ops z plan listed = true → (plan ≠ [] → S w) →
      wpPlanD P ops Q z plan S a w → wpAnyZ P md ops Q S z plan.length listed a w
  | [], S, listed, a, w, _, hB, _, h => ⟨by simpa [planOk] using hB, h⟩
  | (i, true) :: r, S, listed, a, w, inv, hB, hS, h => by
    obtain ⟨oi, v, hi, hy, hr⟩ := h
    simp only [planOk, Bool.and_eq_true, decide_eq_true_eq] at hB
    obtain ⟨⟨⟨hiz, hc⟩, hf⟩, hB'⟩ := hB
    have hrd : i ∈ Region.ready md ops listed := by simpa using hc
    have inv0 := inv (by simp)
    exact wpAnyZ_firstC hi (Region.noSelect_spec hsel) hQ hz hiz r.length listed a w inv0 (Region.free_spec hi hf) hrd hy (hS (by simp))
      (wpAnyZ_of_planD hsel hQ hz r _ _ _ _ (fun _ => inv_set hz inv0 hrd hiz) hB' (fun _ => hS (by simp)) hr)
  | (i, false) :: r, S, listed, a, w, inv, hB, hS, h => by
    simp only [planOk, Bool.and_eq_true, decide_eq_true_eq] at hB
    obtain ⟨⟨hrd, hzr⟩, hB'⟩ := hB
    have inv0 := inv (by simp)
    refine ⟨fun h0 => (by rw [hrd] at h0; cases h0), fun j hj => ?_⟩
    have hj' : j = i := by rw [hrd] at hj; simpa using hj
    subst hj'
    refine wpOp_mono (fun a' w' h3 => ?_) h
    obtain ⟨S', hSS, hS', h4⟩ := h3
    refine ⟨fun hz => hSS _ (hS' hz), wpAnyZ_grow hSS _ _ _ _ ?_⟩
    refine wpAnyZ_of_planD hsel hQ hz r S' _ _ _ (fun hr => inv_set hz inv0 hj (fun e => hr (hzr e))) hB' (fun hr => hS' (fun e => hr (hzr e))) h4

theorem wp_region_planD {id : Nat} {a : Act} {w : World} {l : List Oper} (S : World → Prop) (z : Nat) (plan : List (Nat × Bool)) (hm : P.follows .mixedOrders = true)
    (hB : (Region.noSelect l.toArray && sinkOk .any l.toArray z && decide (plan.length = l.length) && planOk .any l.toArray z plan (Array.replicate l.length false)) = true)
    (hQ : ∀ d v c a w, Q (.panic c) (Act.put a d v) w → Q (.panic c) a w) (hS : S w.drew)
    (h : wpPlanD P l.toArray Q z plan S a w.drew) : (Code.region id l.toArray true).wp P Q a w := by
  simp only [Bool.and_eq_true, decide_eq_true_eq] at hB
  obtain ⟨⟨⟨hsel, hz⟩, hlen⟩, hp⟩ := hB
  refine wp_region_any hm ?_
  have inv0 : z < l.toArray.size → HeadInv .any l.toArray z (Array.replicate l.toArray.size false) := fun _ =>
    ⟨by simp, fun j oj _ hl => (by rw [getD_replicate_false] at hl; cases hl), fun t _ ht => getD_in (by simpa using ht) (getD_replicate_false _ _)⟩
  have H := wpAnyZ_of_planD (md := .any) (z := z) hsel hQ hz plan S (Array.replicate l.length false) a w.drew (fun _ hlt => by simpa using inv0 hlt) hp (fun _ => hS) h
  have := wpAny_of_Z _ _ _ _ H
  rw [hlen] at this
  simpa using this

theorem held_key {o : Oper} {a A : Act} {w : World} {d : Nat} (hd : o.dst = some d) (hsz : d < a.tmps.size) (hS0 : S w)
    (h : ∀ w', S w' → ∀ K : Act → Prop, K A → Oper.gives P o a w' K) : ∃ v, (∀ w', S w' → (execOp a.eval o).run P w' = .ok (.value v) w') ∧ a.put o.dst v = A := by
  have key : ∀ w', S w' → ∃ v, (execOp a.eval o).run P w' = .ok (.value v) w' ∧ a.put o.dst v = A := fun w' hS' => by
    have h1 := h w' hS' (fun x => x = A) rfl
    unfold Oper.gives at h1
    generalize (execOp a.eval o).run P w' = res at *
    cases res with
    | ok n w'' =>
      cases n <;> simp only [Oper.givesUpon] at h1
      case value v => obtain ⟨rfl, h2⟩ := h1; exact ⟨v, rfl, h2⟩
    | halt x w'' => simp only [Oper.givesUpon] at h1
  obtain ⟨v, hv, hA⟩ := key w hS0
  refine ⟨v, fun w' hS' => ?_, hA⟩
  obtain ⟨u, hu, hA'⟩ := key w' hS'
  have : u = v := by
    rw [hd] at hA hA'
    have e1 := put_get (v := u) hsz
    have e2 := put_get (v := v) hsz
    rw [hA'] at e1
    rw [hA] at e2
    exact e1.symm.trans e2
  rw [hu, this]

theorem planD_held {o : Oper} {i : Nat} {r : List (Nat × Bool)} {a A : Act} {w : World} {d : Nat} (ho : ops[i]? = some o) (hg : o.guard = none) (hd : o.dst = some d) (hsz : d < a.tmps.size) (hS0 : S w)
    (h : ∀ w', S w' → ∀ K : Act → Prop, K A → Oper.gives P o a w' K) (hr : wpPlanD P ops Q z r S A w) : wpPlanD P ops Q z ((i, true) :: r) S a w := by
  obtain ⟨v, hv, hA⟩ := held_key hd hsz hS0 h
  exact ⟨o, v, ho, .inl ⟨by simp [Region.wanted, hg], fun w' hS' => .inl (hv w' hS')⟩, by rw [hA]; exact hr⟩
/-- A guarded operation that isn't wanted. -/
theorem planD_skip {o : Oper} {i : Nat} {r : List (Nat × Bool)} {a : Act} {w : World} (ho : ops[i]? = some o) (hw : Region.wanted o (yielded ops a.tmps) = false)
    (hr : wpPlanD P ops Q z r S (a.put o.dst undef) w) : wpPlanD P ops Q z ((i, true) :: r) S a w :=
  ⟨o, undef, ho, .inr ⟨hw, rfl⟩, hr⟩
/-- A guarded operation that is wanted. -/
theorem planD_wanted {o : Oper} {i : Nat} {r : List (Nat × Bool)} {a A : Act} {w : World} {d : Nat} (ho : ops[i]? = some o) (hw : Region.wanted o (yielded ops a.tmps) = true) (hd : o.dst = some d) (hsz : d < a.tmps.size) (hS0 : S w)
    (h : ∀ w', S w' → ∀ K : Act → Prop, K A → Oper.gives P o a w' K) (hr : wpPlanD P ops Q z r S A w) : wpPlanD P ops Q z ((i, true) :: r) S a w := by
  obtain ⟨v, hv, hA⟩ := held_key hd hsz hS0 h
  exact ⟨o, v, ho, .inl ⟨hw, fun w' hS' => .inl (hv w' hS')⟩, by rw [hA]; exact hr⟩
/-- As planD_skip, the slot named. -/
theorem planD_skipd {o : Oper} {i d : Nat} {r : List (Nat × Bool)} {a : Act} {w : World} (ho : ops[i]? = some o) (hd : o.dst = some d) (hw : Region.wanted o (yielded ops a.tmps) = false)
    (hr : wpPlanD P ops Q z r S (a.put (some d) undef) w) : wpPlanD P ops Q z ((i, true) :: r) S a w :=
  planD_skip ho hw (by rw [hd]; exact hr)
/-- An operation that comes up alone; what is known may grow. -/
theorem planD_do {o : Oper} {i : Nat} {r : List (Nat × Bool)} {a : Act} {w : World} (ho : ops[i]? = some o)
    (h : ∀ K : Act → World → Prop, (∀ (S' : World → Prop) a' w', (∀ u, S' u → S u) → (i ≠ z → S' w') → wpPlanD P ops Q z r S' a' w' → K a' w') → if Region.wanted o (yielded ops a.tmps) = true then o.wp P a w K Q else K (a.put o.dst undef) w) :
    wpPlanD P ops Q z ((i, false) :: r) S a w :=
  wpOp_step ho fun K' hK => h K' fun S' a' w' h0 h1 h2 => hK a' w' ⟨S', h0, h1, h2⟩
theorem planD_op {o : Oper} {i : Nat} {r : List (Nat × Bool)} {a : Act} {w : World} (ho : ops[i]? = some o) (hw : Region.wanted o (yielded ops a.tmps) = true)
    (h : ∀ K : Act → World → Prop, (∀ (S' : World → Prop) a' w', (∀ u, S' u → S u) → (i ≠ z → S' w') → wpPlanD P ops Q z r S' a' w' → K a' w') → o.wp P a w K Q) : wpPlanD P ops Q z ((i, false) :: r) S a w :=
  planD_do ho fun K hK => by simp only [hw, if_true]; exact h K hK
/-- A guarded operation that comes up alone and isn't wanted. -/
theorem planD_not {o : Oper} {i d : Nat} {r : List (Nat × Bool)} {a : Act} {w : World} (ho : ops[i]? = some o) (hd : o.dst = some d) (hw : Region.wanted o (yielded ops a.tmps) = false) (hS0 : S w)
    (hr : wpPlanD P ops Q z r S (a.put (some d) undef) w) : wpPlanD P ops Q z ((i, false) :: r) S a w := by
  refine planD_do ho (fun K hK => ?_)
  rw [if_neg (by rw [hw]; decide), hd]
  exact hK S _ _ (fun u h => h) (fun _ => hS0) hr
theorem planD_nil {a : Act} {w : World} (h : Q .normal a w) : wpPlanD P ops Q z [] S a w := h
/-- A call that leaves the world as it is, in every world that meets S. -/
theorem planD_call {o : Oper} {i : Nat} {r : List (Nat × Bool)} {a : Act} {w : World} (v : Value) (ho : ops[i]? = some o) (hw : Region.wanted o (yielded ops a.tmps) = true)
    (h : ∀ w', S w' → ∃ f args, (execOp a.eval o).run P w' = .ok (.enter f args) w' ∧ Calls P f args w' fun e w'' => e = .returned v ∧ w' = w'') (hr : wpPlanD P ops Q z r S (a.put o.dst v) w) : wpPlanD P ops Q z ((i, true) :: r) S a w :=
  ⟨o, v, ho, .inl ⟨hw, fun w' hS' => .inr (h w' hS')⟩, hr⟩
end
end Go.Proofs.Ytocameknhglklaa

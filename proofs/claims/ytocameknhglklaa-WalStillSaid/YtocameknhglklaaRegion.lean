/- A region that draws its order, walked in ONE order that the prover names: operations that yield the same value in every world that meets S are taken first (plan entry true), all others come up alone (plan entry false), and keep S, but for the operation z (the last one, that waits for all). -/
import Derived.OrdersHeld
import Derived.StillTail
import Derived.StillTactics
import Derived.RegionTactic
import Derived.Tactics
import Derived.KernelRfl
namespace Go.Proofs.Ytocameknhglklaa
open Go

section
variable {P : Program} {ops : Array Oper} {Q : Exit → Act → World → Prop} {md : Region.Mode} {S : World → Prop} {z : Nat}

def wpAnyZ (P : Program) (md : Region.Mode) (ops : Array Oper) (Q : Exit → Act → World → Prop) (S : World → Prop) (z : Nat) : Nat → Array Bool → Act → World → Prop
  | 0, listed, a, w => Region.ready md ops listed = [] ∧ Q .normal a w
  | fuel + 1, listed, a, w =>
    (Region.ready md ops listed = [] → Q .normal a w) ∧
    ∀ i ∈ Region.ready md ops listed, wpOp P ops Q i (fun a' w' => (i ≠ z → S w') ∧ wpAnyZ P md ops Q S z fuel (listed.setIfInBounds i true) a' w') a w

theorem wpAny_of_Z : ∀ (fuel : Nat) (listed : Array Bool) (a : Act) (w : World), wpAnyZ P md ops Q S z fuel listed a w → wpAny P md ops Q fuel listed a w
  | 0, _, _, _, h => h
  | fuel + 1, _, _, _, h => ⟨h.1, fun i hi => wpOp_mono (fun a' w' h' => wpAny_of_Z fuel _ a' w' h'.2) (h.2 i hi)⟩

theorem ne_nil_of_mem {α : Type} {l : List α} {x : α} (h : x ∈ l) : l ≠ [] := by intro e; rw [e] at h; cases h

/-- The operation z waits for all others (or there is none). -/
def sinkOk (md : Region.Mode) (ops : Array Oper) (z : Nat) : Bool :=
  decide (ops.size ≤ z) || (decide (z + 1 = ops.size) && Region.sinkB md ops z && Region.chainB md ops z)

theorem ready_lt {j : Nat} {listed : Array Bool} (h : j ∈ Region.ready md ops listed) : j < ops.size := by
  obtain ⟨_, o, ho, _⟩ := mem_ready.1 h
  exact (Array.getElem?_eq_some_iff.1 ho).1

theorem not_sink {i j : Nat} {listed : Array Bool} (hz : sinkOk md ops z = true) (inv : z < ops.size → HeadInv md ops z listed) (hi : i ∈ Region.ready md ops listed) (hiz : i ≠ z)
    (hj : j ∈ Region.ready md ops listed) : j ≠ z := by
  intro e
  subst e
  have hjl := ready_lt hj
  have hil := ready_lt hi
  simp only [sinkOk, Bool.or_eq_true, Bool.and_eq_true, decide_eq_true_eq] at hz
  rcases hz with hz | ⟨⟨h1, h2⟩, h3⟩
  · omega
  · exact tail_waits h2 h3 hjl (inv hjl) _ i rfl (by omega) (mem_ready.1 hi).1 j (Nat.le_refl _) hj

theorem inv_set {i : Nat} {listed : Array Bool} (hz : sinkOk md ops z = true) (inv : z < ops.size → HeadInv md ops z listed) (hi : i ∈ Region.ready md ops listed) (hiz : i ≠ z) :
    z < ops.size → HeadInv md ops z (listed.setIfInBounds i true) := by
  intro hlt
  refine (inv hlt).set hi ?_
  have hil := ready_lt hi
  simp only [sinkOk, Bool.or_eq_true, Bool.and_eq_true, decide_eq_true_eq] at hz
  rcases hz with hz | ⟨⟨h1, h2⟩, h3⟩ <;> omega

theorem wpAnyZ_first {i : Nat} {oi : Oper} {v : Value} (hi : ops[i]? = some oi) (hsel : ∀ (j : Nat) (o : Oper) cs b, ops[j]? = some o → o.op ≠ .select cs b)
    (hQ : ∀ d v c a w, Q (.panic c) (Act.put a d v) w → Q (.panic c) a w) (hz : sinkOk md ops z = true) (hiz : i ≠ z) :
    ∀ (fuel : Nat) (listed : Array Bool) (a : Act) (w : World), (z < ops.size → HeadInv md ops z listed) →
      (∀ j oj, ops[j]? = some oj → j ≠ i → listed.getD j true = false → (∀ e ∈ oj.after, Region.binds md e = true → e.on ≠ i) → oi.apart ops oj = true) →
      i ∈ Region.ready md ops listed → YieldsIf P ops S oi v a → S w →
      wpAnyZ P md ops Q S z fuel (listed.setIfInBounds i true) (a.put oi.dst v) w → wpAnyZ P md ops Q S z (fuel + 1) listed a w := by
  intro fuel
  induction fuel with
  | zero =>
    intro listed a w _ _ hr hy hS H
    refine ⟨fun h => absurd h (ne_nil_of_mem hr), fun j hj => ?_⟩
    by_cases hji : j = i
    · subst hji; exact hy.wpOp hi hS ⟨fun _ => hS, H⟩
    · have h2 := ready_mono hj hji
      rw [H.1] at h2
      cases h2
  | succ fuel ih =>
    intro listed a w inv hfree hr hy hS H
    refine ⟨fun h => absurd h (ne_nil_of_mem hr), fun j hj => ?_⟩
    by_cases hji : j = i
    · subst hji; exact hy.wpOp hi hS ⟨fun _ => hS, H⟩
    · have hjz := not_sink hz inv hr hiz hj
      have h1 := H.2 j (ready_mono hj hji)
      obtain ⟨hjun, oj, hoj, hall⟩ := mem_ready.1 hj
      have hun := (mem_ready.1 hr).1
      have hnot : ∀ e ∈ oj.after, Region.binds md e = true → e.on ≠ i := fun e he hb heq => by
        have h3 := hall e he hb
        rw [heq, getD_both hun] at h3
        cases h3
      have h2 := wpOp_putIf hoj (hfree j oj hoj hji hjun hnot) (fun cs b => hsel i oi cs b hi) (fun cs b => hsel j oj cs b hoj) (hQ oi.dst v) hy h1
      have hfree' : ∀ k ok, ops[k]? = some ok → k ≠ i → (listed.setIfInBounds j true).getD k true = false →
          (∀ e ∈ ok.after, Region.binds md e = true → e.on ≠ i) → oi.apart ops ok = true := fun k ok hk hki hk2 hno => by
        refine hfree k ok hk hki ?_ hno
        by_cases hjk : j = k
        · subst hjk; exact hjun
        · rw [getD_set_ne true hjk] at hk2; exact hk2
      refine wpOp_mono (fun a' w' h3 => ?_) h2
      obtain ⟨hya, hS', H'⟩ := h3
      refine ⟨fun _ => hS' hjz, ih (listed.setIfInBounds j true) a' w' (inv_set hz inv hj hjz) hfree' (ready_mono hr (Ne.symm hji)) hya (hS' hjz) ?_⟩
      rw [Array.setIfInBounds_comm _ _ hji]
      exact H'

/-- The walk along a plan. -/
def wpPlan (P : Program) (ops : Array Oper) (Q : Exit → Act → World → Prop) (S : World → Prop) (z : Nat) : List (Nat × Bool) → Act → World → Prop
  | [], a, w => Q .normal a w
  | (i, true) :: r, a, w => ∃ oi v, ops[i]? = some oi ∧ YieldsIf P ops S oi v a ∧ wpPlan P ops Q S z r (a.put oi.dst v) w
  | (i, false) :: r, a, w => wpOp P ops Q i (fun a' w' => (i ≠ z → S w') ∧ wpPlan P ops Q S z r a' w') a w

def planOk (md : Region.Mode) (ops : Array Oper) (z : Nat) : List (Nat × Bool) → Array Bool → Bool
  | [], listed => (Region.ready md ops listed).isEmpty
  | (i, true) :: r, listed => decide (i ≠ z) && (Region.ready md ops listed).contains i && Region.free md ops listed i && planOk md ops z r (listed.setIfInBounds i true)
  | (i, false) :: r, listed => decide (Region.ready md ops listed = [i]) && decide (i = z → r = []) && planOk md ops z r (listed.setIfInBounds i true)

theorem wpAnyZ_of_plan (hsel : Region.noSelect ops = true) (hQ : ∀ d v c a w, Q (.panic c) (Act.put a d v) w → Q (.panic c) a w) (hz : sinkOk md ops z = true) :
    ∀ (plan : List (Nat × Bool)) (listed : Array Bool) (a : Act) (w : World), (plan ≠ [] → z < ops.size → HeadInv md ops z listed) → planOk md ops z plan listed = true → (plan ≠ [] → S w) →
      wpPlan P ops Q S z plan a w → wpAnyZ P md ops Q S z plan.length listed a w
  | [], listed, a, w, _, hB, _, h => ⟨by simpa [planOk] using hB, h⟩
  | (i, true) :: r, listed, a, w, inv, hB, hS, h => by
    obtain ⟨oi, v, hi, hy, hr⟩ := h
    simp only [planOk, Bool.and_eq_true, decide_eq_true_eq] at hB
    obtain ⟨⟨⟨hiz, hc⟩, hf⟩, hB'⟩ := hB
    have hrd : i ∈ Region.ready md ops listed := by simpa using hc
    have inv0 := inv (by simp)
    exact wpAnyZ_first hi (Region.noSelect_spec hsel) hQ hz hiz r.length listed a w inv0 (Region.free_spec hi hf) hrd hy (hS (by simp))
      (wpAnyZ_of_plan hsel hQ hz r _ _ _ (fun _ => inv_set hz inv0 hrd hiz) hB' (fun _ => hS (by simp)) hr)
  | (i, false) :: r, listed, a, w, inv, hB, hS, h => by
    simp only [planOk, Bool.and_eq_true, decide_eq_true_eq] at hB
    obtain ⟨⟨hrd, hzr⟩, hB'⟩ := hB
    have inv0 := inv (by simp)
    refine ⟨fun h0 => (by rw [hrd] at h0; cases h0), fun j hj => ?_⟩
    have hj' : j = i := by rw [hrd] at hj; simpa using hj
    subst hj'
    refine wpOp_mono (fun a' w' h3 => ⟨h3.1, ?_⟩) h
    refine wpAnyZ_of_plan hsel hQ hz r _ _ _ (fun hr => inv_set hz inv0 hj (fun e => hr (hzr e))) hB' (fun hr => h3.1 (fun e => hr (hzr e))) h3.2

theorem wp_region_plan {id : Nat} {a : Act} {w : World} {l : List Oper} (S : World → Prop) (z : Nat) (plan : List (Nat × Bool)) (hm : P.follows .mixedOrders = true)
    (hB : (Region.noSelect l.toArray && sinkOk .any l.toArray z && decide (plan.length = l.length) && planOk .any l.toArray z plan (Array.replicate l.length false)) = true)
    (hQ : ∀ d v c a w, Q (.panic c) (Act.put a d v) w → Q (.panic c) a w) (hS : S w.drew)
    (h : wpPlan P l.toArray Q S z plan a w.drew) : (Code.region id l.toArray true).wp P Q a w := by
  simp only [Bool.and_eq_true, decide_eq_true_eq] at hB
  obtain ⟨⟨⟨hsel, hz⟩, hlen⟩, hp⟩ := hB
  refine wp_region_any hm ?_
  have inv0 : z < l.toArray.size → HeadInv .any l.toArray z (Array.replicate l.toArray.size false) := fun _ =>
    ⟨by simp, fun j oj _ hl => (by rw [getD_replicate_false] at hl; cases hl), fun t _ ht => getD_in (by simpa using ht) (getD_replicate_false _ _)⟩
  have H := wpAnyZ_of_plan (md := .any) (S := S) (z := z) hsel hQ hz plan (Array.replicate l.length false) a w.drew (fun _ hlt => by simpa using inv0 hlt) hp (fun _ => hS) h
  have := wpAny_of_Z _ _ _ _ H
  rw [hlen] at this
  simpa using this

/-- What an operation leaves in the frame, the world as it is. -/
def Oper.givesUpon (o : Oper) (a : Act) (w : World) (next : Act → Prop) : Result Next → Prop
  | .ok (.value v) w' => w' = w ∧ next (a.put o.dst v)
  | _ => False
def Oper.gives (P : Program) (o : Oper) (a : Act) (w : World) (next : Act → Prop) : Prop := Oper.givesUpon o a w next ((execOp a.eval o).run P w)
theorem Oper.givesUpon_value (o : Oper) (a : Act) (w : World) (next : Act → Prop) (v : Value) : Oper.givesUpon o a w next (.ok (.value v) w) = next (a.put o.dst v) := by simp [Oper.givesUpon]

theorem put_get {a : Act} {d : Nat} {v : Value} (hd : d < a.tmps.size) : (a.put (some d) v).tmps.getD d undef = v := by
  simp [Act.put, hd]

theorem plan_held {o : Oper} {i : Nat} {r : List (Nat × Bool)} {a A : Act} {w : World} {d : Nat} (ho : ops[i]? = some o) (hg : o.guard = none) (hd : o.dst = some d) (hsz : d < a.tmps.size) (hS0 : S w)
    (h : ∀ w', S w' → ∀ K : Act → Prop, K A → Oper.gives P o a w' K) (hr : wpPlan P ops Q S z r A w) : wpPlan P ops Q S z ((i, true) :: r) a w := by
  have key : ∀ w', S w' → ∃ v, (execOp a.eval o).run P w' = .ok (.value v) w' ∧ a.put o.dst v = A := fun w' hS' => by
    have h1 := h w' hS' (fun x => x = A) rfl
    unfold Oper.gives at h1
    generalize (execOp a.eval o).run P w' = res at *
    cases res with
    | ok n w'' =>
      cases n <;> simp only [Oper.givesUpon] at h1
      case value v => obtain ⟨rfl, h2⟩ := h1; exact ⟨v, rfl, h2⟩
    | halt x w'' => simp only [Oper.givesUpon] at h1
  obtain ⟨v, hv, hA⟩ := key w hS0
  have hval : ∀ u, a.put o.dst u = A → u = v := fun u hu => by
    rw [hd] at hu hA
    have e1 := put_get (v := u) hsz
    have e2 := put_get (v := v) hsz
    rw [hu] at e1
    rw [hA] at e2
    exact e1.symm.trans e2
  refine ⟨o, v, ho, .inl ⟨by simp [Region.wanted, hg], fun w' hS' => ?_⟩, by rw [hA]; exact hr⟩
  obtain ⟨u, hu, hA'⟩ := key w' hS'
  rw [hu, hval u hA']

/-- A guarded operation that isn't wanted. -/
theorem plan_skip {o : Oper} {i : Nat} {r : List (Nat × Bool)} {a : Act} {w : World} (ho : ops[i]? = some o) (hw : Region.wanted o (yielded ops a.tmps) = false)
    (hr : wpPlan P ops Q S z r (a.put o.dst undef) w) : wpPlan P ops Q S z ((i, true) :: r) a w :=
  ⟨o, undef, ho, .inr ⟨hw, rfl⟩, hr⟩

/-- A guarded operation that is wanted. -/
theorem plan_wanted {o : Oper} {i : Nat} {r : List (Nat × Bool)} {a A : Act} {w : World} {d : Nat} (ho : ops[i]? = some o) (hw : Region.wanted o (yielded ops a.tmps) = true) (hd : o.dst = some d) (hsz : d < a.tmps.size) (hS0 : S w)
    (h : ∀ w', S w' → ∀ K : Act → Prop, K A → Oper.gives P o a w' K) (hr : wpPlan P ops Q S z r A w) : wpPlan P ops Q S z ((i, true) :: r) a w := by
  have key : ∀ w', S w' → ∃ v, (execOp a.eval o).run P w' = .ok (.value v) w' ∧ a.put o.dst v = A := fun w' hS' => by
    have h1 := h w' hS' (fun x => x = A) rfl
    unfold Oper.gives at h1
    generalize (execOp a.eval o).run P w' = res at *
    cases res with
    | ok n w'' =>
      cases n <;> simp only [Oper.givesUpon] at h1
      case value v => obtain ⟨rfl, h2⟩ := h1; exact ⟨v, rfl, h2⟩
    | halt x w'' => simp only [Oper.givesUpon] at h1
  obtain ⟨v, hv, hA⟩ := key w hS0
  have hval : ∀ u, a.put o.dst u = A → u = v := fun u hu => by
    rw [hd] at hu hA
    have e1 := put_get (v := u) hsz
    have e2 := put_get (v := v) hsz
    rw [hu] at e1
    rw [hA] at e2
    exact e1.symm.trans e2
  refine ⟨o, v, ho, .inl ⟨hw, fun w' hS' => ?_⟩, by rw [hA]; exact hr⟩
  obtain ⟨u, hu, hA'⟩ := key w' hS'
  rw [hu, hval u hA']

/-- An operation that comes up alone. -/
theorem plan_do {o : Oper} {i : Nat} {r : List (Nat × Bool)} {a : Act} {w : World} (ho : ops[i]? = some o)
    (h : ∀ K : Act → World → Prop, (∀ a' w', (i ≠ z → S w') → wpPlan P ops Q S z r a' w' → K a' w') → if Region.wanted o (yielded ops a.tmps) = true then o.wp P a w K Q else K (a.put o.dst undef) w) :
    wpPlan P ops Q S z ((i, false) :: r) a w :=
  wpOp_step ho fun K' hK => h K' fun a' w' h1 h2 => hK a' w' ⟨h1, h2⟩
theorem plan_op {o : Oper} {i : Nat} {r : List (Nat × Bool)} {a : Act} {w : World} (ho : ops[i]? = some o) (hg : o.guard = none)
    (h : ∀ K : Act → World → Prop, (∀ a' w', (i ≠ z → S w') → wpPlan P ops Q S z r a' w' → K a' w') → o.wp P a w K Q) : wpPlan P ops Q S z ((i, false) :: r) a w :=
  plan_do ho fun K hK => by simp only [Region.wanted, hg, if_true]; exact h K hK
theorem plan_nil {a : Act} {w : World} (h : Q .normal a w) : wpPlan P ops Q S z [] a w := h
end
attribute [go_sem] Oper.gives Oper.givesUpon
end Go.Proofs.Ytocameknhglklaa

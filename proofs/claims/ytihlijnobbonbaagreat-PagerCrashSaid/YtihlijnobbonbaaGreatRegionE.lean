/- A region that draws its order, in which two chains of two operations each may come up interleaved in any way. -/
import Derived.Test.YtihlijnobbonbaaGreatKBase
namespace Go.Proofs.YtihlijnobbonbaaGreat
open Go

section
variable {P : Program} {ops : Array Oper} {Q : Exit → Act → World → Prop} {md : Region.Mode} {S : World → Prop} {z : Nat}

/-- Held operations first, then whatever is left. -/
def wpPlanT (P : Program) (md : Region.Mode) (ops : Array Oper) (Q : Exit → Act → World → Prop) (z n : Nat) : List Nat → (World → Prop) → Array Bool → Act → World → Prop
  | [], S, L, a, w => wpAnyZ P md ops Q S z n L a w
  | i :: r, S, L, a, w => ∃ oi v, ops[i]? = some oi ∧ YieldsC P ops S oi v a ∧ wpPlanT P md ops Q z n r S (L.setIfInBounds i true) (a.put oi.dst v) w
def planOkT (md : Region.Mode) (ops : Array Oper) (z : Nat) : List Nat → Array Bool → Bool
  | [], _ => true
  | i :: r, listed => decide (i ≠ z) && (Region.ready md ops listed).contains i && Region.free md ops listed i && planOkT md ops z r (listed.setIfInBounds i true)

theorem wpAnyZ_of_planT (hsel : Region.noSelect ops = true) (hQ : ∀ d v c a w, Q (.panic c) (Act.put a d v) w → Q (.panic c) a w) (hz : sinkOk md ops z = true) (hzs : ops.size ≤ z) (n : Nat) :
    ∀ (plan : List Nat) (S : World → Prop) (listed : Array Bool) (a : Act) (w : World), planOkT md ops z plan listed = true → S w →
      wpPlanT P md ops Q z n plan S listed a w → wpAnyZ P md ops Q S z (plan.length + n) listed a w
  | [], S, listed, a, w, _, _, h => by rw [List.length_nil, Nat.zero_add]; exact h
  | i :: r, S, listed, a, w, hB, hS, h => by
    obtain ⟨oi, v, hi, hy, hr⟩ := h
    simp only [planOkT, Bool.and_eq_true, decide_eq_true_eq] at hB
    obtain ⟨⟨⟨hiz, hc⟩, hf⟩, hB'⟩ := hB
    have hrd : i ∈ Region.ready md ops listed := by simpa using hc
    have H := wpAnyZ_of_planT hsel hQ hz hzs n r _ _ _ _ hB' hS hr
    have e : (i :: r).length + n = (r.length + n) + 1 := by simp; omega
    rw [e]
    exact wpAnyZ_firstC hi (Region.noSelect_spec hsel) hQ hz hiz (r.length + n) listed a w (fun h => absurd h (by omega)) (Region.free_spec hi hf) hrd hy hS H

theorem wp_region_planT {id : Nat} {a : Act} {w : World} {l : List Oper} (S : World → Prop) (plan : List Nat) (n : Nat) (hm : P.follows .mixedOrders = true)
    (hB : (Region.noSelect l.toArray && decide (plan.length + n = l.length) && planOkT .any l.toArray l.length plan (Array.replicate l.length false)) = true)
    (hQ : ∀ d v c a w, Q (.panic c) (Act.put a d v) w → Q (.panic c) a w) (hS : S w.drew)
    (h : wpPlanT P .any l.toArray Q l.length n plan S (Array.replicate l.length false) a w.drew) : (Code.region id l.toArray true).wp P Q a w := by
  simp only [Bool.and_eq_true, decide_eq_true_eq] at hB
  obtain ⟨⟨hsel, hlen⟩, hp⟩ := hB
  refine wp_region_any hm ?_
  have H := wpAnyZ_of_planT (md := .any) (z := l.length) hsel hQ (by simp [sinkOk]) (by simp) n plan S (Array.replicate l.length false) a w.drew hp hS h
  have := wpAny_of_Z _ _ _ _ H
  rw [hlen] at this
  simpa using this

theorem planT_held {n : Nat} {L : Array Bool} {o : Oper} {i : Nat} {r : List Nat} {a A : Act} {w : World} {d : Nat} (ho : ops[i]? = some o) (hw : Region.wanted o (yielded ops a.tmps) = true) (hd : o.dst = some d) (hsz : d < a.tmps.size) (hS0 : S w)
    (h : ∀ w', S w' → ∀ K : Act → Prop, K A → Oper.gives P o a w' K) (hr : wpPlanT P md ops Q z n r S (L.setIfInBounds i true) A w) : wpPlanT P md ops Q z n (i :: r) S L a w := by
  obtain ⟨v, hv, hA⟩ := held_key hd hsz hS0 h
  exact ⟨o, v, ho, .inl ⟨hw, fun w' hS' => .inl (hv w' hS')⟩, by rw [hA]; exact hr⟩
theorem planT_nil {n : Nat} {L : Array Bool} {a : Act} {w : World} (h : wpAnyZ P md ops Q S z n L a w) : wpPlanT P md ops Q z n [] S L a w := h

/-! Two chains. -/
def chL (L : Array Bool) (i1 i2 j1 j2 s t : Nat) : Array Bool :=
  let L1 := if s = 0 then L else if s = 1 then L.setIfInBounds i1 true else (L.setIfInBounds i1 true).setIfInBounds i2 true
  if t = 0 then L1 else if t = 1 then L1.setIfInBounds j1 true else (L1.setIfInBounds j1 true).setIfInBounds j2 true
def chainsOk (md : Region.Mode) (ops : Array Oper) (L : Array Bool) (i1 i2 j1 j2 : Nat) : Bool :=
  [0, 1, 2].all fun s => [0, 1, 2].all fun t =>
    (Region.ready md ops (chL L i1 i2 j1 j2 s t)).all (fun k => (decide (s = 0) && k == i1) || (decide (s = 1) && k == i2) || (decide (t = 0) && k == j1) || (decide (t = 1) && k == j2) || (decide (s = 2) && decide (t = 2))) &&
    (decide (s = 2 ∧ t = 2) || !(Region.ready md ops (chL L i1 i2 j1 j2 s t)).isEmpty) &&
    (decide (s = 2) || (chL L i1 i2 j1 j2 s t).setIfInBounds (if s = 0 then i1 else i2) true == chL L i1 i2 j1 j2 (s + 1) t) &&
    (decide (t = 2) || (chL L i1 i2 j1 j2 s t).setIfInBounds (if t = 0 then j1 else j2) true == chL L i1 i2 j1 j2 s (t + 1))

theorem two_chains (L : Array Bool) (i1 i2 j1 j2 n : Nat) (hok : chainsOk md ops L i1 i2 j1 j2 = true) (I : Nat → Nat → Act → World → Prop) (hS : ∀ s t a w, I s t a w → S w)
    (hA1 : ∀ t a w, I 0 t a w → wpOp P ops Q i1 (I 1 t) a w) (hA2 : ∀ t a w, I 1 t a w → wpOp P ops Q i2 (I 2 t) a w)
    (hB1 : ∀ s a w, I s 0 a w → wpOp P ops Q j1 (I s 1) a w) (hB2 : ∀ s a w, I s 1 a w → wpOp P ops Q j2 (I s 2) a w)
    (hend : ∀ a w, I 2 2 a w → wpAnyZ P md ops Q S z n (chL L i1 i2 j1 j2 2 2) a w) :
    ∀ (m s t : Nat), s ≤ 2 → t ≤ 2 → m = (2 - s) + (2 - t) → ∀ a w, I s t a w → wpAnyZ P md ops Q S z (m + n) (chL L i1 i2 j1 j2 s t) a w := by
  intro m
  induction m with
  | zero =>
    intro s t hs ht hm a w h
    obtain rfl : s = 2 := by omega
    obtain rfl : t = 2 := by omega
    rw [Nat.zero_add]
    exact hend a w h
  | succ m ih =>
    intro s t hs ht hm a w h
    have hst : s ∈ [0, 1, 2] := by simp; omega
    have htt : t ∈ [0, 1, 2] := by simp; omega
    have h1 := List.all_eq_true.1 (List.all_eq_true.1 hok s hst) t htt
    simp only [Bool.and_eq_true, Bool.or_eq_true, decide_eq_true_eq, List.all_eq_true, beq_iff_eq, Bool.not_eq_true', List.isEmpty_eq_false_iff] at h1
    obtain ⟨⟨⟨hr, hne⟩, hLs⟩, hLt⟩ := h1
    have e : m + 1 + n = (m + n) + 1 := by omega
    rw [e]
    have hne' := hne.resolve_left (by omega)
    refine ⟨fun h0 => absurd h0 hne', fun i hi => ?_⟩
    rcases hr i hi with (((⟨rfl, rfl⟩ | ⟨rfl, rfl⟩) | ⟨rfl, rfl⟩) | ⟨rfl, rfl⟩) | ⟨rfl, rfl⟩
    · have e2 := hLs.resolve_left (by omega)
      simp only [if_true] at e2
      rw [e2]
      exact wpOp_mono (fun a' w' h' => ⟨fun _ => hS _ _ _ _ h', ih 1 t (by omega) ht (by omega) a' w' h'⟩) (hA1 t a w h)
    · have e2 := hLs.resolve_left (by omega)
      simp only [show ¬ (1 : Nat) = 0 by decide, if_false] at e2
      rw [e2]
      exact wpOp_mono (fun a' w' h' => ⟨fun _ => hS _ _ _ _ h', ih 2 t (by omega) ht (by omega) a' w' h'⟩) (hA2 t a w h)
    · have e2 := hLt.resolve_left (by omega)
      simp only [if_true] at e2
      rw [e2]
      exact wpOp_mono (fun a' w' h' => ⟨fun _ => hS _ _ _ _ h', ih s 1 hs (by omega) (by omega) a' w' h'⟩) (hB1 s a w h)
    · have e2 := hLt.resolve_left (by omega)
      simp only [show ¬ (1 : Nat) = 0 by decide, if_false] at e2
      rw [e2]
      exact wpOp_mono (fun a' w' h' => ⟨fun _ => hS _ _ _ _ h', ih s 2 hs (by omega) (by omega) a' w' h'⟩) (hB2 s a w h)
    · omega
/-- Behind the chains: a plan again. -/
theorem chains_end (hsel : Region.noSelect ops = true) (hQ : ∀ d v c a w, Q (.panic c) (Act.put a d v) w → Q (.panic c) a w) (hz : ops.size ≤ z) (plan : List (Nat × Bool)) (n : Nat) (hn : plan.length = n) (L : Array Bool) (a : Act) (w : World)
    (hB : planOk md ops z plan L = true) (hS : S w) (h : wpPlanD P ops Q z plan S a w) : wpAnyZ P md ops Q S z n L a w := by
  subst hn
  exact wpAnyZ_of_planD hsel hQ (by simp [sinkOk, hz]) plan S L a w (fun _ h => absurd h (by omega)) hB (fun _ => hS) h
/-- One operation, not guarded. -/
theorem wpOp_one {i : Nat} {o : Oper} {K : Act → World → Prop} {a : Act} {w : World} (ho : ops[i]? = some o) (hw : Region.wanted o (yielded ops a.tmps) = true) (h : o.wp P a w K Q) : wpOp P ops Q i K a w := by
  unfold wpOp
  simp only [ho, hw, if_true]
  exact .inl h
end
end Go.Proofs.YtihlijnobbonbaaGreat

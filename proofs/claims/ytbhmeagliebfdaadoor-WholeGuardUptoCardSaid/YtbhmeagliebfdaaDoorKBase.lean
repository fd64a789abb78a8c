/- Memory, regions, slices: laws of single operations. -/
import Derived.Test.YtbhmeagliebfdaaDoorRows
import Derived.WalkKit
import Derived.ProofKit
import Derived.Below
import Derived.OneCell
import Derived.Laws.AppendOwn
import Derived.Laws.OwnMore
import Derived.Laws.CopyOwn
import Derived.Deep.MidRow
import Derived.OrdersHeld
import Derived.StillTail
import Derived.StillTactics
import Derived.RegionTactic
import Derived.Tactics
import Derived.KernelRfl
import Derived.Great.BuildSlice
import Derived.Great.FillDense
import Derived.Deep.WholeRow
import Derived.Deep.AppendLies
import Derived.Lib.AppendStr
set_option linter.unusedSimpArgs false
set_option linter.unusedVariables false
/- Memory: what a call may write (Upd), rows of bytes, and how blocks are read. No program here. -/
namespace Go.Proofs.YtbhmeagliebfdaaDoor
open Go.RowKit

/-- Only the blocks of F (and new ones) may differ. -/
structure Upd (F : Nat → Prop) (w w' : World) : Prop where
  os : w'.os = w.os
  tape : w'.tape = w.tape
  output : w'.output = w.output
  size : w.heap.size ≤ w'.heap.size
  block : ∀ k, k < w.heap.size → ¬ F k → w'.heap[k]? = w.heap[k]?

theorem Upd.refl (F : Nat → Prop) (w : World) : Upd F w w := ⟨rfl, rfl, rfl, Nat.le_refl _, fun _ _ _ => rfl⟩
theorem Upd.trans {F : Nat → Prop} {a b c : World} (h : Upd F a b) (k : Upd F b c) : Upd F a c :=
  ⟨k.os.trans h.os, k.tape.trans h.tape, k.output.trans h.output, Nat.le_trans h.size k.size,
   fun i hi hf => (k.block i (Nat.lt_of_lt_of_le hi h.size) hf).trans (h.block i hi hf)⟩
theorem Upd.mono {F G : Nat → Prop} {w w' : World} (h : Upd F w w') (hFG : ∀ k, k < w.heap.size → F k → G k) : Upd G w w' :=
  ⟨h.os, h.tape, h.output, h.size, fun k hk hg => h.block k hk (fun hf => hg (hFG k hk hf))⟩
/-- Two steps; the second may write what the first made. -/
theorem Upd.then {F G : Nat → Prop} {a b c : World} (h : Upd F a b) (k : Upd G b c) (hG : ∀ i, G i → F i ∨ a.heap.size ≤ i) : Upd F a c :=
  ⟨k.os.trans h.os, k.tape.trans h.tape, k.output.trans h.output, Nat.le_trans h.size k.size,
   fun i hi hf => (k.block i (Nat.lt_of_lt_of_le hi h.size) (fun hg => (hG i hg).elim hf (fun h' => absurd h' (by omega)))).trans (h.block i hi hf)⟩
theorem Upd.below {F : Nat → Prop} {B : Nat} {w w' : World} (h : Upd F w w') (hB : B ≤ w.heap.size) (hF : ∀ k, F k → B ≤ k) : Below B w w' :=
  ⟨h.os, h.tape, h.output, h.size, fun k hk => h.block k (by omega) (fun hf => by have := hF k hf; omega)⟩
theorem Upd.below0 {w w' : World} (h : Upd (fun _ => False) w w') : Below w.heap.size w w' := h.below (Nat.le_refl _) (fun _ h => h.elim)
theorem Upd.of_below {w w' : World} (h : Below w.heap.size w w') (F : Nat → Prop) : Upd F w w' :=
  ⟨h.os, h.tape, h.output, h.size, fun k hk _ => h.block k hk⟩
theorem Upd.cell {F : Nat → Prop} {w w' : World} (h : Upd F w w') {a : Addr} (hk : a.block < w.heap.size) (hf : ¬ F a.block) : w'.cell? a = w.cell? a :=
  World.cell?_of_block (w := w) (h.block a.block hk hf)
theorem Upd.cell_some {F : Nat → Prop} {w w' : World} (h : Upd F w w') {a : Addr} {v : Value} (hc : w.cell? a = some v) (hf : ¬ F a.block) : w'.cell? a = some v :=
  (h.cell (World.block_lt_of_cell? w a hc) hf).trans hc
theorem Upd.frozen {F : Nat → Prop} {w w' : World} (h : Upd F w w') {a : Addr} (hk : a.block < w.heap.size) (hf : ¬ F a.block) : w'.frozen? a = w.frozen? a :=
  World.frozen?_of_block (w := w) (h.block a.block hk hf)
theorem Upd.heap {F : Nat → Prop} {w w' : World} (h : Upd F w w') {k : Nat} {o : Obj} (hk : w.heap[k]? = some o) (hf : ¬ F k) : w'.heap[k]? = some o :=
  (h.block k (lt_of_block hk) hf).trans hk
theorem Upd.drew {F : Nat → Prop} {a w : World} (h : Upd F a w) : Upd F a w.drew := ⟨h.os, h.tape, h.output, h.size, h.block⟩
theorem Upd.alloc {F : Nat → Prop} {a w : World} (h : Upd F a w) (o : Obj) : Upd F a (w.alloc o) :=
  h.then (G := fun _ => False) ⟨rfl, rfl, rfl, by simp, fun k hk _ => Below.heap_alloc w o k hk⟩ (fun _ h => h.elim)
theorem Upd.setCell {F : Nat → Prop} {a w : World} (h : Upd F a w) {p : Addr} (v : Value) (hp : F p.block ∨ a.heap.size ≤ p.block) : Upd F a (w.setCell p v) :=
  h.then (G := fun k => k = p.block) ⟨rfl, rfl, rfl, by simp, fun k _ hk => heap_setCell_other w p k v hk⟩ (fun i hi => by subst hi; exact hp)
theorem Upd.grown {F : Nat → Prop} {a w w' : World} {row : Option Nat} (h : Upd F a w) (hg : w.grownBy w' row) (hr : ∀ k, row = some k → F k ∨ a.heap.size ≤ k) : Upd F a w' :=
  h.then (G := fun k => row = some k) ⟨hg.os, hg.tape, hg.output, hg.size, fun k hk hne => hg.block k hk (fun e => hne e.symm)⟩ hr
theorem Upd.setRow {F : Nat → Prop} {a w : World} (h : Upd F a w) {g : Nat} (cs : Array Value) (hp : F g ∨ a.heap.size ≤ g) : Upd F a (w.setRow g cs) :=
  h.then (G := fun k => k = g) ⟨rfl, rfl, rfl, by simp, fun k _ hk => setRow_other w g k cs hk⟩ (fun i hi => by subst hi; exact hp)
theorem Upd.row {F : Nat → Prop} {w w' : World} (h : Upd F w w') {base : Nat} {e : TypeId} {size : Nat} {v : Value} {n : Nat} {xs : List Value}
    (hr : w.ownsRow base e size v n xs) (hf : ∀ k, v.ownBlock = some k → ¬ F k) : w'.ownsRow base e size v n xs := by
  refine ⟨hr.1, ?_⟩
  rcases hr.2 with hn | ⟨g, cap, cur, rfl, hb, hg, rest⟩
  · exact .inl hn
  · exact .inr ⟨g, cap, cur, rfl, hb, h.heap hg (hf g rfl), rest⟩

theorem alloc_heap {w : World} {k : Nat} {x : Obj} (h : w.heap[k]? = some x) (o : Obj) : (w.alloc o).heap[k]? = some x := (Below.heap_alloc w o k (lt_of_block h)).trans h
/-- A byte as a cell. -/
def bv (b : UInt8) : Value := .int .u8 b.toNat
def bvs (l : List UInt8) : List Value := l.map bv
theorem bvs_length (l : List UInt8) : (bvs l).length = l.length := by simp [bvs]
theorem bvs_append (a b : List UInt8) : bvs (a ++ b) = bvs a ++ bvs b := by simp [bvs]
theorem bvs_get (l : List UInt8) (j : Nat) (h : j < l.length) : (bvs l)[j]? = some (bv l[j]) := by simp [bvs, h]
theorem bvs_one (l : List UInt8) : ∀ v ∈ bvs l, v.oneCell' = true := by
  intro v hv
  simp only [bvs, List.mem_map] at hv
  obtain ⟨b, _, rfl⟩ := hv
  rfl

/-- The slice v shows the cells xs (n elements of size cells) in w. -/
def Sees (w : World) (size : Nat) (v : Value) (n : Nat) (xs : List Value) : Prop :=
  xs.length = n * size ∧ n ≤ maxLen ∧ ∃ xo c, v = .slice xo n c ∧ (0 < n → ∃ b off, xo = some ⟨b, off, none⟩ ∧ w.rangeAt b off xs)
theorem Sees.at {w : World} {size b off n c : Nat} {xs : List Value} (hl : xs.length = n * size) (hm : n ≤ maxLen) (hr : w.rangeAt b off xs) : Sees w size (.slice (some ⟨b, off, none⟩) n c) n xs :=
  ⟨hl, hm, _, _, rfl, fun _ => ⟨b, off, rfl, hr⟩⟩
theorem Sees.zero (w : World) (size : Nat) (xo : Option Addr) (c : Nat) : Sees w size (.slice xo 0 c) 0 [] := ⟨by simp, Nat.zero_le _, _, _, rfl, fun h => absurd h (Nat.lt_irrefl _)⟩
theorem sees_of_row {w : World} {base : Nat} {e : TypeId} {size : Nat} {v : Value} {n : Nat} {xs : List Value} (hr : w.ownsRow base e size v n xs) : Sees w size v n xs := by
  refine ⟨hr.1, ?_⟩
  rcases hr.2 with ⟨rfl, rfl⟩ | ⟨g, cap, cur, rfl, hb, hg, hnc, hcm, hcs, ht⟩
  · exact ⟨Nat.zero_le _, _, _, rfl, fun h => absurd h (Nat.lt_irrefl _)⟩
  · refine ⟨Nat.le_trans hnc hcm, _, _, rfl, fun _ => ⟨g, 0, rfl, fun j u hj => ?_⟩⟩
    rw [cell_of_row w g (0 + j) cur e (0, 0) hg, Nat.zero_add]
    rw [← ht, List.getElem?_take] at hj
    split at hj
    · simpa using hj
    · cases hj

/-- A struct of four cells. -/
theorem four {w : World} {b : Nat} {v0 v1 v2 v3 : Value} {t : TypeId} (h : w.heap[b]? = some (.cells #[v0, v1, v2, v3] t (0, 0))) :
    w.cell? ⟨b, 0, none⟩ = some v0 ∧ w.cell? ⟨b, 1, none⟩ = some v1 ∧ w.cell? ⟨b, 2, none⟩ = some v2 ∧ w.cell? ⟨b, 3, none⟩ = some v3 := by
  simp [World.cell?, h]
theorem unfrozen {w : World} {b : Nat} {c : Array Value} {t : TypeId} (h : w.heap[b]? = some (.cells c t (0, 0))) (i : Nat) : w.frozen? ⟨b, i, none⟩ = false := by
  simp [World.frozen?, h]
theorem stored {w : World} {b : Nat} {c : Array Value} {t : TypeId} (h : w.heap[b]? = some (.cells c t (0, 0))) (i : Nat) (v : Value) :
    (w.setCell ⟨b, i, none⟩ v).heap[b]? = some (.cells (c.setIfInBounds i v) t (0, 0)) := heap_setCell_same w b i c t v h
end Go.Proofs.YtbhmeagliebfdaaDoor
/- A region that draws its order, walked in ONE order that the prover names: operations that yield the same value in every world that meets S are taken first (plan entry true), all others come up alone (plan entry false), and keep S, but for the operation z (the last one, that waits for all). -/
namespace Go.Proofs.YtbhmeagliebfdaaDoor
open Go

section
variable {P : Program} {ops : Array Oper} {Q : Exit → Act → World → Prop} {md : Region.Mode} {S : World → Prop} {z : Nat}

def wpAnyZ (P : Program) (md : Region.Mode) (ops : Array Oper) (Q : Exit → Act → World → Prop) (S : World → Prop) (z : Nat) : Nat → Array Bool → Act → World → Prop
  | 0, listed, a, w => Region.ready md ops listed = [] ∧ Q .normal a w
  | fuel + 1, listed, a, w =>
    (Region.ready md ops listed = [] → Q .normal a w) ∧
    ∀ i ∈ Region.ready md ops listed, wpOp P ops Q i (fun a' w' => (i ≠ z → S w') ∧ wpAnyZ P md ops Q S z fuel (listed.setIfInBounds i true) a' w') a w

theorem wpAny_of_Z : ∀ (fuel : Nat) (listed : Array Bool) (a : Act) (w : World), wpAnyZ P md ops Q S z fuel listed a w → wpAny P md ops Q fuel listed a w
  | 0, _, _, _, h => h
  | fuel + 1, _, _, _, h => ⟨h.1, fun i hi => wpOp_mono (fun a' w' h' => wpAny_of_Z fuel _ a' w' h'.2) (h.2 i hi)⟩

theorem ne_nil_of_mem {α : Type} {l : List α} {x : α} (h : x ∈ l) : l ≠ [] := by intro e; rw [e] at h; cases h

/-- The operation z waits for all others (or there is none). -/
def sinkOk (md : Region.Mode) (ops : Array Oper) (z : Nat) : Bool :=
  decide (ops.size ≤ z) || (decide (z + 1 = ops.size) && Region.sinkB md ops z && Region.chainB md ops z)

theorem ready_lt {j : Nat} {listed : Array Bool} (h : j ∈ Region.ready md ops listed) : j < ops.size := by
  obtain ⟨_, o, ho, _⟩ := mem_ready.1 h
  exact (Array.getElem?_eq_some_iff.1 ho).1

theorem not_sink {i j : Nat} {listed : Array Bool} (hz : sinkOk md ops z = true) (inv : z < ops.size → HeadInv md ops z listed) (hi : i ∈ Region.ready md ops listed) (hiz : i ≠ z)
    (hj : j ∈ Region.ready md ops listed) : j ≠ z := by
  intro e
  subst e
  have hjl := ready_lt hj
  have hil := ready_lt hi
  simp only [sinkOk, Bool.or_eq_true, Bool.and_eq_true, decide_eq_true_eq] at hz
  rcases hz with hz | ⟨⟨h1, h2⟩, h3⟩
  · omega
  · exact tail_waits h2 h3 hjl (inv hjl) _ i rfl (by omega) (mem_ready.1 hi).1 j (Nat.le_refl _) hj

theorem inv_set {i : Nat} {listed : Array Bool} (hz : sinkOk md ops z = true) (inv : z < ops.size → HeadInv md ops z listed) (hi : i ∈ Region.ready md ops listed) (hiz : i ≠ z) :
    z < ops.size → HeadInv md ops z (listed.setIfInBounds i true) := by
  intro hlt
  refine (inv hlt).set hi ?_
  have hil := ready_lt hi
  simp only [sinkOk, Bool.or_eq_true, Bool.and_eq_true, decide_eq_true_eq] at hz
  rcases hz with hz | ⟨⟨h1, h2⟩, h3⟩ <;> omega

theorem wpAnyZ_first {i : Nat} {oi : Oper} {v : Value} (hi : ops[i]? = some oi) (hsel : ∀ (j : Nat) (o : Oper) cs b, ops[j]? = some o → o.op ≠ .select cs b)
    (hQ : ∀ d v c a w, Q (.panic c) (Act.put a d v) w → Q (.panic c) a w) (hz : sinkOk md ops z = true) (hiz : i ≠ z) :
    ∀ (fuel : Nat) (listed : Array Bool) (a : Act) (w : World), (z < ops.size → HeadInv md ops z listed) →
      (∀ j oj, ops[j]? = some oj → j ≠ i → listed.getD j true = false → (∀ e ∈ oj.after, Region.binds md e = true → e.on ≠ i) → oi.apart ops oj = true) →
      i ∈ Region.ready md ops listed → YieldsIf P ops S oi v a → S w →
      wpAnyZ P md ops Q S z fuel (listed.setIfInBounds i true) (a.put oi.dst v) w → wpAnyZ P md ops Q S z (fuel + 1) listed a w := by
  intro fuel
  induction fuel with
  | zero =>
    intro listed a w _ _ hr hy hS H
    refine ⟨fun h => absurd h (ne_nil_of_mem hr), fun j hj => ?_⟩
    by_cases hji : j = i
    · subst hji; exact hy.wpOp hi hS ⟨fun _ => hS, H⟩
    · have h2 := ready_mono hj hji
      rw [H.1] at h2
      cases h2
  | succ fuel ih =>
    intro listed a w inv hfree hr hy hS H
    refine ⟨fun h => absurd h (ne_nil_of_mem hr), fun j hj => ?_⟩
    by_cases hji : j = i
    · subst hji; exact hy.wpOp hi hS ⟨fun _ => hS, H⟩
    · have hjz := not_sink hz inv hr hiz hj
      have h1 := H.2 j (ready_mono hj hji)
      obtain ⟨hjun, oj, hoj, hall⟩ := mem_ready.1 hj
      have hun := (mem_ready.1 hr).1
      have hnot : ∀ e ∈ oj.after, Region.binds md e = true → e.on ≠ i := fun e he hb heq => by
        have h3 := hall e he hb
        rw [heq, getD_both hun] at h3
        cases h3
      have h2 := wpOp_putIf hoj (hfree j oj hoj hji hjun hnot) (fun cs b => hsel i oi cs b hi) (fun cs b => hsel j oj cs b hoj) (hQ oi.dst v) hy h1
      have hfree' : ∀ k ok, ops[k]? = some ok → k ≠ i → (listed.setIfInBounds j true).getD k true = false →
          (∀ e ∈ ok.after, Region.binds md e = true → e.on ≠ i) → oi.apart ops ok = true := fun k ok hk hki hk2 hno => by
        refine hfree k ok hk hki ?_ hno
        by_cases hjk : j = k
        · subst hjk; exact hjun
        · rw [getD_set_ne true hjk] at hk2; exact hk2
      refine wpOp_mono (fun a' w' h3 => ?_) h2
      obtain ⟨hya, hS', H'⟩ := h3
      refine ⟨fun _ => hS' hjz, ih (listed.setIfInBounds j true) a' w' (inv_set hz inv hj hjz) hfree' (ready_mono hr (Ne.symm hji)) hya (hS' hjz) ?_⟩
      rw [Array.setIfInBounds_comm _ _ hji]
      exact H'

/-- The walk along a plan. -/
def wpPlan (P : Program) (ops : Array Oper) (Q : Exit → Act → World → Prop) (S : World → Prop) (z : Nat) : List (Nat × Bool) → Act → World → Prop
  | [], a, w => Q .normal a w
  | (i, true) :: r, a, w => ∃ oi v, ops[i]? = some oi ∧ YieldsIf P ops S oi v a ∧ wpPlan P ops Q S z r (a.put oi.dst v) w
  | (i, false) :: r, a, w => wpOp P ops Q i (fun a' w' => (i ≠ z → S w') ∧ wpPlan P ops Q S z r a' w') a w

def planOk (md : Region.Mode) (ops : Array Oper) (z : Nat) : List (Nat × Bool) → Array Bool → Bool
  | [], listed => (Region.ready md ops listed).isEmpty
  | (i, true) :: r, listed => decide (i ≠ z) && (Region.ready md ops listed).contains i && Region.free md ops listed i && planOk md ops z r (listed.setIfInBounds i true)
  | (i, false) :: r, listed => decide (Region.ready md ops listed = [i]) && decide (i = z → r = []) && planOk md ops z r (listed.setIfInBounds i true)

theorem wpAnyZ_of_plan (hsel : Region.noSelect ops = true) (hQ : ∀ d v c a w, Q (.panic c) (Act.put a d v) w → Q (.panic c) a w) (hz : sinkOk md ops z = true) :
    ∀ (plan : List (Nat × Bool)) (listed : Array Bool) (a : Act) (w : World), (plan ≠ [] → z < ops.size → HeadInv md ops z listed) → planOk md ops z plan listed = true → (plan ≠ [] → S w) →
      wpPlan P ops Q S z plan a w → wpAnyZ P md ops Q S z plan.length listed a w
  | [], listed, a, w, _, hB, _, h => ⟨by simpa [planOk] using hB, h⟩
  | (i, true) :: r, listed, a, w, inv, hB, hS, h => by
    obtain ⟨oi, v, hi, hy, hr⟩ := h
    simp only [planOk, Bool.and_eq_true, decide_eq_true_eq] at hB
    obtain ⟨⟨⟨hiz, hc⟩, hf⟩, hB'⟩ := hB
    have hrd : i ∈ Region.ready md ops listed := by simpa using hc
    have inv0 := inv (by simp)
    exact wpAnyZ_first hi (Region.noSelect_spec hsel) hQ hz hiz r.length listed a w inv0 (Region.free_spec hi hf) hrd hy (hS (by simp))
      (wpAnyZ_of_plan hsel hQ hz r _ _ _ (fun _ => inv_set hz inv0 hrd hiz) hB' (fun _ => hS (by simp)) hr)
  | (i, false) :: r, listed, a, w, inv, hB, hS, h => by
    simp only [planOk, Bool.and_eq_true, decide_eq_true_eq] at hB
    obtain ⟨⟨hrd, hzr⟩, hB'⟩ := hB
    have inv0 := inv (by simp)
    refine ⟨fun h0 => (by rw [hrd] at h0; cases h0), fun j hj => ?_⟩
    have hj' : j = i := by rw [hrd] at hj; simpa using hj
    subst hj'
    refine wpOp_mono (fun a' w' h3 => ⟨h3.1, ?_⟩) h
    refine wpAnyZ_of_plan hsel hQ hz r _ _ _ (fun hr => inv_set hz inv0 hj (fun e => hr (hzr e))) hB' (fun hr => h3.1 (fun e => hr (hzr e))) h3.2

theorem wp_region_plan {id : Nat} {a : Act} {w : World} {l : List Oper} (S : World → Prop) (z : Nat) (plan : List (Nat × Bool)) (hm : P.follows .mixedOrders = true)
    (hB : (Region.noSelect l.toArray && sinkOk .any l.toArray z && decide (plan.length = l.length) && planOk .any l.toArray z plan (Array.replicate l.length false)) = true)
    (hQ : ∀ d v c a w, Q (.panic c) (Act.put a d v) w → Q (.panic c) a w) (hS : S w.drew)
    (h : wpPlan P l.toArray Q S z plan a w.drew) : (Code.region id l.toArray true).wp P Q a w := by
  simp only [Bool.and_eq_true, decide_eq_true_eq] at hB
  obtain ⟨⟨⟨hsel, hz⟩, hlen⟩, hp⟩ := hB
  refine wp_region_any hm ?_
  have inv0 : z < l.toArray.size → HeadInv .any l.toArray z (Array.replicate l.toArray.size false) := fun _ =>
    ⟨by simp, fun j oj _ hl => (by rw [getD_replicate_false] at hl; cases hl), fun t _ ht => getD_in (by simpa using ht) (getD_replicate_false _ _)⟩
  have H := wpAnyZ_of_plan (md := .any) (S := S) (z := z) hsel hQ hz plan (Array.replicate l.length false) a w.drew (fun _ hlt => by simpa using inv0 hlt) hp (fun _ => hS) h
  have := wpAny_of_Z _ _ _ _ H
  rw [hlen] at this
  simpa using this

/-- What an operation leaves in the frame, the world as it is. -/
def Oper.givesUpon (o : Oper) (a : Act) (w : World) (next : Act → Prop) : Result Next → Prop
  | .ok (.value v) w' => w' = w ∧ next (a.put o.dst v)
  | _ => False
def Oper.gives (P : Program) (o : Oper) (a : Act) (w : World) (next : Act → Prop) : Prop := Oper.givesUpon o a w next ((execOp a.eval o).run P w)
theorem Oper.givesUpon_value (o : Oper) (a : Act) (w : World) (next : Act → Prop) (v : Value) : Oper.givesUpon o a w next (.ok (.value v) w) = next (a.put o.dst v) := by simp [Oper.givesUpon]

theorem put_get {a : Act} {d : Nat} {v : Value} (hd : d < a.tmps.size) : (a.put (some d) v).tmps.getD d undef = v := by
  simp [Act.put, hd]

theorem plan_held {o : Oper} {i : Nat} {r : List (Nat × Bool)} {a A : Act} {w : World} {d : Nat} (ho : ops[i]? = some o) (hg : o.guard = none) (hd : o.dst = some d) (hsz : d < a.tmps.size) (hS0 : S w)
    (h : ∀ w', S w' → ∀ K : Act → Prop, K A → Oper.gives P o a w' K) (hr : wpPlan P ops Q S z r A w) : wpPlan P ops Q S z ((i, true) :: r) a w := by
  have key : ∀ w', S w' → ∃ v, (execOp a.eval o).run P w' = .ok (.value v) w' ∧ a.put o.dst v = A := fun w' hS' => by
    have h1 := h w' hS' (fun x => x = A) rfl
    unfold Oper.gives at h1
    generalize (execOp a.eval o).run P w' = res at *
    cases res with
    | ok n w'' =>
      cases n <;> simp only [Oper.givesUpon] at h1
      case value v => obtain ⟨rfl, h2⟩ := h1; exact ⟨v, rfl, h2⟩
    | halt x w'' => simp only [Oper.givesUpon] at h1
  obtain ⟨v, hv, hA⟩ := key w hS0
  have hval : ∀ u, a.put o.dst u = A → u = v := fun u hu => by
    rw [hd] at hu hA
    have e1 := put_get (v := u) hsz
    have e2 := put_get (v := v) hsz
    rw [hu] at e1
    rw [hA] at e2
    exact e1.symm.trans e2
  refine ⟨o, v, ho, .inl ⟨by simp [Region.wanted, hg], fun w' hS' => ?_⟩, by rw [hA]; exact hr⟩
  obtain ⟨u, hu, hA'⟩ := key w' hS'
  rw [hu, hval u hA']

/-- A guarded operation that isn't wanted. -/
theorem plan_skip {o : Oper} {i : Nat} {r : List (Nat × Bool)} {a : Act} {w : World} (ho : ops[i]? = some o) (hw : Region.wanted o (yielded ops a.tmps) = false)
    (hr : wpPlan P ops Q S z r (a.put o.dst undef) w) : wpPlan P ops Q S z ((i, true) :: r) a w :=
  ⟨o, undef, ho, .inr ⟨hw, rfl⟩, hr⟩

/-- A guarded operation that is wanted. -/
theorem plan_wanted {o : Oper} {i : Nat} {r : List (Nat × Bool)} {a A : Act} {w : World} {d : Nat} (ho : ops[i]? = some o) (hw : Region.wanted o (yielded ops a.tmps) = true) (hd : o.dst = some d) (hsz : d < a.tmps.size) (hS0 : S w)
    (h : ∀ w', S w' → ∀ K : Act → Prop, K A → Oper.gives P o a w' K) (hr : wpPlan P ops Q S z r A w) : wpPlan P ops Q S z ((i, true) :: r) a w := by
  have key : ∀ w', S w' → ∃ v, (execOp a.eval o).run P w' = .ok (.value v) w' ∧ a.put o.dst v = A := fun w' hS' => by
    have h1 := h w' hS' (fun x => x = A) rfl
    unfold Oper.gives at h1
    generalize (execOp a.eval o).run P w' = res at *
    cases res with
    | ok n w'' =>
      cases n <;> simp only [Oper.givesUpon] at h1
      case value v => obtain ⟨rfl, h2⟩ := h1; exact ⟨v, rfl, h2⟩
    | halt x w'' => simp only [Oper.givesUpon] at h1
  obtain ⟨v, hv, hA⟩ := key w hS0
  have hval : ∀ u, a.put o.dst u = A → u = v := fun u hu => by
    rw [hd] at hu hA
    have e1 := put_get (v := u) hsz
    have e2 := put_get (v := v) hsz
    rw [hu] at e1
    rw [hA] at e2
    exact e1.symm.trans e2
  refine ⟨o, v, ho, .inl ⟨hw, fun w' hS' => ?_⟩, by rw [hA]; exact hr⟩
  obtain ⟨u, hu, hA'⟩ := key w' hS'
  rw [hu, hval u hA']

/-- An operation that comes up alone. -/
theorem plan_do {o : Oper} {i : Nat} {r : List (Nat × Bool)} {a : Act} {w : World} (ho : ops[i]? = some o)
    (h : ∀ K : Act → World → Prop, (∀ a' w', (i ≠ z → S w') → wpPlan P ops Q S z r a' w' → K a' w') → if Region.wanted o (yielded ops a.tmps) = true then o.wp P a w K Q else K (a.put o.dst undef) w) :
    wpPlan P ops Q S z ((i, false) :: r) a w :=
  wpOp_step ho fun K' hK => h K' fun a' w' h1 h2 => hK a' w' ⟨h1, h2⟩
theorem plan_op {o : Oper} {i : Nat} {r : List (Nat × Bool)} {a : Act} {w : World} (ho : ops[i]? = some o) (hg : o.guard = none)
    (h : ∀ K : Act → World → Prop, (∀ a' w', (i ≠ z → S w') → wpPlan P ops Q S z r a' w' → K a' w') → o.wp P a w K Q) : wpPlan P ops Q S z ((i, false) :: r) a w :=
  plan_do ho fun K hK => by simp only [Region.wanted, hg, if_true]; exact h K hK
theorem plan_nil {a : Act} {w : World} (h : Q .normal a w) : wpPlan P ops Q S z [] a w := h
end
attribute [go_sem] Oper.gives Oper.givesUpon
end Go.Proofs.YtbhmeagliebfdaaDoor
/- Laws of single operations, over whatever program. -/
namespace Go.Proofs.YtbhmeagliebfdaaDoor
open Go Go.RowKit

section
variable {P : Program} {ops : Array Oper} {Q : Exit → Act → World → Prop} {rest : List Oper} {dst : Option Tmp} {ty : TypeId} {pos : String} {aft : Array Edge} {a : Act} {w : World} {K : Act → World → Prop} {next : Act → Prop}

/-! Build a value, of one part. -/
theorem wp_build1 {t : TypeId} {k : Nat} {x : Operand} (u v : Value) (hx : a.eval x = u) (hr : ∀ w, (Instr.build t #[(k, u)]).run P w = .ok v w) (h : K (a.put dst v) w) : (⟨dst, .build t #[(k, x)], ty, pos, aft, none⟩ : Oper).wp P a w K Q := by
  subst hx
  unfold Oper.wp execOp
  simp only [List.map_toArray, List.map_cons, List.map_nil, Sem.run_bind, hr, Result.andThen_ok, Sem.run_pure]
  exact h
theorem wpl_build1 {t : TypeId} {k : Nat} {x : Operand} (u v : Value) (hx : a.eval x = u) (hr : ∀ w, (Instr.build t #[(k, u)]).run P w = .ok v w) (h : wpList P ops Q rest (a.put dst v) w) : wpList P ops Q (⟨dst, .build t #[(k, x)], ty, pos, aft, none⟩ :: rest) a w :=
  wpList_plain rfl fun _ hK => wp_build1 u v hx hr (hK _ _ h)
theorem gives_build1 {t : TypeId} {k : Nat} {x : Operand} (u v : Value) (hx : a.eval x = u) (hr : ∀ w, (Instr.build t #[(k, u)]).run P w = .ok v w) (h : next (a.put dst v)) : Oper.gives P (⟨dst, .build t #[(k, x)], ty, pos, aft, none⟩ : Oper) a w next := by
  subst hx
  unfold Oper.gives execOp
  simp only [List.map_toArray, List.map_cons, List.map_nil, Sem.run_bind, hr, Result.andThen_ok, Sem.run_pure, Oper.givesUpon_value]
  exact h

/-! A new variable. -/
theorem wp_alloc {t : TypeId} (z : Value) (hz : (P.info? t).map (·.zero) = some (some z))
    (h : K (a.put dst (.pointer (some ⟨w.heap.size, 0, none⟩))) (w.alloc (.cells z.cells t))) : (⟨dst, .alloc t, ty, pos, aft, none⟩ : Oper).wp P a w K Q := by
  unfold Oper.wp execOp
  cases hq : P.info? t with
  | none => simp [hq] at hz
  | some i =>
    have hzz : i.zero = some z := by simpa [hq] using hz
    simp only [Instr.alloc, zeroValue, typeInfo, Sem.run_bind, Sem.run_pure]
    simp [hq, hzz, newVar, newRow]
    exact h
theorem wpl_alloc {t : TypeId} (z : Value) (hz : (P.info? t).map (·.zero) = some (some z))
    (h : wpList P ops Q rest (a.put dst (.pointer (some ⟨w.heap.size, 0, none⟩))) (w.alloc (.cells z.cells t))) : wpList P ops Q (⟨dst, .alloc t, ty, pos, aft, none⟩ :: rest) a w :=
  wpList_plain rfl fun _ hK => wp_alloc z hz (hK _ _ h)

/-- A whole value into the variable that was made last. -/
theorem wp_store_new {t : TypeId} {x y : Operand} (w0 : World) (c cells : Array Value) (hx : a.eval x = .pointer (some ⟨w0.heap.size, 0, none⟩)) (hy : a.eval y = .agg cells)
    (hi : (P.info? t).map (·.size) = some cells.size) (hc : c.size = cells.size) (h1 : cells.all (·.oneCell') = true)
    (h : K (a.put dst undef) (w0.alloc (.cells cells t))) : (⟨dst, .store t x y, ty, pos, aft, none⟩ : Oper).wp P a (w0.alloc (.cells c t)) K Q := by
  unfold Oper.wp execOp
  simp only [hx, hy, Sem.run_bind, run_storeAt_new w0 t c cells hi hc h1, Result.andThen_ok, Sem.run_pure]
  exact h
theorem wpl_store_new {t : TypeId} {x y : Operand} (w0 : World) (c cells : Array Value) (hx : a.eval x = .pointer (some ⟨w0.heap.size, 0, none⟩)) (hy : a.eval y = .agg cells)
    (hi : (P.info? t).map (·.size) = some cells.size) (hc : c.size = cells.size) (h1 : cells.all (·.oneCell') = true)
    (h : wpList P ops Q rest (a.put dst undef) (w0.alloc (.cells cells t))) : wpList P ops Q (⟨dst, .store t x y, ty, pos, aft, none⟩ :: rest) a (w0.alloc (.cells c t)) :=
  wpList_plain rfl fun _ hK => wp_store_new w0 c cells hx hy hi hc h1 (hK _ _ h)

/-! An array or a struct out of the middle of a block. -/
theorem gives_load_mid {t : TypeId} {x : Operand} (b off : Nat) (hx : a.eval x = .pointer (some ⟨b, off, none⟩)) (cs : List Value) (d : TypeDesc) (hc : w.rangeAt b off cs)
    (hu : P.underlying t = some d) (hd : d.isRow = true) (hi : (P.info? t).map (·.size) = some cs.length) (h : next (a.put dst (.agg cs.toArray))) : Oper.gives P (⟨dst, .load t x, ty, pos, aft, none⟩ : Oper) a w next := by
  unfold Oper.gives execOp
  simp only [hx, Sem.run_bind, run_loadAt_mid w b off t cs d hc hu hd hi, Result.andThen_ok, Sem.run_pure, Oper.givesUpon_value]
  exact h

theorem Sees.take {w : World} {size : Nat} {v : Value} {n : Nat} {xs : List Value} (h : Sees w size v n xs) (m : Nat) (hm : m ≤ n) :
    (Builtin.firstCells size m v).run P w = .ok (xs.take (m * size)).toArray w := by
  obtain ⟨hl, _, xo, c, rfl, hc⟩ := h
  by_cases h0 : m = 0
  · subst h0
    cases xo <;> simp [Builtin.firstCells, loadCells, loadCellsFrom]
  · obtain ⟨b, off, rfl, hr⟩ := hc (by omega)
    refine run_firstCells_some w size m ⟨b, off, none⟩ n c (xs.take (m * size)) ?_ fun j v hj => ?_
    · rw [List.length_take, hl]
      exact Nat.min_eq_left (Nat.mul_le_mul_right _ hm)
    · rw [Addr.add_mid]
      refine hr j v ?_
      rw [List.getElem?_take] at hj
      split at hj
      · exact hj
      · cases hj
theorem Sees.len {w : World} {size : Nat} {v : Value} {n : Nat} {xs : List Value} (h : Sees w size v n xs) : (Builtin.lenOf v).run P w = .ok n w := by
  obtain ⟨_, _, xo, c, rfl, _⟩ := h
  simp [Builtin.lenOf]

/-! A slice written out, of one element. -/
theorem run_buildSlice_one (w : World) (t e : TypeId) (v : Value) (ie : TypeInfo) (z : Value) (hu : P.underlying t = some (.slice e)) (hie : P.info? e = some ie) (hz : ie.zero = some z)
    (hpos : 0 < ie.size) (hsmall : ie.size ≤ 16777216) (hv : v.cells.size = ie.size) :
    (Instr.buildSlice t 1 #[(0, v)]).run P w = .ok (.slice (some ⟨w.heap.size, 0, none⟩) 1 1) (w.alloc (.cells v.cells e)) := by
  refine run_buildSlice w t e 1 #[(0, v)] v.cells ie z hu hie hz (by omega) (by omega) ?_
  have h := Great.fill_whole hpos [v] ((Array.range (1 * ie.size)).map (z.cells[· % z.cells.size]!)) (fun x hx => by simp at hx; rw [hx]; exact hv) (by simp)
  simpa using h
theorem wp_buildSlice_one {t : TypeId} {x : Operand} (e : TypeId) (size bytes : Nat) (z v : Value) (hu : P.underlying t = some (.slice e)) (hinfo : (P.info? e).map (fun i => (i.zero, i.size, i.bytes)) = some (some z, size, bytes))
    (hpos : 0 < size) (hsmall : size ≤ 16777216) (hx : a.eval x = v) (hv : v.cells.size = size)
    (h : K (a.put dst (.slice (some ⟨w.heap.size, 0, none⟩) 1 1)) (w.alloc (.cells v.cells e))) : (⟨dst, .buildSlice t 1 #[(0, x)], ty, pos, aft, none⟩ : Oper).wp P a w K Q := by
  obtain ⟨ie, hie, hz, hz1, _⟩ := info_parts hinfo
  subst hz1
  unfold Oper.wp execOp
  subst hx
  simp only [Sem.run_bind, List.map_toArray, List.map_cons, List.map_nil, run_buildSlice_one w t e _ ie z hu hie hz hpos hsmall hv, Result.andThen_ok, Sem.run_pure]
  exact h

/-! append onto a row of one's own. -/
theorem run_append_sees (w : World) (base : Nat) (t ty e : TypeId) (size bytes : Nat) (z : Value) (hu : P.underlying t = some (.slice e)) (hinfo : (P.info? e).map (fun i => (i.zero, i.size, i.bytes)) = some (some z, size, bytes))
    (hzs : z.cells.size = size) (hpos : 0 < size) (v : Value) (n : Nat) (xs : List Value) (hown : w.ownsRow base e size v n xs) (x : Value) (m : Nat) (news : List Value) (hx : Sees w size x m news) (h1 : ∀ u ∈ news, u.oneCell' = true)
    (h63 : n + m ≤ maxLen) (hbytes : (n + m) * bytes ≤ 140737488355328) (hbase : base ≤ w.heap.size) :
    ∃ x' c' w', (Builtin.append_ #[t, t] ty #[v, x]).run P w = .ok (.slice x' (n + m) c') w' ∧ w'.ownsRow base e size (.slice x' (n + m) c') (n + m) (xs ++ news) ∧ w.grownBy w' v.ownBlock ∧
      ((Value.slice x' (n + m) c').ownBlock = v.ownBlock ∨ (Value.slice x' (n + m) c').ownBlock = some w.heap.size) := by
  obtain ⟨i, hi, hz, hz1, hz2⟩ := info_parts hinfo
  obtain ⟨hl, _, xo, c, rfl, hc⟩ := hx
  cases xo with
  | none =>
    have h0 : m = 0 := by
      rcases Nat.eq_zero_or_pos m with h | h
      · exact h
      · obtain ⟨_, _, e, _⟩ := hc h; cases e
    subst h0
    have hn : news = [] := List.eq_nil_of_length_eq_zero (by simpa using hl)
    subst hn
    obtain ⟨x', c', rfl⟩ := (sees_of_row hown).2.2 |> fun ⟨x', c', e, _⟩ => (⟨x', c', e⟩ : ∃ x' c', v = Value.slice x' n c')
    have hr := run_append_owned_none (P := P) w base t ty e i size hu hi _ n xs hown
    have hr2 : (Builtin.append_ #[t, t] ty #[.slice x' n c', .slice none 0 c]).run P w = .ok (.slice x' n c') w := hr
    exact ⟨x', c', w, hr2, by simpa using hown, ⟨rfl, rfl, rfl, Nat.le_refl _, fun _ _ _ => rfl⟩, .inl rfl⟩
  | some ad =>
    obtain ⟨v', w', hr, h2, h3, _, h5⟩ := run_append_own_at (P := P) w base t ty e i z size bytes hu hi hz hz1 hz2 hzs hpos v n xs hown ad m c news hl
      (fun j u hj => by
        have hm0 : 0 < m := by
          rcases Nat.eq_zero_or_pos m with h | h
          · subst h
            have hn : news = [] := List.eq_nil_of_length_eq_zero (by simpa using hl)
            rw [hn] at hj; cases hj
          · exact h
        obtain ⟨b, off, e, hr⟩ := hc hm0
        cases e
        rw [Addr.add_mid]; exact hr j u hj) h1 h63 hbytes hbase
    obtain ⟨x', c', rfl⟩ := (sees_of_row h2).2.2 |> fun ⟨x', c', e, _⟩ => (⟨x', c', e⟩ : ∃ x' c', v' = Value.slice x' (n + m) c')
    exact ⟨x', c', w', hr, h2, h3, h5⟩
theorem wp_append_sees {s x : Operand} {t : TypeId} (base : Nat) (e : TypeId) (size bytes : Nat) (z : Value) (v : Value) (n : Nat) (xs : List Value) (m : Nat) (news : List Value)
    (hu : P.underlying t = some (.slice e)) (hinfo : (P.info? e).map (fun i => (i.zero, i.size, i.bytes)) = some (some z, size, bytes)) (hzs : z.cells.size = size) (hpos : 0 < size)
    (hs : a.eval s = v) (hown : w.ownsRow base e size v n xs) (hx : Sees w size (a.eval x) m news) (h1 : ∀ u ∈ news, u.oneCell' = true)
    (h63 : n + m ≤ maxLen) (hbytes : (n + m) * bytes ≤ 140737488355328) (hbase : base ≤ w.heap.size)
    (h : ∀ x' c' w', w'.ownsRow base e size (.slice x' (n + m) c') (n + m) (xs ++ news) → w.grownBy w' v.ownBlock → ((Value.slice x' (n + m) c').ownBlock = v.ownBlock ∨ (Value.slice x' (n + m) c').ownBlock = some w.heap.size) →
      K (a.put dst (.slice x' (n + m) c')) w') : (⟨dst, .call { callee := .builtin .append, args := #[s, x], argTypes := #[t, t] }, ty, pos, aft, none⟩ : Oper).wp P a w K Q := by
  obtain ⟨x', c', w', hr, h2, h3, h4⟩ := run_append_sees (P := P) w base t ty e size bytes z hu hinfo hzs hpos v n xs hown (a.eval x) m news hx h1 h63 hbytes hbase
  unfold Oper.wp execOp
  simp only [resolve, invoke, builtin, Sem.run_bind, Sem.run_pure, Result.andThen_ok, List.map_toArray, List.map_cons, List.map_nil, hs, hr]
  exact h x' c' w' h2 h3 h4
theorem wpl_append_sees {s x : Operand} {t : TypeId} (base : Nat) (e : TypeId) (size bytes : Nat) (z : Value) (v : Value) (n : Nat) (xs : List Value) (m : Nat) (news : List Value)
    (hu : P.underlying t = some (.slice e)) (hinfo : (P.info? e).map (fun i => (i.zero, i.size, i.bytes)) = some (some z, size, bytes)) (hzs : z.cells.size = size) (hpos : 0 < size)
    (hs : a.eval s = v) (hown : w.ownsRow base e size v n xs) (hx : Sees w size (a.eval x) m news) (h1 : ∀ u ∈ news, u.oneCell' = true)
    (h63 : n + m ≤ maxLen) (hbytes : (n + m) * bytes ≤ 140737488355328) (hbase : base ≤ w.heap.size)
    (h : ∀ x' c' w', w'.ownsRow base e size (.slice x' (n + m) c') (n + m) (xs ++ news) → w.grownBy w' v.ownBlock → ((Value.slice x' (n + m) c').ownBlock = v.ownBlock ∨ (Value.slice x' (n + m) c').ownBlock = some w.heap.size) →
      wpList P ops Q rest (a.put dst (.slice x' (n + m) c')) w') : wpList P ops Q (⟨dst, .call { callee := .builtin .append, args := #[s, x], argTypes := #[t, t] }, ty, pos, aft, none⟩ :: rest) a w :=
  wpList_plain rfl fun _ hK => wp_append_sees base e size bytes z v n xs m news hu hinfo hzs hpos hs hown hx h1 h63 hbytes hbase fun x' c' w' h2 h3 h4 => hK _ _ (h x' c' w' h2 h3 h4)

/-! Blocks behind stores of many cells. -/
theorem heap_setCells_same (g : Nat) (t : TypeId) : ∀ (vs : List Value) (off : Nat) (cur : List Value) (w : World), w.heap[g]? = some (.cells cur.toArray t (0, 0)) → off + vs.length ≤ cur.length →
    (w.setCells g off vs).heap[g]? = some (.cells (splice cur off vs).toArray t (0, 0))
  | [], off, cur, w, hg, _ => by simp [World.setCells, splice, hg]
  | v :: r, off, cur, w, hg, hl => by
    simp only [List.length_cons] at hl
    rw [World.setCells]
    have h1 := heap_setCell_same w g off cur.toArray t v hg
    have h2 := heap_setCells_same g t r (off + 1) (cur.set off v) _ (by rw [h1]; simp) (by simp; omega)
    rw [h2]
    congr 2
    simp only [splice]
    congr 1
    rw [List.take_succ_eq_append_getElem (by simp; omega), List.take_set_of_le (Nat.le_refl _), List.append_assoc, List.drop_set]
    simp
    rw [if_pos (by omega)]
    congr 1; omega
theorem heap_setCells_other (g : Nat) : ∀ (vs : List Value) (off : Nat) (w : World) (k : Nat), k ≠ g → (w.setCells g off vs).heap[k]? = w.heap[k]?
  | [], _, _, _, _ => rfl
  | v :: r, off, w, k, hk => by
    rw [World.setCells, heap_setCells_other g r (off + 1) _ k hk]
    exact heap_setCell_other w ⟨g, off, none⟩ k v hk
theorem size_setCells (g : Nat) : ∀ (vs : List Value) (off : Nat) (w : World), (w.setCells g off vs).heap.size = w.heap.size
  | [], _, _ => rfl
  | v :: r, off, w => by rw [World.setCells, size_setCells g r]; simp
theorem upd_setCells (g : Nat) : ∀ (vs : List Value) (off : Nat) {F : Nat → Prop} {a w : World}, Upd F a w → (F g ∨ a.heap.size ≤ g) → Upd F a (w.setCells g off vs)
  | [], _, _, _, _, h, _ => h
  | v :: r, off, _, _, _, h, hp => upd_setCells g r (off + 1) (h.setCell v hp) hp

theorem run_storeCells_set (g o : Nat) (vs : List Value) (w : World) (ht : w.there g o vs.length) (h1 : ∀ v ∈ vs, v.oneCell' = true) :
    (storeCells ⟨g, o, none⟩ vs).run P w = .ok () (w.setCells g o vs) := by
  have h := run_storeCells_cells (P := P) g o vs 0 w (fun j hj => by rw [Nat.add_zero]; exact (ht j hj).1) (fun j hj => by rw [Nat.add_zero]; exact (ht j hj).2) h1
  simpa using h

/-! copy into cells that are there. -/
theorem run_copy_sees (w : World) (dT sT ty elem : TypeId) (g off dLen dCap : Nat) (v : Value) (size n : Nat) (xs : List Value) (hu : P.underlying dT = some (.slice elem)) (hs : (P.info? elem).map (·.size) = some size)
    (hv : Sees w size v n xs) (ht : w.there g off (min n dLen * size)) (h1 : ∀ u ∈ xs, u.oneCell' = true) :
    (Builtin.copy_ #[dT, sT] ty #[.slice (some ⟨g, off, none⟩) dLen dCap, v]).run P w = .ok (goInt (min n dLen : Nat)) (w.setCells g off (xs.take (min n dLen * size))) := by
  cases hq : P.info? elem with
  | none => simp [hq] at hs
  | some i =>
    have hi : i.size = size := by simpa [hq] using hs
    have hm : Nat.min n dLen = min n dLen := rfl
    have hl : (xs.take (min n dLen * size)).length = min n dLen * size := by
      rw [List.length_take, hv.1]; exact Nat.min_eq_left (Nat.mul_le_mul_right _ (Nat.min_le_left _ _))
    have hst := run_storeCells_set (P := P) g off (xs.take (min n dLen * size)) w (by rw [hl]; exact ht) (fun u hu => h1 u (List.mem_of_mem_take hu))
    simp [Builtin.copy_, run_underlying hu, hv.len, sizeOf, typeInfo, hq, hi, hm, hv.take (P := P) (min n dLen) (Nat.min_le_left _ _), hst]
theorem wp_copy_sees {d s : Operand} {dT sT : TypeId} (elem : TypeId) (hu : P.underlying dT = some (.slice elem)) (size : Nat) (hs : (P.info? elem).map (·.size) = some size)
    (g off dLen dCap : Nat) (hd : a.eval d = .slice (some ⟨g, off, none⟩) dLen dCap) (n : Nat) (xs : List Value) (hv : Sees w size (a.eval s) n xs) (ht : w.there g off (min n dLen * size)) (h1 : ∀ u ∈ xs, u.oneCell' = true)
    (h : K (a.put dst (.int .i64 (min n dLen : Nat))) (w.setCells g off (xs.take (min n dLen * size)))) : (⟨dst, .call { callee := .builtin .copy, args := #[d, s], argTypes := #[dT, sT] }, ty, pos, aft, none⟩ : Oper).wp P a w K Q := by
  unfold Oper.wp execOp
  simp only [resolve, invoke, builtin, Sem.run_bind, Sem.run_pure, Result.andThen_ok, List.map_toArray, List.map_cons, List.map_nil, hd, run_copy_sees w dT sT ty elem g off dLen dCap _ size n xs hu hs hv ht h1]
  exact h
theorem wpl_copy_sees {d s : Operand} {dT sT : TypeId} (elem : TypeId) (hu : P.underlying dT = some (.slice elem)) (size : Nat) (hs : (P.info? elem).map (·.size) = some size)
    (g off dLen dCap : Nat) (hd : a.eval d = .slice (some ⟨g, off, none⟩) dLen dCap) (n : Nat) (xs : List Value) (hv : Sees w size (a.eval s) n xs) (ht : w.there g off (min n dLen * size)) (h1 : ∀ u ∈ xs, u.oneCell' = true)
    (h : wpList P ops Q rest (a.put dst (.int .i64 (min n dLen : Nat))) (w.setCells g off (xs.take (min n dLen * size)))) : wpList P ops Q (⟨dst, .call { callee := .builtin .copy, args := #[d, s], argTypes := #[dT, sT] }, ty, pos, aft, none⟩ :: rest) a w :=
  wpList_plain rfl fun _ hK => wp_copy_sees elem hu size hs g off dLen dCap hd n xs hv ht h1 (hK _ _ h)

theorem there_of_row {w : World} {g : Nat} {c : Array Value} {t : TypeId} (h : w.heap[g]? = some (.cells c t (0, 0))) {off n : Nat} (hn : off + n ≤ c.size) : w.there g off n := fun j hj => by
  rw [cell_of_row w g (off + j) c t (0, 0) h, frozen_of_row w g (off + j) c t h]
  simp; omega
theorem rangeAt_of_row {w : World} {g : Nat} {c : List Value} {t : TypeId} {fr : Nat × Nat} (h : w.heap[g]? = some (.cells c.toArray t fr)) {off : Nat} {xs : List Value} (hx : (c.drop off).take xs.length = xs) : w.rangeAt g off xs := fun j v hj => by
  rw [cell_of_row w g (off + j) c.toArray t fr h]
  rw [← hx, List.getElem?_take] at hj
  split at hj
  · simpa [List.getElem?_drop] using hj
  · cases hj
theorem Upd.range {F : Nat → Prop} {w w' : World} (h : Upd F w w') {b off : Nat} {xs : List Value} (hr : w.rangeAt b off xs) (hf : ¬ F b) : w'.rangeAt b off xs :=
  fun j v hj => h.cell_some (hr j v hj) hf
theorem Sees.upd {F : Nat → Prop} {w w' : World} (hu : Upd F w w') {size : Nat} {v : Value} {n : Nat} {xs : List Value} (h : Sees w size v n xs) (hf : ∀ k, v.ownBlock = some k → 0 < n → ¬ F k) : Sees w' size v n xs := by
  obtain ⟨hl, hm, xo, c, rfl, hc⟩ := h
  refine ⟨hl, hm, xo, c, rfl, fun h0 => ?_⟩
  obtain ⟨b, off, rfl, hr⟩ := hc h0
  exact ⟨b, off, rfl, hu.range hr (hf b rfl h0)⟩

theorem setCells_alloc (w : World) (t : TypeId) : ∀ (vs : List Value) (off : Nat) (c : List Value), off + vs.length ≤ c.length →
    (w.alloc (.cells c.toArray t)).setCells w.heap.size off vs = w.alloc (.cells (splice c off vs).toArray t)
  | [], off, c, _ => by simp [World.setCells, splice]
  | v :: r, off, c, hl => by
    simp only [List.length_cons] at hl
    rw [World.setCells, World.setCell_alloc_new, show c.toArray.setIfInBounds off v = (c.set off v).toArray from by simp, setCells_alloc w t r (off + 1) (c.set off v) (by simp; omega)]
    congr 3
    simp only [splice]
    rw [List.take_succ_eq_append_getElem (by simp; omega), List.take_set_of_le (Nat.le_refl _), List.append_assoc, List.drop_set]
    simp
    rw [if_pos (by omega)]
    congr 1; omega
theorem Sees.shape {w : World} {size : Nat} {v : Value} {n : Nat} {xs : List Value} (h : Sees w size v n xs) : ∃ x c, v = .slice x n c := by
  obtain ⟨_, _, xo, c, rfl, _⟩ := h
  exact ⟨xo, c, rfl⟩

/-! Rows of equal pieces. -/
theorem flat_length {α β : Type} (f : α → List β) (c : Nat) : ∀ (l : List α), (∀ x ∈ l, (f x).length = c) → (l.flatMap f).length = l.length * c
  | [], _ => by simp
  | x :: r, h => by
    rw [List.flatMap_cons, List.length_append, flat_length f c r (fun y hy => h y (List.mem_cons_of_mem _ hy)), h x (List.mem_cons_self ..), List.length_cons, Nat.succ_mul, Nat.add_comm]
theorem flat_piece {α β : Type} (f : α → List β) (c : Nat) : ∀ (l : List α) (k : Nat) (hk : k < l.length), (∀ x ∈ l, (f x).length = c) → ((l.flatMap f).drop (k * c)).take c = f l[k]
  | x :: r, 0, _, h => by
    rw [List.flatMap_cons, Nat.zero_mul, List.drop_zero, List.take_append_of_le_length (by rw [h x (List.mem_cons_self ..)]; exact Nat.le_refl _)]
    exact List.take_of_length_le (by rw [h x (List.mem_cons_self ..)]; exact Nat.le_refl _)
  | x :: r, k + 1, hk, h => by
    have hx := h x (List.mem_cons_self ..)
    rw [List.flatMap_cons, Nat.succ_mul, Nat.add_comm, ← hx, ← List.drop_drop, List.drop_left, hx]
    exact flat_piece f c r k (by simpa using hk) (fun y hy => h y (List.mem_cons_of_mem _ hy))
theorem flat_cell {α β : Type} (f : α → List β) (c : Nat) (l : List α) (h : ∀ x ∈ l, (f x).length = c) (k r : Nat) (hk : k < l.length) (hr : r < c) : (l.flatMap f)[k * c + r]? = (f l[k])[r]? := by
  rw [← flat_piece f c l k hk h, List.getElem?_take, if_pos hr, List.getElem?_drop]
theorem flat_set {α β : Type} (f : α → List β) (c : Nat) : ∀ (l : List α) (k : Nat) (y : α), k < l.length → (∀ x ∈ l, (f x).length = c) → (f y).length = c →
    splice (l.flatMap f) (k * c) (f y) = (l.set k y).flatMap f
  | x :: r, 0, y, _, h, hy => by
    have hx := h x (List.mem_cons_self ..)
    rw [List.flatMap_cons, List.set_cons_zero, List.flatMap_cons, splice, Nat.zero_mul, List.take_zero, List.nil_append, Nat.zero_add, hy, ← hx, List.drop_left]
  | x :: r, k + 1, y, hk, h, hy => by
    have hx := h x (List.mem_cons_self ..)
    have ih := flat_set f c r k y (by simpa using hk) (fun z hz => h z (List.mem_cons_of_mem _ hz)) hy
    rw [List.flatMap_cons, List.set_cons_succ, List.flatMap_cons, ← ih, splice, splice, Nat.succ_mul, Nat.add_comm (k * c) c, ← hx, List.take_length_add_append, Nat.add_assoc, List.drop_length_add_append, List.append_assoc]
theorem row_range {w : World} {base : Nat} {e : TypeId} {size : Nat} {g n cap : Nat} {xs : List Value} (hr : w.ownsRow base e size (.slice (some ⟨g, 0, none⟩) n cap) n xs) {off : Nat} {ys : List Value} (hy : (xs.drop off).take ys.length = ys) :
    w.rangeAt g off ys := by
  rcases hr.2 with ⟨h, _⟩ | ⟨g', cap', cur, h, _, hg, _, _, _, ht⟩
  · cases h
  · cases h
    intro j u hj
    rw [cell_of_row w g (off + j) cur e (0, 0) hg]
    rw [← hy, List.getElem?_take] at hj
    split at hj
    · rw [List.getElem?_drop, ← ht, List.getElem?_take] at hj
      split at hj
      · simpa using hj
      · cases hj
    · cases hj
theorem rangeAt.cell {w : World} {b off : Nat} {xs : List Value} (h : w.rangeAt b off xs) (j : Nat) {v : Value} (hj : xs[j]? = some v) : w.cell? ⟨b, off + j, none⟩ = some v := h j v hj
theorem rangeAt.sub {w : World} {b off : Nat} {xs : List Value} (h : w.rangeAt b off xs) (k : Nat) {ys : List Value} (hy : (xs.drop k).take ys.length = ys) : w.rangeAt b (off + k) ys := fun j u hj => by
  rw [Nat.add_assoc]
  refine h (k + j) u ?_
  rw [← hy, List.getElem?_take] at hj
  split at hj
  · rwa [List.getElem?_drop] at hj
  · cases hj
theorem take_splice {α : Type} (cur ys : List α) (m off : Nat) (h : off + ys.length ≤ m) (hm : m ≤ cur.length) : (splice cur off ys).take m = splice (cur.take m) off ys := by
  simp only [splice]
  rw [List.take_append, List.take_append, List.length_take, List.drop_take, Nat.min_eq_left (show off ≤ cur.length by omega), List.take_take, List.take_take, Nat.min_eq_right (show off ≤ m by omega), Nat.min_eq_left (show off ≤ m by omega)]
  rw [List.take_of_length_le (show ys.length ≤ m - off by omega), Nat.sub_sub]
/-- The first cell of a row. -/
theorem row_some {w : World} {base : Nat} {e : TypeId} {size n : Nat} {x : Option Addr} {c : Nat} {xs : List Value} (h : w.ownsRow base e size (.slice x n c) n xs) (hn : 0 < n) :
    ∃ g, x = some ⟨g, 0, none⟩ ∧ base ≤ g ∧ g < w.heap.size ∧ ∀ j v, xs[j]? = some v → w.cell? ⟨g, j, none⟩ = some v := by
  obtain ⟨g, cap, hv, hb, hg⟩ := h.form hn
  cases hv
  exact ⟨g, rfl, hb, hg, fun j v hj => by have := h.cells (g := g) rfl j v hj; rwa [Addr.add_lit, Nat.zero_add] at this⟩
/-- A load of an array or a struct. -/
theorem wpl_load_mid {t : TypeId} {x : Operand} (b off : Nat) (cs : List Value) (d : TypeDesc) (hx : a.eval x = .pointer (some ⟨b, off, none⟩)) (hc : w.rangeAt b off cs)
    (hu : P.underlying t = some d) (hd : d.isRow = true) (hi : (P.info? t).map (·.size) = some cs.length) (h : wpList P ops Q rest (a.put dst (.agg cs.toArray)) w) : wpList P ops Q (⟨dst, .load t x, ty, pos, aft, none⟩ :: rest) a w :=
  wpList_load_mid rfl t x rfl b off hx cs d hc hu hd hi h
/-- A store of an array or a struct. -/
theorem wp_store_mid' {t : TypeId} {x y : Operand} (b off : Nat) (cells : List Value) (hx : a.eval x = .pointer (some ⟨b, off, none⟩)) (hy : a.eval y = .agg cells.toArray) (ht : w.there b off cells.length)
    (hi : (P.info? t).map (·.size) = some cells.length) (h1 : ∀ u ∈ cells, u.oneCell' = true) (h : K (a.put dst undef) (w.setCells b off cells)) : (⟨dst, .store t x y, ty, pos, aft, none⟩ : Oper).wp P a w K Q :=
  wp_store_mid t x y rfl b off cells.toArray hx hy (by simpa using ht) (by simpa using hi) (all_oneCell_toArray h1) (by simpa using h)
end
end Go.Proofs.YtbhmeagliebfdaaDoor
/- A region that draws its order, walked in one order (as XRegion), where a CALL that hands back one value and leaves the world as it is, in every world that meets S, is held too. -/
namespace Go.Proofs.YtbhmeagliebfdaaDoor
open Go

section
variable {P : Program} {ops : Array Oper} {Q : Exit → Act → World → Prop} {md : Region.Mode} {S : World → Prop} {z : Nat}

/-- In every world that meets S the operation comes to one value, by itself or by a call that leaves the world as it is. -/
def YieldsC (P : Program) (ops : Array Oper) (S : World → Prop) (o : Oper) (v : Value) (a : Act) : Prop :=
  (Region.wanted o (yielded ops a.tmps) = true ∧ ∀ w, S w → (execOp a.eval o).run P w = .ok (.value v) w ∨ ∃ f args, (execOp a.eval o).run P w = .ok (.enter f args) w ∧ Calls P f args w fun e w' => e = .returned v ∧ w = w') ∨
  (Region.wanted o (yielded ops a.tmps) = false ∧ v = undef)

theorem YieldsC.wpOp {i : Nat} {o : Oper} {v : Value} {a : Act} (hi : ops[i]? = some o) (hy : YieldsC P ops S o v a)
    {K : Act → World → Prop} {w : World} (hS : S w) (h : K (a.put o.dst v) w) : wpOp P ops Q i K a w := by
  unfold Go.wpOp
  simp only [hi]
  rcases hy with ⟨hw, hv⟩ | ⟨hw, rfl⟩
  · simp only [hw, if_true]
    refine .inl ?_
    rcases hv w hS with hv | ⟨f, args, hv, hc⟩
    · simp only [Oper.wp, hv, Oper.upon]; exact h
    · simp only [Oper.wp, hv, Oper.upon]
      refine Calls.mono hc ?_
      rintro e w' ⟨rfl, rfl⟩
      exact h
  · simp only [hw, Bool.false_eq_true, if_false]; exact h

theorem YieldsC.of_same {o : Oper} {v : Value} {a a' : Act} (hy : YieldsC P ops S o v a) (he : execOp a'.eval o = execOp a.eval o)
    (hw : Region.wanted o (yielded ops a'.tmps) = Region.wanted o (yielded ops a.tmps)) : YieldsC P ops S o v a' := by
  unfold YieldsC at *
  rw [he, hw]
  exact hy

/-- Another operation, apart from oi, leaves what oi looks at. -/
theorem wpOp_keeps {j : Nat} {oi oj : Oper} (hj : ops[j]? = some oj) (hap : oi.apart ops oj = true) (hsi : ∀ cs b, oi.op ≠ .select cs b) {K : Act → World → Prop} {a : Act} {w : World} (h : wpOp P ops Q j K a w) :
    wpOp P ops Q j (fun a' w' => (execOp a'.eval oi = execOp a.eval oi ∧ Region.wanted oi (yielded ops a'.tmps) = Region.wanted oi (yielded ops a.tmps)) ∧ K a' w') a w := by
  have h3 := (Oper.apart_spec hap).2.2
  have same : ∀ (b : Act) u, execOp (b.put oj.dst u).eval oi = execOp b.eval oi ∧ Region.wanted oi (yielded ops (b.put oj.dst u).tmps) = Region.wanted oi (yielded ops b.tmps) := fun b u =>
    ⟨execOp_put oi hsi b oj.dst u h3, wanted_put oi b oj.dst u h3⟩
  unfold wpOp at *
  simp only [hj] at *
  by_cases hw : Region.wanted oj (yielded ops a.tmps) = true
  · simp only [hw, if_true] at h ⊢
    refine h.imp (fun h => ?_) id
    unfold Oper.wp at *
    generalize (execOp a.eval oj).run P w = r at *
    match r, h with
    | .ok (.value u) w', h => exact ⟨same a u, h⟩
    | .ok .skip w', h => exact ⟨same a undef, h⟩
    | .ok (.defer d) w', h => exact ⟨same { a with defers := d :: a.defers } undef, h⟩
    | .ok (.enter f args) w', h =>
      refine Calls.mono h fun e w'' he => ?_
      cases e with
      | returned u => exact ⟨same a u, he⟩
      | panicked c => exact he
      | outgrown => exact he
    | .ok (.row row args) w', h => exact Rows.mono h fun u w'' he => ⟨same a u, he⟩
    | .halt (.panic u) w', h => exact h
  · simp only [hw] at h ⊢
    exact ⟨same a undef, h⟩

theorem wpOp_putC {j : Nat} {oi oj : Oper} {v : Value} (hj : ops[j]? = some oj) (hap : oi.apart ops oj = true)
    (hsi : ∀ cs b, oi.op ≠ .select cs b) (hsj : ∀ cs b, oj.op ≠ .select cs b)
    (hQ : ∀ c a w, Q (.panic c) (a.put oi.dst v) w → Q (.panic c) a w) {K : Act → World → Prop} {a : Act} {w : World}
    (hy : YieldsC P ops S oi v a) (h : wpOp P ops Q j K (a.put oi.dst v) w) :
    wpOp P ops Q j (fun a' w' => YieldsC P ops S oi v a' ∧ K (a'.put oi.dst v) w') a w := by
  have hF : YieldsIf P ops (fun _ => False) oi v a := hy.imp (fun h => ⟨h.1, fun _ h => h.elim⟩) id
  refine wpOp_mono (fun a' w' h3 => ⟨hy.of_same h3.1.1 h3.1.2, h3.2.2⟩) (wpOp_keeps hj hap hsi (wpOp_putIf hj hap hsi hsj hQ hF h))

theorem wpAnyZ_firstC {i : Nat} {oi : Oper} {v : Value} (hi : ops[i]? = some oi) (hsel : ∀ (j : Nat) (o : Oper) cs b, ops[j]? = some o → o.op ≠ .select cs b)
    (hQ : ∀ d v c a w, Q (.panic c) (Act.put a d v) w → Q (.panic c) a w) (hz : sinkOk md ops z = true) (hiz : i ≠ z) :
    ∀ (fuel : Nat) (listed : Array Bool) (a : Act) (w : World), (z < ops.size → HeadInv md ops z listed) →
      (∀ j oj, ops[j]? = some oj → j ≠ i → listed.getD j true = false → (∀ e ∈ oj.after, Region.binds md e = true → e.on ≠ i) → oi.apart ops oj = true) →
      i ∈ Region.ready md ops listed → YieldsC P ops S oi v a → S w →
      wpAnyZ P md ops Q S z fuel (listed.setIfInBounds i true) (a.put oi.dst v) w → wpAnyZ P md ops Q S z (fuel + 1) listed a w := by
  intro fuel
  induction fuel with
  | zero =>
    intro listed a w _ _ hr hy hS H
    refine ⟨fun h => absurd h (ne_nil_of_mem hr), fun j hj => ?_⟩
    by_cases hji : j = i
    · subst hji; exact hy.wpOp hi hS ⟨fun _ => hS, H⟩
    · have h2 := ready_mono hj hji
      rw [H.1] at h2
      cases h2
  | succ fuel ih =>
    intro listed a w inv hfree hr hy hS H
    refine ⟨fun h => absurd h (ne_nil_of_mem hr), fun j hj => ?_⟩
    by_cases hji : j = i
    · subst hji; exact hy.wpOp hi hS ⟨fun _ => hS, H⟩
    · have hjz := not_sink hz inv hr hiz hj
      have h1 := H.2 j (ready_mono hj hji)
      obtain ⟨hjun, oj, hoj, hall⟩ := mem_ready.1 hj
      have hun := (mem_ready.1 hr).1
      have hnot : ∀ e ∈ oj.after, Region.binds md e = true → e.on ≠ i := fun e he hb heq => by
        have h3 := hall e he hb
        rw [heq, getD_both hun] at h3
        cases h3
      have h2 := wpOp_putC hoj (hfree j oj hoj hji hjun hnot) (fun cs b => hsel i oi cs b hi) (fun cs b => hsel j oj cs b hoj) (hQ oi.dst v) hy h1
      have hfree' : ∀ k ok, ops[k]? = some ok → k ≠ i → (listed.setIfInBounds j true).getD k true = false →
          (∀ e ∈ ok.after, Region.binds md e = true → e.on ≠ i) → oi.apart ops ok = true := fun k ok hk hki hk2 hno => by
        refine hfree k ok hk hki ?_ hno
        by_cases hjk : j = k
        · subst hjk; exact hjun
        · rw [getD_set_ne true hjk] at hk2; exact hk2
      refine wpOp_mono (fun a' w' h3 => ?_) h2
      obtain ⟨hya, hS', H'⟩ := h3
      refine ⟨fun _ => hS' hjz, ih (listed.setIfInBounds j true) a' w' (inv_set hz inv hj hjz) hfree' (ready_mono hr (Ne.symm hji)) hya (hS' hjz) ?_⟩
      rw [Array.setIfInBounds_comm _ _ hji]
      exact H'

/-- The walk along a plan. -/
def wpPlanC (P : Program) (ops : Array Oper) (Q : Exit → Act → World → Prop) (S : World → Prop) (z : Nat) : List (Nat × Bool) → Act → World → Prop
  | [], a, w => Q .normal a w
  | (i, true) :: r, a, w => ∃ oi v, ops[i]? = some oi ∧ YieldsC P ops S oi v a ∧ wpPlanC P ops Q S z r (a.put oi.dst v) w
  | (i, false) :: r, a, w => wpOp P ops Q i (fun a' w' => (i ≠ z → S w') ∧ wpPlanC P ops Q S z r a' w') a w

theorem wpAnyZ_of_planC (hsel : Region.noSelect ops = true) (hQ : ∀ d v c a w, Q (.panic c) (Act.put a d v) w → Q (.panic c) a w) (hz : sinkOk md ops z = true) :
    ∀ (plan : List (Nat × Bool)) (listed : Array Bool) (a : Act) (w : World), (plan ≠ [] → z < ops.size → HeadInv md ops z listed) → planOk md ops z plan listed = true → (plan ≠ [] → S w) →
      wpPlanC P ops Q S z plan a w → wpAnyZ P md ops Q S z plan.length listed a w
  | [], listed, a, w, _, hB, _, h => ⟨by simpa [planOk] using hB, h⟩
  | (i, true) :: r, listed, a, w, inv, hB, hS, h => by
    obtain ⟨oi, v, hi, hy, hr⟩ := h
    simp only [planOk, Bool.and_eq_true, decide_eq_true_eq] at hB
    obtain ⟨⟨⟨hiz, hc⟩, hf⟩, hB'⟩ := hB
    have hrd : i ∈ Region.ready md ops listed := by simpa using hc
    have inv0 := inv (by simp)
    exact wpAnyZ_firstC hi (Region.noSelect_spec hsel) hQ hz hiz r.length listed a w inv0 (Region.free_spec hi hf) hrd hy (hS (by simp))
      (wpAnyZ_of_planC hsel hQ hz r _ _ _ (fun _ => inv_set hz inv0 hrd hiz) hB' (fun _ => hS (by simp)) hr)
  | (i, false) :: r, listed, a, w, inv, hB, hS, h => by
    simp only [planOk, Bool.and_eq_true, decide_eq_true_eq] at hB
    obtain ⟨⟨hrd, hzr⟩, hB'⟩ := hB
    have inv0 := inv (by simp)
    refine ⟨fun h0 => (by rw [hrd] at h0; cases h0), fun j hj => ?_⟩
    have hj' : j = i := by rw [hrd] at hj; simpa using hj
    subst hj'
    refine wpOp_mono (fun a' w' h3 => ⟨h3.1, ?_⟩) h
    refine wpAnyZ_of_planC hsel hQ hz r _ _ _ (fun hr => inv_set hz inv0 hj (fun e => hr (hzr e))) hB' (fun hr => h3.1 (fun e => hr (hzr e))) h3.2

theorem wp_region_planC {id : Nat} {a : Act} {w : World} {l : List Oper} (S : World → Prop) (z : Nat) (plan : List (Nat × Bool)) (hm : P.follows .mixedOrders = true)
    (hB : (Region.noSelect l.toArray && sinkOk .any l.toArray z && decide (plan.length = l.length) && planOk .any l.toArray z plan (Array.replicate l.length false)) = true)
    (hQ : ∀ d v c a w, Q (.panic c) (Act.put a d v) w → Q (.panic c) a w) (hS : S w.drew)
    (h : wpPlanC P l.toArray Q S z plan a w.drew) : (Code.region id l.toArray true).wp P Q a w := by
  simp only [Bool.and_eq_true, decide_eq_true_eq] at hB
  obtain ⟨⟨⟨hsel, hz⟩, hlen⟩, hp⟩ := hB
  refine wp_region_any hm ?_
  have inv0 : z < l.toArray.size → HeadInv .any l.toArray z (Array.replicate l.toArray.size false) := fun _ =>
    ⟨by simp, fun j oj _ hl => (by rw [getD_replicate_false] at hl; cases hl), fun t _ ht => getD_in (by simpa using ht) (getD_replicate_false _ _)⟩
  have H := wpAnyZ_of_planC (md := .any) (S := S) (z := z) hsel hQ hz plan (Array.replicate l.length false) a w.drew (fun _ hlt => by simpa using inv0 hlt) hp (fun _ => hS) h
  have := wpAny_of_Z _ _ _ _ H
  rw [hlen] at this
  simpa using this

theorem planC_held {o : Oper} {i : Nat} {r : List (Nat × Bool)} {a A : Act} {w : World} {d : Nat} (ho : ops[i]? = some o) (hg : o.guard = none) (hd : o.dst = some d) (hsz : d < a.tmps.size) (hS0 : S w)
    (h : ∀ w', S w' → ∀ K : Act → Prop, K A → Oper.gives P o a w' K) (hr : wpPlanC P ops Q S z r A w) : wpPlanC P ops Q S z ((i, true) :: r) a w := by
  have key : ∀ w', S w' → ∃ v, (execOp a.eval o).run P w' = .ok (.value v) w' ∧ a.put o.dst v = A := fun w' hS' => by
    have h1 := h w' hS' (fun x => x = A) rfl
    unfold Oper.gives at h1
    generalize (execOp a.eval o).run P w' = res at *
    cases res with
    | ok n w'' =>
      cases n <;> simp only [Oper.givesUpon] at h1
      case value v => obtain ⟨rfl, h2⟩ := h1; exact ⟨v, rfl, h2⟩
    | halt x w'' => simp only [Oper.givesUpon] at h1
  obtain ⟨v, hv, hA⟩ := key w hS0
  have hval : ∀ u, a.put o.dst u = A → u = v := fun u hu => by
    rw [hd] at hu hA
    have e1 := put_get (v := u) hsz
    have e2 := put_get (v := v) hsz
    rw [hu] at e1
    rw [hA] at e2
    exact e1.symm.trans e2
  refine ⟨o, v, ho, .inl ⟨by simp [Region.wanted, hg], fun w' hS' => .inl ?_⟩, by rw [hA]; exact hr⟩
  obtain ⟨u, hu, hA'⟩ := key w' hS'
  rw [hu, hval u hA']

/-- A guarded operation that isn't wanted. -/
theorem planC_skip {o : Oper} {i : Nat} {r : List (Nat × Bool)} {a : Act} {w : World} (ho : ops[i]? = some o) (hw : Region.wanted o (yielded ops a.tmps) = false)
    (hr : wpPlanC P ops Q S z r (a.put o.dst undef) w) : wpPlanC P ops Q S z ((i, true) :: r) a w :=
  ⟨o, undef, ho, .inr ⟨hw, rfl⟩, hr⟩

/-- A guarded operation that is wanted. -/
theorem planC_wanted {o : Oper} {i : Nat} {r : List (Nat × Bool)} {a A : Act} {w : World} {d : Nat} (ho : ops[i]? = some o) (hw : Region.wanted o (yielded ops a.tmps) = true) (hd : o.dst = some d) (hsz : d < a.tmps.size) (hS0 : S w)
    (h : ∀ w', S w' → ∀ K : Act → Prop, K A → Oper.gives P o a w' K) (hr : wpPlanC P ops Q S z r A w) : wpPlanC P ops Q S z ((i, true) :: r) a w := by
  have key : ∀ w', S w' → ∃ v, (execOp a.eval o).run P w' = .ok (.value v) w' ∧ a.put o.dst v = A := fun w' hS' => by
    have h1 := h w' hS' (fun x => x = A) rfl
    unfold Oper.gives at h1
    generalize (execOp a.eval o).run P w' = res at *
    cases res with
    | ok n w'' =>
      cases n <;> simp only [Oper.givesUpon] at h1
      case value v => obtain ⟨rfl, h2⟩ := h1; exact ⟨v, rfl, h2⟩
    | halt x w'' => simp only [Oper.givesUpon] at h1
  obtain ⟨v, hv, hA⟩ := key w hS0
  have hval : ∀ u, a.put o.dst u = A → u = v := fun u hu => by
    rw [hd] at hu hA
    have e1 := put_get (v := u) hsz
    have e2 := put_get (v := v) hsz
    rw [hu] at e1
    rw [hA] at e2
    exact e1.symm.trans e2
  refine ⟨o, v, ho, .inl ⟨hw, fun w' hS' => .inl ?_⟩, by rw [hA]; exact hr⟩
  obtain ⟨u, hu, hA'⟩ := key w' hS'
  rw [hu, hval u hA']

/-- An operation that comes up alone. -/
theorem planC_do {o : Oper} {i : Nat} {r : List (Nat × Bool)} {a : Act} {w : World} (ho : ops[i]? = some o)
    (h : ∀ K : Act → World → Prop, (∀ a' w', (i ≠ z → S w') → wpPlanC P ops Q S z r a' w' → K a' w') → if Region.wanted o (yielded ops a.tmps) = true then o.wp P a w K Q else K (a.put o.dst undef) w) :
    wpPlanC P ops Q S z ((i, false) :: r) a w :=
  wpOp_step ho fun K' hK => h K' fun a' w' h1 h2 => hK a' w' ⟨h1, h2⟩
theorem planC_op {o : Oper} {i : Nat} {r : List (Nat × Bool)} {a : Act} {w : World} (ho : ops[i]? = some o) (hg : o.guard = none)
    (h : ∀ K : Act → World → Prop, (∀ a' w', (i ≠ z → S w') → wpPlanC P ops Q S z r a' w' → K a' w') → o.wp P a w K Q) : wpPlanC P ops Q S z ((i, false) :: r) a w :=
  planC_do ho fun K hK => by simp only [Region.wanted, hg, if_true]; exact h K hK
theorem planC_nil {a : Act} {w : World} (h : Q .normal a w) : wpPlanC P ops Q S z [] a w := h
/-- A call that leaves the world as it is, in every world that meets S. -/
theorem planC_call {o : Oper} {i : Nat} {r : List (Nat × Bool)} {a : Act} {w : World} (v : Value) (ho : ops[i]? = some o) (hg : o.guard = none)
    (h : ∀ w', S w' → ∃ f args, (execOp a.eval o).run P w' = .ok (.enter f args) w' ∧ Calls P f args w' fun e w'' => e = .returned v ∧ w' = w'') (hr : wpPlanC P ops Q S z r (a.put o.dst v) w) : wpPlanC P ops Q S z ((i, true) :: r) a w :=
  ⟨o, v, ho, .inl ⟨by simp [Region.wanted, hg], fun w' hS' => .inr (h w' hS')⟩, hr⟩

end
end Go.Proofs.YtbhmeagliebfdaaDoor
/- A region that draws its order, walked in one order (as XRegionC), where what is known of the world (S) may GROW behind an operation that comes up alone. -/
namespace Go.Proofs.YtbhmeagliebfdaaDoor
open Go

section
variable {P : Program} {ops : Array Oper} {Q : Exit → Act → World → Prop} {md : Region.Mode} {S : World → Prop} {z : Nat}

theorem wpAnyZ_grow {S' : World → Prop} (h : ∀ w, S' w → S w) : ∀ (fuel : Nat) (listed : Array Bool) (a : Act) (w : World), wpAnyZ P md ops Q S' z fuel listed a w → wpAnyZ P md ops Q S z fuel listed a w
  | 0, _, _, _, H => H
  | fuel + 1, _, _, _, H => ⟨H.1, fun i hi => wpOp_mono (fun a' w' h' => ⟨fun hz => h _ (h'.1 hz), wpAnyZ_grow h fuel _ a' w' h'.2⟩) (H.2 i hi)⟩

/-- The walk along a plan. -/
def wpPlanD (P : Program) (ops : Array Oper) (Q : Exit → Act → World → Prop) (z : Nat) : List (Nat × Bool) → (World → Prop) → Act → World → Prop
  | [], _, a, w => Q .normal a w
  | (i, true) :: r, S, a, w => ∃ oi v, ops[i]? = some oi ∧ YieldsC P ops S oi v a ∧ wpPlanD P ops Q z r S (a.put oi.dst v) w
  | (i, false) :: r, S, a, w => wpOp P ops Q i (fun a' w' => ∃ S' : World → Prop, (∀ u, S' u → S u) ∧ (i ≠ z → S' w') ∧ wpPlanD P ops Q z r S' a' w') a w

theorem wpAnyZ_of_planD (hsel : Region.noSelect ops = true) (hQ : ∀ d v c a w, Q (.panic c) (Act.put a d v) w → Q (.panic c) a w) (hz : sinkOk md ops z = true) :
    ∀ (plan : List (Nat × Bool)) (S : World → Prop) (listed : Array Bool) (a : Act) (w : World), (plan ≠ [] → z < ops.size → HeadInv md ops z listed) → planOk md ops z plan listed = true → (plan ≠ [] → S w) →
      wpPlanD P ops Q z plan S a w → wpAnyZ P md ops Q S z plan.length listed a w
  | [], S, listed, a, w, _, hB, _, h => ⟨by simpa [planOk] using hB, h⟩
  | (i, true) :: r, S, listed, a, w, inv, hB, hS, h => by
    obtain ⟨oi, v, hi, hy, hr⟩ := h
    simp only [planOk, Bool.and_eq_true, decide_eq_true_eq] at hB
    obtain ⟨⟨⟨hiz, hc⟩, hf⟩, hB'⟩ := hB
    have hrd : i ∈ Region.ready md ops listed := by simpa using hc
    have inv0 := inv (by simp)
    exact wpAnyZ_firstC hi (Region.noSelect_spec hsel) hQ hz hiz r.length listed a w inv0 (Region.free_spec hi hf) hrd hy (hS (by simp))
      (wpAnyZ_of_planD hsel hQ hz r _ _ _ _ (fun _ => inv_set hz inv0 hrd hiz) hB' (fun _ => hS (by simp)) hr)
  | (i, false) :: r, S, listed, a, w, inv, hB, hS, h => by
    simp only [planOk, Bool.and_eq_true, decide_eq_true_eq] at hB
    obtain ⟨⟨hrd, hzr⟩, hB'⟩ := hB
    have inv0 := inv (by simp)
    refine ⟨fun h0 => (by rw [hrd] at h0; cases h0), fun j hj => ?_⟩
    have hj' : j = i := by rw [hrd] at hj; simpa using hj
    subst hj'
    refine wpOp_mono (fun a' w' h3 => ?_) h
    obtain ⟨S', hSS, hS', h4⟩ := h3
    refine ⟨fun hz => hSS _ (hS' hz), wpAnyZ_grow hSS _ _ _ _ ?_⟩
    refine wpAnyZ_of_planD hsel hQ hz r S' _ _ _ (fun hr => inv_set hz inv0 hj (fun e => hr (hzr e))) hB' (fun hr => hS' (fun e => hr (hzr e))) h4

theorem wp_region_planD {id : Nat} {a : Act} {w : World} {l : List Oper} (S : World → Prop) (z : Nat) (plan : List (Nat × Bool)) (hm : P.follows .mixedOrders = true)
    (hB : (Region.noSelect l.toArray && sinkOk .any l.toArray z && decide (plan.length = l.length) && planOk .any l.toArray z plan (Array.replicate l.length false)) = true)
    (hQ : ∀ d v c a w, Q (.panic c) (Act.put a d v) w → Q (.panic c) a w) (hS : S w.drew)
    (h : wpPlanD P l.toArray Q z plan S a w.drew) : (Code.region id l.toArray true).wp P Q a w := by
  simp only [Bool.and_eq_true, decide_eq_true_eq] at hB
  obtain ⟨⟨⟨hsel, hz⟩, hlen⟩, hp⟩ := hB
  refine wp_region_any hm ?_
  have inv0 : z < l.toArray.size → HeadInv .any l.toArray z (Array.replicate l.toArray.size false) := fun _ =>
    ⟨by simp, fun j oj _ hl => (by rw [getD_replicate_false] at hl; cases hl), fun t _ ht => getD_in (by simpa using ht) (getD_replicate_false _ _)⟩
  have H := wpAnyZ_of_planD (md := .any) (z := z) hsel hQ hz plan S (Array.replicate l.length false) a w.drew (fun _ hlt => by simpa using inv0 hlt) hp (fun _ => hS) h
  have := wpAny_of_Z _ _ _ _ H
  rw [hlen] at this
  simpa using this

theorem held_key {o : Oper} {a A : Act} {w : World} {d : Nat} (hd : o.dst = some d) (hsz : d < a.tmps.size) (hS0 : S w)
    (h : ∀ w', S w' → ∀ K : Act → Prop, K A → Oper.gives P o a w' K) : ∃ v, (∀ w', S w' → (execOp a.eval o).run P w' = .ok (.value v) w') ∧ a.put o.dst v = A := by
  have key : ∀ w', S w' → ∃ v, (execOp a.eval o).run P w' = .ok (.value v) w' ∧ a.put o.dst v = A := fun w' hS' => by
    have h1 := h w' hS' (fun x => x = A) rfl
    unfold Oper.gives at h1
    generalize (execOp a.eval o).run P w' = res at *
    cases res with
    | ok n w'' =>
      cases n <;> simp only [Oper.givesUpon] at h1
      case value v => obtain ⟨rfl, h2⟩ := h1; exact ⟨v, rfl, h2⟩
    | halt x w'' => simp only [Oper.givesUpon] at h1
  obtain ⟨v, hv, hA⟩ := key w hS0
  refine ⟨v, fun w' hS' => ?_, hA⟩
  obtain ⟨u, hu, hA'⟩ := key w' hS'
  have : u = v := by
    rw [hd] at hA hA'
    have e1 := put_get (v := u) hsz
    have e2 := put_get (v := v) hsz
    rw [hA'] at e1
    rw [hA] at e2
    exact e1.symm.trans e2
  rw [hu, this]

theorem planD_held {o : Oper} {i : Nat} {r : List (Nat × Bool)} {a A : Act} {w : World} {d : Nat} (ho : ops[i]? = some o) (hg : o.guard = none) (hd : o.dst = some d) (hsz : d < a.tmps.size) (hS0 : S w)
    (h : ∀ w', S w' → ∀ K : Act → Prop, K A → Oper.gives P o a w' K) (hr : wpPlanD P ops Q z r S A w) : wpPlanD P ops Q z ((i, true) :: r) S a w := by
  obtain ⟨v, hv, hA⟩ := held_key hd hsz hS0 h
  exact ⟨o, v, ho, .inl ⟨by simp [Region.wanted, hg], fun w' hS' => .inl (hv w' hS')⟩, by rw [hA]; exact hr⟩
/-- A guarded operation that isn't wanted. -/
theorem planD_skip {o : Oper} {i : Nat} {r : List (Nat × Bool)} {a : Act} {w : World} (ho : ops[i]? = some o) (hw : Region.wanted o (yielded ops a.tmps) = false)
    (hr : wpPlanD P ops Q z r S (a.put o.dst undef) w) : wpPlanD P ops Q z ((i, true) :: r) S a w :=
  ⟨o, undef, ho, .inr ⟨hw, rfl⟩, hr⟩
/-- A guarded operation that is wanted. -/
theorem planD_wanted {o : Oper} {i : Nat} {r : List (Nat × Bool)} {a A : Act} {w : World} {d : Nat} (ho : ops[i]? = some o) (hw : Region.wanted o (yielded ops a.tmps) = true) (hd : o.dst = some d) (hsz : d < a.tmps.size) (hS0 : S w)
    (h : ∀ w', S w' → ∀ K : Act → Prop, K A → Oper.gives P o a w' K) (hr : wpPlanD P ops Q z r S A w) : wpPlanD P ops Q z ((i, true) :: r) S a w := by
  obtain ⟨v, hv, hA⟩ := held_key hd hsz hS0 h
  exact ⟨o, v, ho, .inl ⟨hw, fun w' hS' => .inl (hv w' hS')⟩, by rw [hA]; exact hr⟩
/-- As planD_skip, the slot named. -/
theorem planD_skipd {o : Oper} {i d : Nat} {r : List (Nat × Bool)} {a : Act} {w : World} (ho : ops[i]? = some o) (hd : o.dst = some d) (hw : Region.wanted o (yielded ops a.tmps) = false)
    (hr : wpPlanD P ops Q z r S (a.put (some d) undef) w) : wpPlanD P ops Q z ((i, true) :: r) S a w :=
  planD_skip ho hw (by rw [hd]; exact hr)
/-- An operation that comes up alone; what is known may grow. -/
theorem planD_do {o : Oper} {i : Nat} {r : List (Nat × Bool)} {a : Act} {w : World} (ho : ops[i]? = some o)
    (h : ∀ K : Act → World → Prop, (∀ (S' : World → Prop) a' w', (∀ u, S' u → S u) → (i ≠ z → S' w') → wpPlanD P ops Q z r S' a' w' → K a' w') → if Region.wanted o (yielded ops a.tmps) = true then o.wp P a w K Q else K (a.put o.dst undef) w) :
    wpPlanD P ops Q z ((i, false) :: r) S a w :=
  wpOp_step ho fun K' hK => h K' fun S' a' w' h0 h1 h2 => hK a' w' ⟨S', h0, h1, h2⟩
theorem planD_op {o : Oper} {i : Nat} {r : List (Nat × Bool)} {a : Act} {w : World} (ho : ops[i]? = some o) (hw : Region.wanted o (yielded ops a.tmps) = true)
    (h : ∀ K : Act → World → Prop, (∀ (S' : World → Prop) a' w', (∀ u, S' u → S u) → (i ≠ z → S' w') → wpPlanD P ops Q z r S' a' w' → K a' w') → o.wp P a w K Q) : wpPlanD P ops Q z ((i, false) :: r) S a w :=
  planD_do ho fun K hK => by simp only [hw, if_true]; exact h K hK
/-- A guarded operation that comes up alone and isn't wanted. -/
theorem planD_not {o : Oper} {i d : Nat} {r : List (Nat × Bool)} {a : Act} {w : World} (ho : ops[i]? = some o) (hd : o.dst = some d) (hw : Region.wanted o (yielded ops a.tmps) = false) (hS0 : S w)
    (hr : wpPlanD P ops Q z r S (a.put (some d) undef) w) : wpPlanD P ops Q z ((i, false) :: r) S a w := by
  refine planD_do ho (fun K hK => ?_)
  rw [if_neg (by rw [hw]; decide), hd]
  exact hK S _ _ (fun u h => h) (fun _ => hS0) hr
theorem planD_nil {a : Act} {w : World} (h : Q .normal a w) : wpPlanD P ops Q z [] S a w := h
/-- A call that leaves the world as it is, in every world that meets S. -/
theorem planD_call {o : Oper} {i : Nat} {r : List (Nat × Bool)} {a : Act} {w : World} (v : Value) (ho : ops[i]? = some o) (hw : Region.wanted o (yielded ops a.tmps) = true)
    (h : ∀ w', S w' → ∃ f args, (execOp a.eval o).run P w' = .ok (.enter f args) w' ∧ Calls P f args w' fun e w'' => e = .returned v ∧ w' = w'') (hr : wpPlanD P ops Q z r S (a.put o.dst v) w) : wpPlanD P ops Q z ((i, true) :: r) S a w :=
  ⟨o, v, ho, .inl ⟨hw, fun w' hS' => .inr (h w' hS')⟩, hr⟩
end
end Go.Proofs.YtbhmeagliebfdaaDoor
/- A slice anywhere in a block, with room behind it: append, and parts of it. No program here. -/
namespace Go.Proofs.YtbhmeagliebfdaaDoor
open Go Go.RowKit
set_option linter.unusedSimpArgs false

/-- The slice v (n elements of size cells) shows xs; what lies behind its length, up to its capacity, may be written. -/
def Mid (w : World) (size : Nat) (v : Value) (n : Nat) (xs : List Value) : Prop :=
  xs.length = n * size ∧ ((v = .slice none 0 0 ∧ n = 0) ∨ ∃ g off cap, v = .slice (some ⟨g, off, none⟩) n cap ∧ n ≤ cap ∧ cap ≤ maxLen ∧ g < w.heap.size ∧ w.rangeAt g off xs ∧ w.there g (off + n * size) ((cap - n) * size))
theorem Mid.nil (w : World) (size : Nat) : Mid w size (.slice none 0 0) 0 [] := ⟨by simp, .inl ⟨rfl, rfl⟩⟩
theorem Mid.sees {w : World} {size : Nat} {v : Value} {n : Nat} {xs : List Value} (h : Mid w size v n xs) : Sees w size v n xs := by
  obtain ⟨hl, ⟨rfl, rfl⟩ | ⟨g, off, cap, rfl, h1, h2, h3, h4, h5⟩⟩ := h
  · have : xs = [] := List.eq_nil_of_length_eq_zero (by simpa using hl)
    subst this
    exact Sees.zero _ _ _ _
  · exact Sees.at hl (by omega) h4
theorem Mid.lt {w : World} {size : Nat} {v : Value} {n : Nat} {xs : List Value} (h : Mid w size v n xs) : ∀ k, v.ownBlock = some k → k < w.heap.size := by
  obtain ⟨hl, ⟨rfl, rfl⟩ | ⟨g, off, cap, rfl, h1, h2, h3, h4, h5⟩⟩ := h
  · intro k hk; cases hk
  · intro k hk; cases hk; exact h3
theorem Upd.there {F : Nat → Prop} {w w' : World} (h : Upd F w w') {g off n : Nat} (ht : w.there g off n) (hf : ¬ F g) (hg : g < w.heap.size) : w'.there g off n := fun j hj => by
  have h1 := h.cell (a := ⟨g, off + j, none⟩) hg hf
  have h2 := h.frozen (a := ⟨g, off + j, none⟩) hg hf
  rw [h1, h2]
  exact ht j hj
theorem Mid.upd {F : Nat → Prop} {w w' : World} {size : Nat} {v : Value} {n : Nat} {xs : List Value} (h : Mid w size v n xs) (hu : Upd F w w') (hf : ∀ k, v.ownBlock = some k → ¬ F k) : Mid w' size v n xs := by
  obtain ⟨hl, ⟨rfl, rfl⟩ | ⟨g, off, cap, rfl, h1, h2, h3, h4, h5⟩⟩ := h
  · exact ⟨hl, .inl ⟨rfl, rfl⟩⟩
  · have := hf g rfl
    exact ⟨hl, .inr ⟨g, off, cap, rfl, h1, h2, Nat.lt_of_lt_of_le h3 hu.size, hu.range h4 this, hu.there h5 this h3⟩⟩
theorem mid_of_row {w : World} {base : Nat} {e : TypeId} {size : Nat} {v : Value} {n : Nat} {xs : List Value} (h : w.ownsRow base e size v n xs) : Mid w size v n xs := by
  obtain ⟨hl, h0 | ⟨g, cap, cur, rfl, hb, hg, hn, hc, hs, ht⟩⟩ := id h
  · exact ⟨hl, .inl h0⟩
  · refine ⟨hl, .inr ⟨g, 0, cap, rfl, hn, hc, lt_of_block hg, row_range h (by simp), ?_⟩⟩
    refine there_of_row hg ?_
    rw [hs, Nat.zero_add, ← Nat.add_mul]
    exact Nat.mul_le_mul_right _ (by omega)
/-- A constant's bytes: no room behind them. -/
theorem mid_full {w : World} {size b off n : Nat} {xs : List Value} (hl : xs.length = n * size) (hm : n ≤ maxLen) (hb : b < w.heap.size) (hr : w.rangeAt b off xs) : Mid w size (.slice (some ⟨b, off, none⟩) n n) n xs :=
  ⟨hl, .inr ⟨b, off, n, rfl, Nat.le_refl _, hm, hb, hr, fun j hj => by simp at hj⟩⟩

theorem rangeAt_append {w : World} {b off : Nat} {xs ys : List Value} (h1 : w.rangeAt b off xs) (h2 : w.rangeAt b (off + xs.length) ys) : w.rangeAt b off (xs ++ ys) := fun j v hj => by
  rw [List.getElem?_append] at hj
  split at hj
  · exact h1 j v hj
  · have := h2 _ v hj
    rw [Nat.add_assoc] at this
    rwa [show xs.length + (j - xs.length) = j by omega] at this

section
variable {P : Program} {ops : Array Oper} {Q : Exit → Act → World → Prop} {rest : List Oper} {dst : Option Tmp} {ty : TypeId} {pos : String} {aft : Array Edge} {a : Act} {w : World} {K : Act → World → Prop} {next : Act → Prop}

theorem run_append_mid (w : World) (t ty e : TypeId) (size bytes : Nat) (z : Value) (hu : P.underlying t = some (.slice e)) (hinfo : (P.info? e).map (fun i => (i.zero, i.size, i.bytes)) = some (some z, size, bytes))
    (hzs : z.cells.size = size) (v : Value) (n : Nat) (xs : List Value) (hown : Mid w size v n xs) (x : Value) (m : Nat) (news : List Value) (hx : Sees w size x m news) (h1 : ∀ u ∈ news, u.oneCell' = true)
    (h63 : n + m ≤ maxLen) (hbytes : (n + m) * bytes ≤ 140737488355328) :
    ∃ x' c' w', (Builtin.append_ #[t, t] ty #[v, x]).run P w = .ok (.slice x' (n + m) c') w' ∧ Mid w' size (.slice x' (n + m) c') (n + m) (xs ++ news) ∧ Upd (fun k => v.ownBlock = some k) w w' ∧
      ((Value.slice x' (n + m) c').ownBlock = v.ownBlock ∨ (Value.slice x' (n + m) c').ownBlock = some w.heap.size) := by
  obtain ⟨i, hi, hz, hz1, hz2⟩ := info_parts hinfo
  subst hz1
  subst hz2
  obtain ⟨hl, hmm, xo, c, rfl, hc⟩ := hx
  have hsmall : n + m ≤ 9223372036854775807 := by simp only [maxLen] at h63; omega
  have hlen : (xs ++ news).length = (n + m) * i.size := by rw [List.length_append, hown.1, hl, Nat.add_mul]
  have grown : ∀ (old : Nat), Mid (w.drew.alloc (.cells (xs.toArray ++ news.toArray ++ Builtin.zeroCells z.cells (grownCap w (n + m) old e - (n + m))) e)) i.size
        (.slice (some ⟨w.heap.size, 0, none⟩) (n + m) (grownCap w (n + m) old e)) (n + m) (xs ++ news) ∧
      Upd (fun k => v.ownBlock = some k) w (w.drew.alloc (.cells (xs.toArray ++ news.toArray ++ Builtin.zeroCells z.cells (grownCap w (n + m) old e - (n + m))) e)) := by
    intro old
    have hge := grownCap_ge w (n + m) old e
    have hcm : grownCap w (n + m) old e ≤ maxLen := grownCap_le_maxLen w (n + m) old e h63
    have hb := heap_alloc_new w.drew (.cells (xs.toArray ++ news.toArray ++ Builtin.zeroCells z.cells (grownCap w (n + m) old e - (n + m))) e)
    have hsz : (xs.toArray ++ news.toArray ++ Builtin.zeroCells z.cells (grownCap w (n + m) old e - (n + m))).size = grownCap w (n + m) old e * i.size := by
      simp only [Array.size_append, List.size_toArray, size_zeroCells, hzs, hown.1, hl, ← Nat.add_mul]
      congr 1
      omega
    refine ⟨⟨hlen, .inr ⟨w.heap.size, 0, _, rfl, hge, hcm, by simp, ?_, ?_⟩⟩, ((Upd.refl _ w).drew).alloc _⟩
    · have hb2 : (w.drew.alloc (.cells (xs.toArray ++ news.toArray ++ Builtin.zeroCells z.cells (grownCap w (n + m) old e - (n + m))) e)).heap[w.heap.size]? = some (.cells (xs.toArray ++ news.toArray ++ Builtin.zeroCells z.cells (grownCap w (n + m) old e - (n + m))).toList.toArray e (0, 0)) := by rw [Array.toArray_toList]; exact hb
      refine rangeAt_of_row hb2 ?_
      simp only [Array.toList_append, List.drop_zero]
      exact List.take_left
    · refine there_of_row hb ?_
      rw [hsz, Nat.zero_add, ← Nat.add_mul]
      exact Nat.mul_le_mul_right _ (by omega)
  have nothing : m = 0 → ∃ x' c' w', (Builtin.append_ #[t, t] ty #[v, .slice xo m c]).run P w = .ok (.slice x' (n + m) c') w' ∧ Mid w' i.size (.slice x' (n + m) c') (n + m) (xs ++ news) ∧ Upd (fun k => v.ownBlock = some k) w w' ∧
      ((Value.slice x' (n + m) c').ownBlock = v.ownBlock ∨ (Value.slice x' (n + m) c').ownBlock = some w.heap.size) := by
    intro h0
    subst h0
    have hn : news = [] := List.eq_nil_of_length_eq_zero (by simpa using hl)
    subst hn
    obtain ⟨x', c', rfl⟩ := hown.sees.shape
    refine ⟨x', c', w, ?_, by simpa using hown, Upd.refl _ _, .inl rfl⟩
    have hcn : n ≤ c' := by
      obtain ⟨_, ⟨h, _⟩ | ⟨g, off, cap, h, h1, _⟩⟩ := hown
      · cases h; omega
      · cases h; exact h1
    cases x' <;> cases xo <;> simp [Builtin.append_, run_underlying hu, sizeOf, typeInfo, hi, Builtin.lenOf, Builtin.firstCells, loadCells, loadCellsFrom, storeCells, hcn]
    all_goals
      obtain ⟨_, ⟨h, _⟩ | ⟨g, off, cap, h, h1, _⟩⟩ := hown <;> cases h
      simp_all
  by_cases h0 : m = 0
  · exact nothing h0
  obtain ⟨b, off, rfl, hr⟩ := hc (by omega)
  have hnews : ∀ j u, news[j]? = some u → w.cell? ((⟨b, off, none⟩ : Addr).add j) = some u := fun j u hj => by rw [Addr.add_mid]; exact hr j u hj
  rcases hown.2 with ⟨rfl, rfl⟩ | ⟨g, off', cap, rfl, hnc, hcm, hgs, hrg, htr⟩
  · have hxs : xs = [] := List.eq_nil_of_length_eq_zero (by simpa using hown.1)
    subst hxs
    have hr := run_append_nil (P := P) w t ty e i z hu hi hz ⟨b, off, none⟩ m c news hl hnews (by omega) (by omega) (by simp only [Nat.zero_add] at hbytes; omega)
    obtain ⟨g1, g2⟩ := grown 0
    simp only [Nat.zero_add, List.nil_append, Array.empty_append] at g1 g2 ⊢
    exact ⟨_, _, _, hr, g1, g2, .inr rfl⟩
  · by_cases hroom : n + m ≤ cap
    · have hst := run_storeCells_set (P := P) g (off' + n * i.size) news w (fun j hj => htr j (by rw [hl] at hj; exact Nat.lt_of_lt_of_le hj (Nat.mul_le_mul_right _ (by omega)))) h1
      have hf := run_firstCells_some (P := P) w i.size m ⟨b, off, none⟩ m c news hl hnews
      have hrun : (Builtin.append_ #[t, t] ty #[.slice (some ⟨g, off', none⟩) n cap, .slice (some ⟨b, off, none⟩) m c]).run P w = .ok (.slice (some ⟨g, off', none⟩) (n + m) cap) (w.setCells g (off' + n * i.size) news) := by
        simp [Builtin.append_, run_underlying hu, sizeOf, typeInfo, hi, Builtin.lenOf, hroom, hf, Addr.add_mid, hst]
      refine ⟨_, _, _, hrun, ⟨hlen, .inr ⟨g, off', cap, rfl, hroom, hcm, by rw [size_setCells]; exact hgs, ?_, ?_⟩⟩, upd_setCells g news _ (Upd.refl _ w) (.inl rfl), .inl rfl⟩
      · refine rangeAt_append (World.rangeAt_setCells_apart hrg g _ news (.inr (.inl (by rw [hown.1]; exact Nat.le_refl _)))) ?_
        rw [hown.1]
        exact World.rangeAt_setCells_same w g _ news (fun j hj => htr j (by rw [hl] at hj; exact Nat.lt_of_lt_of_le hj (Nat.mul_le_mul_right _ (by omega))))
      · refine World.there_setCells ?_ g _ news
        intro j hj
        have := htr (m * i.size + j) (by
          have e1 : (cap - n) * i.size = m * i.size + (cap - (n + m)) * i.size := by rw [← Nat.add_mul]; congr 1; omega
          omega)
        rwa [show off' + n * i.size + (m * i.size + j) = off' + (n + m) * i.size + j by rw [Nat.add_mul]; omega] at this
    · have holds : ∀ j u, xs[j]? = some u → w.cell? ((⟨g, off', none⟩ : Addr).add j) = some u := fun j u hj => by rw [Addr.add_mid]; exact hrg j u hj
      have hr := run_append_grow (P := P) w t ty e i z hu hi hz ⟨g, off', none⟩ n cap xs hown.1 holds ⟨b, off, none⟩ m c news hl hnews (by omega) (by omega) (growslice_fits (by omega) hbytes)
      obtain ⟨g1, g2⟩ := grown cap
      exact ⟨_, _, _, hr, g1, g2, .inr rfl⟩
theorem wp_append_mid {s x : Operand} {t : TypeId} (e : TypeId) (size bytes : Nat) (z : Value) (v : Value) (n : Nat) (xs : List Value) (m : Nat) (news : List Value)
    (hu : P.underlying t = some (.slice e)) (hinfo : (P.info? e).map (fun i => (i.zero, i.size, i.bytes)) = some (some z, size, bytes)) (hzs : z.cells.size = size)
    (hs : a.eval s = v) (hown : Mid w size v n xs) (hx : Sees w size (a.eval x) m news) (h1 : ∀ u ∈ news, u.oneCell' = true)
    (h63 : n + m ≤ maxLen) (hbytes : (n + m) * bytes ≤ 140737488355328)
    (h : ∀ x' c' w', Mid w' size (.slice x' (n + m) c') (n + m) (xs ++ news) → Upd (fun k => v.ownBlock = some k) w w' → ((Value.slice x' (n + m) c').ownBlock = v.ownBlock ∨ (Value.slice x' (n + m) c').ownBlock = some w.heap.size) →
      K (a.put dst (.slice x' (n + m) c')) w') : (⟨dst, .call { callee := .builtin .append, args := #[s, x], argTypes := #[t, t] }, ty, pos, aft, none⟩ : Oper).wp P a w K Q := by
  obtain ⟨x', c', w', hr, h2, h3, h4⟩ := run_append_mid (P := P) w t ty e size bytes z hu hinfo hzs v n xs hown (a.eval x) m news hx h1 h63 hbytes
  unfold Oper.wp execOp
  simp only [resolve, invoke, builtin, Sem.run_bind, Sem.run_pure, Result.andThen_ok, List.map_toArray, List.map_cons, List.map_nil, hs, hr]
  exact h x' c' w' h2 h3 h4
theorem wpl_append_mid {s x : Operand} {t : TypeId} (e : TypeId) (size bytes : Nat) (z : Value) (v : Value) (n : Nat) (xs : List Value) (m : Nat) (news : List Value)
    (hu : P.underlying t = some (.slice e)) (hinfo : (P.info? e).map (fun i => (i.zero, i.size, i.bytes)) = some (some z, size, bytes)) (hzs : z.cells.size = size)
    (hs : a.eval s = v) (hown : Mid w size v n xs) (hx : Sees w size (a.eval x) m news) (h1 : ∀ u ∈ news, u.oneCell' = true)
    (h63 : n + m ≤ maxLen) (hbytes : (n + m) * bytes ≤ 140737488355328)
    (h : ∀ x' c' w', Mid w' size (.slice x' (n + m) c') (n + m) (xs ++ news) → Upd (fun k => v.ownBlock = some k) w w' → ((Value.slice x' (n + m) c').ownBlock = v.ownBlock ∨ (Value.slice x' (n + m) c').ownBlock = some w.heap.size) →
      wpList P ops Q rest (a.put dst (.slice x' (n + m) c')) w') : wpList P ops Q (⟨dst, .call { callee := .builtin .append, args := #[s, x], argTypes := #[t, t] }, ty, pos, aft, none⟩ :: rest) a w :=
  wpList_plain rfl fun _ hK => wp_append_mid e size bytes z v n xs m news hu hinfo hzs hs hown hx h1 h63 hbytes fun x' c' w' h2 h3 h4 => hK _ _ (h x' c' w' h2 h3 h4)
end
end Go.Proofs.YtbhmeagliebfdaaDoor
/- Append to a slice whose whole block may be written (up to its capacity): it can be cut and appended to again. No program here. -/
namespace Go.Proofs.YtbhmeagliebfdaaDoor
open Go Go.RowKit
set_option linter.unusedSimpArgs false
/-- All cells up to the capacity may be written. -/
def Whole (w : World) (size : Nat) (v : Value) : Prop := ∀ g off n cap, v = .slice (some ⟨g, off, none⟩) n cap → w.there g off (cap * size)
theorem Whole.nil (w : World) (size : Nat) : Whole w size (.slice none 0 0) := fun _ _ _ _ h => by cases h
theorem Whole.upd {F : Nat → Prop} {w w' : World} {size : Nat} {v : Value} (h : Whole w size v) (hu : Upd F w w') (hf : ∀ k, v.ownBlock = some k → ¬ F k) (hlt : ∀ k, v.ownBlock = some k → k < w.heap.size) : Whole w' size v := fun g off n cap e =>
  hu.there (h g off n cap e) (hf g (by rw [e]; rfl)) (hlt g (by rw [e]; rfl))
/-- The front of a slice. -/
theorem Mid.cut {w : World} {size : Nat} {x : Option Addr} {n c m : Nat} {xs : List Value} (h : Mid w size (.slice x n c) n xs) (hw : Whole w size (.slice x n c)) (hm : m ≤ n) : Mid w size (.slice x m c) m (xs.take (m * size)) ∧ Whole w size (.slice x m c) := by
  obtain ⟨m1, m2⟩ := h
  have hle : m * size ≤ n * size := Nat.mul_le_mul_right _ hm
  refine ⟨⟨by rw [List.length_take, m1]; omega, ?_⟩, fun g off k cap e => ?_⟩
  · rcases m2 with ⟨e, e2⟩ | ⟨g, off, cap, e, e1, e2, e3, e4, e5⟩
    · cases e
      have : m = 0 := by omega
      rw [this]
      exact .inl ⟨rfl, rfl⟩
    · cases e
      refine .inr ⟨g, off, c, rfl, by omega, e2, e3, ?_, ?_⟩
      · intro j v hj
        rw [List.getElem?_take] at hj
        split at hj
        · exact e4 j v hj
        · cases hj
      · intro j hj
        have := hw g off n c rfl (m * size + j) (by
          have : m * size + (c - m) * size = c * size := by rw [← Nat.add_mul]; congr 1; omega
          omega)
        rwa [show off + (m * size + j) = off + m * size + j by omega] at this
  · cases e
    exact hw g off n c rfl
section
variable {P : Program} {ops : Array Oper} {Q : Exit → Act → World → Prop} {rest : List Oper} {dst : Option Tmp} {ty : TypeId} {pos : String} {aft : Array Edge} {a : Act} {w : World} {K : Act → World → Prop} {next : Act → Prop}

theorem run_append_whole (w : World) (t ty e : TypeId) (size bytes : Nat) (z : Value) (hu : P.underlying t = some (.slice e)) (hinfo : (P.info? e).map (fun i => (i.zero, i.size, i.bytes)) = some (some z, size, bytes))
    (hzs : z.cells.size = size) (v : Value) (n : Nat) (xs : List Value) (hown : Mid w size v n xs) (hwh : Whole w size v) (x : Value) (m : Nat) (news : List Value) (hx : Sees w size x m news) (h1 : ∀ u ∈ news, u.oneCell' = true)
    (h63 : n + m ≤ maxLen) (hbytes : (n + m) * bytes ≤ 140737488355328) :
    ∃ x' c' w', (Builtin.append_ #[t, t] ty #[v, x]).run P w = .ok (.slice x' (n + m) c') w' ∧ Mid w' size (.slice x' (n + m) c') (n + m) (xs ++ news) ∧ Upd (fun k => v.ownBlock = some k) w w' ∧
      ((Value.slice x' (n + m) c').ownBlock = v.ownBlock ∨ (Value.slice x' (n + m) c').ownBlock = some w.heap.size) ∧ Whole w' size (.slice x' (n + m) c') := by
  obtain ⟨i, hi, hz, hz1, hz2⟩ := info_parts hinfo
  subst hz1
  subst hz2
  obtain ⟨hl, hmm, xo, c, rfl, hc⟩ := hx
  have hsmall : n + m ≤ 9223372036854775807 := by simp only [maxLen] at h63; omega
  have hlen : (xs ++ news).length = (n + m) * i.size := by rw [List.length_append, hown.1, hl, Nat.add_mul]
  have grown : ∀ (old : Nat), Mid (w.drew.alloc (.cells (xs.toArray ++ news.toArray ++ Builtin.zeroCells z.cells (grownCap w (n + m) old e - (n + m))) e)) i.size
        (.slice (some ⟨w.heap.size, 0, none⟩) (n + m) (grownCap w (n + m) old e)) (n + m) (xs ++ news) ∧
      Upd (fun k => v.ownBlock = some k) w (w.drew.alloc (.cells (xs.toArray ++ news.toArray ++ Builtin.zeroCells z.cells (grownCap w (n + m) old e - (n + m))) e)) ∧
      Whole (w.drew.alloc (.cells (xs.toArray ++ news.toArray ++ Builtin.zeroCells z.cells (grownCap w (n + m) old e - (n + m))) e)) i.size (.slice (some ⟨w.heap.size, 0, none⟩) (n + m) (grownCap w (n + m) old e)) := by
    intro old
    have hge := grownCap_ge w (n + m) old e
    have hcm : grownCap w (n + m) old e ≤ maxLen := grownCap_le_maxLen w (n + m) old e h63
    have hb := heap_alloc_new w.drew (.cells (xs.toArray ++ news.toArray ++ Builtin.zeroCells z.cells (grownCap w (n + m) old e - (n + m))) e)
    have hsz : (xs.toArray ++ news.toArray ++ Builtin.zeroCells z.cells (grownCap w (n + m) old e - (n + m))).size = grownCap w (n + m) old e * i.size := by
      simp only [Array.size_append, List.size_toArray, size_zeroCells, hzs, hown.1, hl, ← Nat.add_mul]
      congr 1
      omega
    refine ⟨⟨hlen, .inr ⟨w.heap.size, 0, _, rfl, hge, hcm, by simp, ?_, ?_⟩⟩, ((Upd.refl _ w).drew).alloc _, ?_⟩
    · have hb2 : (w.drew.alloc (.cells (xs.toArray ++ news.toArray ++ Builtin.zeroCells z.cells (grownCap w (n + m) old e - (n + m))) e)).heap[w.heap.size]? = some (.cells (xs.toArray ++ news.toArray ++ Builtin.zeroCells z.cells (grownCap w (n + m) old e - (n + m))).toList.toArray e (0, 0)) := by rw [Array.toArray_toList]; exact hb
      refine rangeAt_of_row hb2 ?_
      simp only [Array.toList_append, List.drop_zero]
      exact List.take_left
    · refine there_of_row hb ?_
      rw [hsz, Nat.zero_add, ← Nat.add_mul]
      exact Nat.mul_le_mul_right _ (by omega)
    · intro g off n' cap he
      cases he
      refine there_of_row hb ?_
      rw [hsz, Nat.zero_add]
      exact Nat.le_refl _
  have nothing : m = 0 → ∃ x' c' w', (Builtin.append_ #[t, t] ty #[v, .slice xo m c]).run P w = .ok (.slice x' (n + m) c') w' ∧ Mid w' i.size (.slice x' (n + m) c') (n + m) (xs ++ news) ∧ Upd (fun k => v.ownBlock = some k) w w' ∧
      ((Value.slice x' (n + m) c').ownBlock = v.ownBlock ∨ (Value.slice x' (n + m) c').ownBlock = some w.heap.size) ∧ Whole w' i.size (.slice x' (n + m) c') := by
    intro h0
    subst h0
    have hn : news = [] := List.eq_nil_of_length_eq_zero (by simpa using hl)
    subst hn
    obtain ⟨x', c', rfl⟩ := hown.sees.shape
    refine ⟨x', c', w, ?_, by simpa using hown, Upd.refl _ _, .inl rfl, by simpa using hwh⟩
    have hcn : n ≤ c' := by
      obtain ⟨_, ⟨h, _⟩ | ⟨g, off, cap, h, h1, _⟩⟩ := hown
      · cases h; omega
      · cases h; exact h1
    cases x' <;> cases xo <;> simp [Builtin.append_, run_underlying hu, sizeOf, typeInfo, hi, Builtin.lenOf, Builtin.firstCells, loadCells, loadCellsFrom, storeCells, hcn]
    all_goals
      obtain ⟨_, ⟨h, _⟩ | ⟨g, off, cap, h, h1, _⟩⟩ := hown <;> cases h
      simp_all
  by_cases h0 : m = 0
  · exact nothing h0
  obtain ⟨b, off, rfl, hr⟩ := hc (by omega)
  have hnews : ∀ j u, news[j]? = some u → w.cell? ((⟨b, off, none⟩ : Addr).add j) = some u := fun j u hj => by rw [Addr.add_mid]; exact hr j u hj
  rcases hown.2 with ⟨rfl, rfl⟩ | ⟨g, off', cap, rfl, hnc, hcm, hgs, hrg, htr⟩
  · have hxs : xs = [] := List.eq_nil_of_length_eq_zero (by simpa using hown.1)
    subst hxs
    have hr := run_append_nil (P := P) w t ty e i z hu hi hz ⟨b, off, none⟩ m c news hl hnews (by omega) (by omega) (by simp only [Nat.zero_add] at hbytes; omega)
    obtain ⟨g1, g2, g3⟩ := grown 0
    simp only [Nat.zero_add, List.nil_append, Array.empty_append] at g1 g2 g3 ⊢
    exact ⟨_, _, _, hr, g1, g2, .inr rfl, g3⟩
  · by_cases hroom : n + m ≤ cap
    · have hst := run_storeCells_set (P := P) g (off' + n * i.size) news w (fun j hj => htr j (by rw [hl] at hj; exact Nat.lt_of_lt_of_le hj (Nat.mul_le_mul_right _ (by omega)))) h1
      have hf := run_firstCells_some (P := P) w i.size m ⟨b, off, none⟩ m c news hl hnews
      have hrun : (Builtin.append_ #[t, t] ty #[.slice (some ⟨g, off', none⟩) n cap, .slice (some ⟨b, off, none⟩) m c]).run P w = .ok (.slice (some ⟨g, off', none⟩) (n + m) cap) (w.setCells g (off' + n * i.size) news) := by
        simp [Builtin.append_, run_underlying hu, sizeOf, typeInfo, hi, Builtin.lenOf, hroom, hf, Addr.add_mid, hst]
      refine ⟨_, _, _, hrun, ⟨hlen, .inr ⟨g, off', cap, rfl, hroom, hcm, by rw [size_setCells]; exact hgs, ?_, ?_⟩⟩, upd_setCells g news _ (Upd.refl _ w) (.inl rfl), .inl rfl, ?_⟩
      · refine rangeAt_append (World.rangeAt_setCells_apart hrg g _ news (.inr (.inl (by rw [hown.1]; exact Nat.le_refl _)))) ?_
        rw [hown.1]
        exact World.rangeAt_setCells_same w g _ news (fun j hj => htr j (by rw [hl] at hj; exact Nat.lt_of_lt_of_le hj (Nat.mul_le_mul_right _ (by omega))))
      · refine World.there_setCells ?_ g _ news
        intro j hj
        have := htr (m * i.size + j) (by
          have e1 : (cap - n) * i.size = m * i.size + (cap - (n + m)) * i.size := by rw [← Nat.add_mul]; congr 1; omega
          omega)
        rwa [show off' + n * i.size + (m * i.size + j) = off' + (n + m) * i.size + j by rw [Nat.add_mul]; omega] at this
      · intro g2 off2 n2 cap2 he
        cases he
        exact World.there_setCells (hwh _ _ _ _ rfl) g _ news
    · have holds : ∀ j u, xs[j]? = some u → w.cell? ((⟨g, off', none⟩ : Addr).add j) = some u := fun j u hj => by rw [Addr.add_mid]; exact hrg j u hj
      have hr := run_append_grow (P := P) w t ty e i z hu hi hz ⟨g, off', none⟩ n cap xs hown.1 holds ⟨b, off, none⟩ m c news hl hnews (by omega) (by omega) (growslice_fits (by omega) hbytes)
      obtain ⟨g1, g2, g3⟩ := grown cap
      exact ⟨_, _, _, hr, g1, g2, .inr rfl, g3⟩
theorem wp_append_whole {s x : Operand} {t : TypeId} (e : TypeId) (size bytes : Nat) (z : Value) (v : Value) (n : Nat) (xs : List Value) (m : Nat) (news : List Value)
    (hu : P.underlying t = some (.slice e)) (hinfo : (P.info? e).map (fun i => (i.zero, i.size, i.bytes)) = some (some z, size, bytes)) (hzs : z.cells.size = size)
    (hs : a.eval s = v) (hown : Mid w size v n xs) (hwh : Whole w size v) (hx : Sees w size (a.eval x) m news) (h1 : ∀ u ∈ news, u.oneCell' = true)
    (h63 : n + m ≤ maxLen) (hbytes : (n + m) * bytes ≤ 140737488355328)
    (h : ∀ x' c' w', Mid w' size (.slice x' (n + m) c') (n + m) (xs ++ news) → Upd (fun k => v.ownBlock = some k) w w' → ((Value.slice x' (n + m) c').ownBlock = v.ownBlock ∨ (Value.slice x' (n + m) c').ownBlock = some w.heap.size) → Whole w' size (.slice x' (n + m) c') →
      K (a.put dst (.slice x' (n + m) c')) w') : (⟨dst, .call { callee := .builtin .append, args := #[s, x], argTypes := #[t, t] }, ty, pos, aft, none⟩ : Oper).wp P a w K Q := by
  obtain ⟨x', c', w', hr, h2, h3, h4, h5⟩ := run_append_whole (P := P) w t ty e size bytes z hu hinfo hzs v n xs hown hwh (a.eval x) m news hx h1 h63 hbytes
  unfold Oper.wp execOp
  simp only [resolve, invoke, builtin, Sem.run_bind, Sem.run_pure, Result.andThen_ok, List.map_toArray, List.map_cons, List.map_nil, hs, hr]
  exact h x' c' w' h2 h3 h4 h5
theorem wpl_append_whole {s x : Operand} {t : TypeId} (e : TypeId) (size bytes : Nat) (z : Value) (v : Value) (n : Nat) (xs : List Value) (m : Nat) (news : List Value)
    (hu : P.underlying t = some (.slice e)) (hinfo : (P.info? e).map (fun i => (i.zero, i.size, i.bytes)) = some (some z, size, bytes)) (hzs : z.cells.size = size)
    (hs : a.eval s = v) (hown : Mid w size v n xs) (hwh : Whole w size v) (hx : Sees w size (a.eval x) m news) (h1 : ∀ u ∈ news, u.oneCell' = true)
    (h63 : n + m ≤ maxLen) (hbytes : (n + m) * bytes ≤ 140737488355328)
    (h : ∀ x' c' w', Mid w' size (.slice x' (n + m) c') (n + m) (xs ++ news) → Upd (fun k => v.ownBlock = some k) w w' → ((Value.slice x' (n + m) c').ownBlock = v.ownBlock ∨ (Value.slice x' (n + m) c').ownBlock = some w.heap.size) → Whole w' size (.slice x' (n + m) c') →
      wpList P ops Q rest (a.put dst (.slice x' (n + m) c')) w') : wpList P ops Q (⟨dst, .call { callee := .builtin .append, args := #[s, x], argTypes := #[t, t] }, ty, pos, aft, none⟩ :: rest) a w :=
  wpList_plain rfl fun _ hK => wp_append_whole e size bytes z v n xs m news hu hinfo hzs hs hown hwh hx h1 h63 hbytes fun x' c' w' h2 h3 h4 h5 => hK _ _ (h x' c' w' h2 h3 h4 h5)
end
end Go.Proofs.YtbhmeagliebfdaaDoor
/- A slice of bytes anywhere in a block: append of a string's bytes. No program here. -/
namespace Go.Proofs.YtbhmeagliebfdaaDoor
open Go Go.RowKit
set_option linter.unusedSimpArgs false

theorem strCells_bvs (s : ByteArray) : Lib.strCells s = bvs s.data.toList := rfl
section
variable {P : Program} {ops : Array Oper} {Q : Exit → Act → World → Prop} {rest : List Oper} {dst : Option Tmp} {ty : TypeId} {pos : String} {aft : Array Edge} {a : Act} {w : World} {K : Act → World → Prop} {next : Act → Prop}

theorem run_append_mid_str (w : World) (t u ty e : TypeId) (hu : P.underlying t = some (.slice e)) (hs : P.underlying u = some .string) (hinfo : (P.info? e).map (fun i => (i.zero, i.size, i.bytes)) = some (some (.int .u8 0), 1, 1))
    (v : Value) (n : Nat) (xs : List Value) (hown : Mid w 1 v n xs) (s : ByteArray) (h63 : n + s.size ≤ 140737488355328) :
    ∃ x' c' w', (Builtin.append_ #[t, u] ty #[v, .string s]).run P w = .ok (.slice x' (n + s.size) c') w' ∧ Mid w' 1 (.slice x' (n + s.size) c') (n + s.size) (xs ++ bvs s.data.toList) ∧ Upd (fun k => v.ownBlock = some k) w w' ∧
      ((Value.slice x' (n + s.size) c').ownBlock = v.ownBlock ∨ (Value.slice x' (n + s.size) c').ownBlock = some w.heap.size) := by
  obtain ⟨i, hi, hz, hz1, hz2⟩ := info_parts hinfo
  have hmm : n + s.size ≤ maxLen := by unfold maxLen; omega
  have hsl : (bvs s.data.toList).length = s.size := by rw [← strCells_bvs, Lib.strCells_length]
  have hxl : xs.length = n := by simpa using hown.1
  have hlen : (xs ++ bvs s.data.toList).length = (n + s.size) * 1 := by rw [List.length_append, hxl, hsl, Nat.mul_one]
  have hzc : (Value.int IntKind.u8 0).cells.size = 1 := rfl
  have grown : ∀ (old : Nat), Mid (w.drew.alloc (.cells (xs.toArray ++ (bvs s.data.toList).toArray ++ Builtin.zeroCells (Value.int .u8 0).cells (grownCap w (n + s.size) old e - (n + s.size))) e)) 1
        (.slice (some ⟨w.heap.size, 0, none⟩) (n + s.size) (grownCap w (n + s.size) old e)) (n + s.size) (xs ++ bvs s.data.toList) ∧
      Upd (fun k => v.ownBlock = some k) w (w.drew.alloc (.cells (xs.toArray ++ (bvs s.data.toList).toArray ++ Builtin.zeroCells (Value.int .u8 0).cells (grownCap w (n + s.size) old e - (n + s.size))) e)) := by
    intro old
    have hge := grownCap_ge w (n + s.size) old e
    have hcm : grownCap w (n + s.size) old e ≤ maxLen := grownCap_le_maxLen w (n + s.size) old e hmm
    have hb := heap_alloc_new w.drew (.cells (xs.toArray ++ (bvs s.data.toList).toArray ++ Builtin.zeroCells (Value.int .u8 0).cells (grownCap w (n + s.size) old e - (n + s.size))) e)
    have hsz : (xs.toArray ++ (bvs s.data.toList).toArray ++ Builtin.zeroCells (Value.int .u8 0).cells (grownCap w (n + s.size) old e - (n + s.size))).size = grownCap w (n + s.size) old e * 1 := by
      simp only [Array.size_append, List.size_toArray, size_zeroCells, hzc, hxl, hsl]
      omega
    refine ⟨⟨hlen, .inr ⟨w.heap.size, 0, _, rfl, hge, hcm, by simp, ?_, ?_⟩⟩, ((Upd.refl _ w).drew).alloc _⟩
    · have hb2 : (w.drew.alloc (.cells (xs.toArray ++ (bvs s.data.toList).toArray ++ Builtin.zeroCells (Value.int .u8 0).cells (grownCap w (n + s.size) old e - (n + s.size))) e)).heap[w.heap.size]? = some (.cells (xs.toArray ++ (bvs s.data.toList).toArray ++ Builtin.zeroCells (Value.int .u8 0).cells (grownCap w (n + s.size) old e - (n + s.size))).toList.toArray e (0, 0)) := by rw [Array.toArray_toList]; exact hb
      refine rangeAt_of_row hb2 ?_
      simp only [Array.toList_append, List.drop_zero]
      exact List.take_left
    · refine there_of_row hb ?_
      rw [hsz, Nat.zero_add, ← Nat.add_mul]
      exact Nat.mul_le_mul_right _ (by omega)
  have e1 : (s.data.map fun b => Value.int .u8 b.toNat) = (bvs s.data.toList).toArray := by
    apply Array.ext'
    simp [bvs, bv]
  rcases hown.2 with ⟨rfl, rfl⟩ | ⟨g, off', cap, rfl, hnc, hcm, hgs, hrg, htr⟩
  · have hxs : xs = [] := List.eq_nil_of_length_eq_zero (by simpa using hown.1)
    subst hxs
    by_cases hm : s.size = 0
    · have hn : bvs s.data.toList = [] := List.eq_nil_of_length_eq_zero (by rw [hsl]; exact hm)
      have hf := Lib.run_firstCells_string (P := P) w 1 s
      rw [hm] at hf
      refine ⟨none, 0, w, ?_, by rw [hm, hn]; exact Mid.nil w 1, Upd.refl _ _, .inl (by rw [hm])⟩
      simp [Builtin.append_, run_underlying hu, run_underlying hs, sizeOf, typeInfo, hi, hz1, Builtin.lenOf, hm, hf]
    · have hr := run_append_nil_string (P := P) w t u ty e i (.int .u8 0) hu hs hi hz s (by omega) (by omega) (by rw [hz2]; omega)
      obtain ⟨g1, g2⟩ := grown 0
      simp only [Nat.zero_add, List.nil_append, Array.empty_append] at g1 g2 ⊢
      rw [e1] at hr
      exact ⟨_, _, _, hr, g1, g2, .inr rfl⟩
  · by_cases hroom : n + s.size ≤ cap
    · have hst := run_storeCells_set (P := P) g (off' + n) (bvs s.data.toList) w (fun j hj => by
        have := htr j (by rw [hsl] at hj; omega)
        rwa [Nat.mul_one] at this) (bvs_one _)
      have hf := Lib.run_firstCells_string (P := P) w 1 s
      rw [strCells_bvs] at hf
      have hrun : (Builtin.append_ #[t, u] ty #[.slice (some ⟨g, off', none⟩) n cap, .string s]).run P w = .ok (.slice (some ⟨g, off', none⟩) (n + s.size) cap) (w.setCells g (off' + n) (bvs s.data.toList)) := by
        simp [Builtin.append_, run_underlying hu, run_underlying hs, sizeOf, typeInfo, hi, hz1, Builtin.lenOf, hroom, hf, Addr.add_mid, hst]
      refine ⟨_, _, _, hrun, ⟨hlen, .inr ⟨g, off', cap, rfl, hroom, hcm, by rw [size_setCells]; exact hgs, ?_, ?_⟩⟩, upd_setCells g _ _ (Upd.refl _ w) (.inl rfl), .inl rfl⟩
      · refine rangeAt_append (World.rangeAt_setCells_apart hrg g _ _ (.inr (.inl (by rw [hxl]; exact Nat.le_refl _)))) ?_
        rw [hxl]
        exact World.rangeAt_setCells_same w g _ _ (fun j hj => by
          have := htr j (by rw [hsl] at hj; omega)
          rwa [Nat.mul_one] at this)
      · refine World.there_setCells ?_ g _ _
        intro j hj
        have := htr (s.size + j) (by omega)
        rwa [show off' + n * 1 + (s.size + j) = off' + (n + s.size) * 1 + j by omega] at this
    · have holds : ∀ j u, xs[j]? = some u → w.cell? ((⟨g, off', none⟩ : Addr).add j) = some u := fun j u hj => by rw [Addr.add_mid]; exact hrg j u hj
      have hr := Lib.run_append_grow_string (P := P) w t u ty e i (.int .u8 0) hu hs hi hz ⟨g, off', none⟩ n cap xs (by rw [hz1]; simpa using hxl) holds s (by omega) (by omega) (by rw [hz2]; exact growslice_fits (by omega) (by omega))
      obtain ⟨g1, g2⟩ := grown cap
      rw [strCells_bvs] at hr
      exact ⟨_, _, _, hr, g1, g2, .inr rfl⟩
theorem wp_append_mid_str {x y : Operand} {t u : TypeId} (e : TypeId) (v : Value) (n : Nat) (xs : List Value) (s : ByteArray)
    (hu : P.underlying t = some (.slice e)) (hs : P.underlying u = some .string) (hinfo : (P.info? e).map (fun i => (i.zero, i.size, i.bytes)) = some (some (.int .u8 0), 1, 1))
    (hx : a.eval x = v) (hy : a.eval y = .string s) (hown : Mid w 1 v n xs) (h63 : n + s.size ≤ 140737488355328)
    (h : ∀ x' c' w', Mid w' 1 (.slice x' (n + s.size) c') (n + s.size) (xs ++ bvs s.data.toList) → Upd (fun k => v.ownBlock = some k) w w' → ((Value.slice x' (n + s.size) c').ownBlock = v.ownBlock ∨ (Value.slice x' (n + s.size) c').ownBlock = some w.heap.size) →
      K (a.put dst (.slice x' (n + s.size) c')) w') : (⟨dst, .call { callee := .builtin .append, args := #[x, y], argTypes := #[t, u] }, ty, pos, aft, none⟩ : Oper).wp P a w K Q := by
  obtain ⟨x', c', w', hr, h2, h3, h4⟩ := run_append_mid_str (P := P) w t u ty e hu hs hinfo v n xs hown s h63
  unfold Oper.wp execOp
  simp only [resolve, invoke, builtin, Sem.run_bind, Sem.run_pure, Result.andThen_ok, List.map_toArray, List.map_cons, List.map_nil, hx, hy, hr]
  exact h x' c' w' h2 h3 h4
theorem wpl_append_mid_str {x y : Operand} {t u : TypeId} (e : TypeId) (v : Value) (n : Nat) (xs : List Value) (s : ByteArray)
    (hu : P.underlying t = some (.slice e)) (hs : P.underlying u = some .string) (hinfo : (P.info? e).map (fun i => (i.zero, i.size, i.bytes)) = some (some (.int .u8 0), 1, 1))
    (hx : a.eval x = v) (hy : a.eval y = .string s) (hown : Mid w 1 v n xs) (h63 : n + s.size ≤ 140737488355328)
    (h : ∀ x' c' w', Mid w' 1 (.slice x' (n + s.size) c') (n + s.size) (xs ++ bvs s.data.toList) → Upd (fun k => v.ownBlock = some k) w w' → ((Value.slice x' (n + s.size) c').ownBlock = v.ownBlock ∨ (Value.slice x' (n + s.size) c').ownBlock = some w.heap.size) →
      wpList P ops Q rest (a.put dst (.slice x' (n + s.size) c')) w') : wpList P ops Q (⟨dst, .call { callee := .builtin .append, args := #[x, y], argTypes := #[t, u] }, ty, pos, aft, none⟩ :: rest) a w :=
  wpList_plain rfl fun _ hK => wp_append_mid_str e v n xs s hu hs hinfo hx hy hown h63 fun x' c' w' h2 h3 h4 => hK _ _ (h x' c' w' h2 h3 h4)
end
end Go.Proofs.YtbhmeagliebfdaaDoor

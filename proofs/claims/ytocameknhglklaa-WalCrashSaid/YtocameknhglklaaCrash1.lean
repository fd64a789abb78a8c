/- docketlaw03.WalCrash: what is kept in its loop. -/
import Derived.Test.YtocameknhglklaaLive
namespace Go.Proofs.Ytocameknhglklaa
open Go Go.RowKit
set_option linter.unusedSimpArgs false
set_option linter.unusedVariables false
set_option maxRecDepth 100000

/-- The memory between two lives. -/
structure CrashM (w wr : World) (wb : Nat) (F : Nat → Prop) (bv : List Value) (all : List Batch) (al : Nat) (x : Option Addr) (c : Nat) (vs : List Value) : Prop where
  len : all.length = al
  mid : Mid wr 1 (.slice x al c) al vs
  whole : Whole wr 1 (.slice x al c)
  rows : RowsAt wr vs all (fun q => q < w.heap.size)
  upd : Upd (fun _ => False) w wr
  newF : ∀ q, F q → w.heap.size ≤ q
  newO : ∀ q, (Value.slice x al c).ownBlock = some q → w.heap.size ≤ q ∧ ¬ F q
  bnd : CellsAt wr wb 64 bv
  awayF : ¬ F wb
  awayO : ∀ q, (Value.slice x al c).ownBlock = some q → q ≠ wb
  lo : w.heap.size ≤ wb
  ltF : ∀ q, F q → q < wr.heap.size
section
variable {w wr w' : World} {wb : Nat} {F : Nat → Prop} {bv : List Value} {all : List Batch} {al : Nat} {x : Option Addr} {c : Nat} {vs : List Value}
theorem CrashM.log (h : CrashM w wr wb F bv all al x c vs) {F' : Nat → Prop} (hu : Upd (fun _ => False) wr w') (hF : ∀ q, F' q → F q ∨ wr.heap.size ≤ q) (hlt : ∀ q, F' q → q < w'.heap.size) : CrashM w w' wb F' bv all al x c vs := by
  have hz := h.upd.size
  have b1 := h.bnd.lt
  refine ⟨h.len, h.mid.upd hu (fun _ _ h => h), h.whole.upd hu (fun _ _ h => h) h.mid.lt, h.rows.upd hu (fun _ _ h => h), h.upd.trans hu, fun q hq => ?_, fun q hq => ⟨(h.newO q hq).1, fun hf => ?_⟩, h.bnd.upd hu (fun h => h), fun hf => ?_, h.awayO, h.lo, hlt⟩
  · rcases hF q hq with e | e
    · exact h.newF q e
    · omega
  · rcases hF q hf with e | e
    · exact (h.newO q hq).2 e
    · have := h.mid.lt q hq; omega
  · rcases hF _ hf with e | e
    · exact h.awayF e
    · omega
theorem CrashM.step (h : CrashM w wr wb F bv all al x c vs) (hu : Upd (fun _ => False) wr w') : CrashM w w' wb F bv all al x c vs := h.log hu (fun _ h => .inl h) (fun q hq => Nat.lt_of_lt_of_le (h.ltF q hq) hu.size)
theorem CrashM.bset (h : CrashM w wr wb F bv all al x c vs) (hu : Upd (fun q => q = wb) wr w') {bv' : List Value} (hb : CellsAt w' wb 64 bv') : CrashM w w' wb F bv' all al x c vs := by
  have hl := h.lo
  exact ⟨h.len, h.mid.upd hu h.awayO, h.whole.upd hu h.awayO h.mid.lt, h.rows.upd hu (fun q hq e => by omega), h.upd.then hu (fun q hq => .inr (by omega)), h.newF, h.newO, hb, h.awayF, h.awayO, h.lo, fun q hq => Nat.lt_of_lt_of_le (h.ltF q hq) hu.size⟩
theorem CrashM.setb (h : CrashM w wr wb F bv all al x c vs) (i : Nat) (v : Value) : CrashM w (wr.setCell ⟨wb, i, none⟩ v) wb F (bv.set i v) all al x c vs :=
  h.bset ((Upd.refl _ _).setCell _ (.inl rfl)) (h.bnd.set i v)
theorem CrashM.setbs {a b d e : Value} (h : CrashM w wr wb F [a, b, d, e] all al x c vs) (fi th sy als : Nat) : CrashM w (wr.setCells wb 0 (bndV fi th sy als)) wb F (bndV fi th sy als) all al x c vs :=
  h.bset (upd_setCells wb _ 0 (Upd.refl _ _) (.inl rfl)) (heap_setCells_same wb _ (bndV fi th sy als) 0 _ wr h.bnd (by simp [bndV]))
theorem CrashM.cut (h : CrashM w wr wb F bv all al x c vs) (s : Nat) (hs : s ≤ al) : CrashM w wr wb F bv (all.take s) s x c (vs.take s) := by
  obtain ⟨m1, m2⟩ := h.mid.cut h.whole hs
  rw [Nat.mul_one] at m1
  have hob : (Value.slice x s c).ownBlock = (Value.slice x al c).ownBlock := by cases x <;> rfl
  refine ⟨by rw [List.length_take, h.len]; omega, m1, m2, ⟨by rw [List.length_take, List.length_take, h.rows.1], fun i h1 h2 => ?_⟩, h.upd, h.newF, by rw [hob]; exact h.newO, h.bnd, h.awayF, by rw [hob]; exact h.awayO, h.lo, h.ltF⟩
  rw [List.length_take] at h1 h2
  rw [List.getElem_take, List.getElem_take]
  exact h.rows.2 i (by omega) (by omega)
/-- Behind a life. -/
theorem CrashM.live (h : CrashM w wr wb F bv all al x c vs) {db p N B al' : Nat} {x' : Option Addr} {c' fi th sy als : Nat} (hp : LivePost w wr (fun q => F q ∨ (Value.slice x al c).ownBlock = some q) db p N B al' x' c' fi th sy als w') :
    ∃ (D : DSt) (G : Nat → Prop) (all' : List Batch) (vs' : List Value) (T s st : Nat), CrashM w w' wb G bv all' al' x' c' vs' ∧ DiskAt w' db D G ∧ D.waits = [] ∧ D.dead = false ∧ D.fuel = -1 ∧ (T = fi ∨ T = th) ∧ (s = sy ∨ s = als) ∧ T ≤ s ∧ s ≤ al' ∧ Good D.secs p N st (T + 1) s (seg all' T s) ∧ al' ≤ B + 60 ∧ (fi ≤ al' ∧ th ≤ al' ∧ sy ≤ al' ∧ als ≤ al') ∧ Upd (fun q => F q ∨ (Value.slice x al c).ownBlock = some q) wr w' := by
  obtain ⟨D, G, all', vs', T, s, st, p1, p2, p3, p4, p5, p6, p7, p8, p9, p10, p11, p12, p13, p14, p15, p16, p17, p18⟩ := hp
  have hz := h.upd.size
  have b1 := h.bnd.lt
  have hX : ∀ q, (F q ∨ (Value.slice x al c).ownBlock = some q) → w.heap.size ≤ q ∧ q ≠ wb := fun q hq => by
    rcases hq with e | e
    · exact ⟨h.newF q e, fun e2 => h.awayF (e2 ▸ e)⟩
    · exact ⟨(h.newO q e).1, h.awayO q e⟩
  refine ⟨D, G, all', vs', T, s, st, ⟨p11, p12, p13, p14, h.upd.then p15 (fun q hq => .inr (hX q hq).1), fun q hq => ?_, fun q hq => ⟨?_, (p17 q hq).2⟩, h.bnd.upd p15 (fun e => (hX _ e).2 rfl), fun hf => ?_, fun q hq => ?_, h.lo, p1.lt⟩, p1, p2, p3, p4, p5, p6, p7, p8, p9, p10, p18, p15⟩
  · rcases p16 q hq with e | e
    · exact (hX q e).1
    · omega
  · rcases (p17 q hq).1 with e | e
    · exact (hX q e).1
    · omega
  · rcases p16 _ hf with e | e
    · exact (hX _ e).2 rfl
    · omega
  · rcases (p17 q hq).1 with e | e
    · exact (hX q e).2
    · omega
end
end Go.Proofs.Ytocameknhglklaa

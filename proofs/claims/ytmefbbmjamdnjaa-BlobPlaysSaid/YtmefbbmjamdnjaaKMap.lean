/- A map keyed by ints, of whatever elements: look-up and store. No program here. -/
import Derived.Test.YtmefbbmjamdnjaaKBase
import Derived.MapKept
import Derived.Carry
namespace Go.Proofs.Ytmefbbmjamdnjaa
open Go Go.RowKit Go.MapKept
set_option linter.unusedSimpArgs false
set_option linter.unusedVariables false

/-- Where a key stands. -/
def findIx (k : Int) : List (Int × Value) → Nat → Option (Nat × Value)
  | [], _ => none
  | p :: r, i => if k = p.1 then some (i, p.2) else findIx k r (i + 1)
def lookV (es : List (Int × Value)) (k : Int) : Option Value := (findIx k es 0).map (·.2)
def putV (es : List (Int × Value)) (k : Int) (v : Value) : List (Int × Value) :=
  match findIx k es 0 with
  | some (i, _) => es.set i (k, v)
  | none => es ++ [(k, v)]
/-- Block b is a map that holds es, in the order of their laying. -/
def MapAt (w : World) (b : Nat) (es : List (Int × Value)) : Prop :=
  ∃ (en : Array MapEntry) (ck : Nat), w.heap[b]? = some (.map en ck) ∧ en.toList.map (fun e => (e.key, e.val)) = es.map (fun p => (Value.int .i64 p.1, p.2)) ∧ Stamped en ck
theorem MapAt.upd {w w' : World} {b : Nat} {es : List (Int × Value)} {F : Nat → Prop} (h : MapAt w b es) (hu : Upd F w w') (hf : ¬ F b) : MapAt w' b es := by
  obtain ⟨en, ck, h1, h2⟩ := h
  exact ⟨en, ck, hu.heap h1 hf, h2⟩
theorem MapAt.nodup {w : World} {b : Nat} {es : List (Int × Value)} (h : MapAt w b es) : (es.map (·.1)).Nodup := by
  obtain ⟨en, ck, _, h2, h3⟩ := h
  have e : en.toList.map (·.key) = (es.map (·.1)).map (Value.int .i64) := by
    have := congrArg (List.map Prod.fst) h2
    simpa [List.map_map, Function.comp_def] using this
  have h4 := h3.2.2
  rw [e] at h4
  exact (List.pairwise_map.1 h4).imp (fun hne e => hne (by rw [e]))
theorem MapAt.lt {w : World} {b : Nat} {es : List (Int × Value)} (h : MapAt w b es) : b < w.heap.size := by
  obtain ⟨en, ck, h1, h2⟩ := h
  rcases Nat.lt_or_ge b w.heap.size with h | h
  · exact h
  · rw [Array.getElem?_eq_none h] at h1; cases h1
theorem MapAt.new (w : World) : MapAt (w.alloc (.map #[] 0)) w.heap.size [] := ⟨#[], 0, heap_alloc_new w _, rfl, stamped_empty 0⟩
theorem findIx_lt (k : Int) : ∀ (es : List (Int × Value)) (i j : Nat) (v : Value), findIx k es i = some (j, v) → i ≤ j ∧ es[j - i]? = some (k, v)
  | [], _, _, _, h => by cases h
  | p :: r, i, j, v, h => by
    rw [findIx] at h
    split at h
    · rename_i hk
      cases h
      rw [Nat.sub_self]
      exact ⟨Nat.le_refl _, by rw [hk]; rfl⟩
    · obtain ⟨h1, h2⟩ := findIx_lt k r (i + 1) j v h
      refine ⟨by omega, ?_⟩
      rw [show j - i = (j - (i + 1)) + 1 by omega]
      exact h2
theorem findIx_none (k : Int) : ∀ (es : List (Int × Value)) (i : Nat), findIx k es i = none → ∀ p ∈ es, p.1 ≠ k
  | [], _, _, p, hp, _ => by cases hp
  | q :: r, i, h, p, hp, e => by
    rw [findIx] at h
    split at h
    · cases h
    · rename_i hk
      rcases List.mem_cons.1 hp with e2 | e2
      · exact hk (by rw [← e, e2])
      · exact findIx_none k r (i + 1) h p e2 e
theorem findNow_ix (k : Int) : ∀ (en : List MapEntry) (es : List (Int × Value)) (i : Nat), en.map (fun e => (e.key, e.val)) = es.map (fun p => (Value.int .i64 p.1, p.2)) → Instr.findNow (.int .i64) (.int .i64 k) en i = some (findIx k es i)
  | [], [], _, _ => rfl
  | e :: r, p :: s, i, h => by
    simp only [List.map_cons, List.cons.injEq, Prod.mk.injEq] at h
    obtain ⟨⟨h1, h2⟩, h3⟩ := h
    have ih := findNow_ix k r s (i + 1) h3
    rw [Instr.findNow, h1, findIx]
    by_cases hk : k = p.1
    · simp [Instr.sameNow, hk, h2]
    · have hb : (k == p.1) = false := by simpa using hk
      simp only [Instr.sameNow, if_true, hb]
      rw [if_neg hk]
      exact ih
  | [], _ :: _, _, h => by cases h
  | _ :: _, [], _, h => by cases h

section
variable {P : Program} {ops : Array Oper} {Q : Exit → Act → World → Prop} {rest : List Oper} {dst : Option Tmp} {ty : TypeId} {pos : String} {aft : Array Edge} {a : Act} {w : World} {K : Act → World → Prop}
theorem run_lookup_map {t kt E : TypeId} (ht : P.underlying t = some (.map kt E)) (hk : P.underlying kt = some (.int .i64)) {z : Value} (hz : (zeroValue E).run P w = .ok z w) {b : Nat} {es : List (Int × Value)} (h : MapAt w b es) (k : Int) :
    (Instr.lookup t (.map (some b)) (.int .i64 k) true).run P w = .ok (.tuple #[(lookV es k).getD z, .bool (lookV es k).isSome]) w := by
  obtain ⟨en, ck, h1, h2, h2s⟩ := h
  have hf := findNow_ix k en.toList es 0 h2
  have hc := fun e => Go.MapKept.run_checkKey (P := P) (w := w) (kt := kt) (k := .int .i64 k) hk (by simp [IsKey]) e 9999
  cases hq : findIx k es 0 with
  | none =>
    rw [hq] at hf
    simp [Instr.lookup, run_underlying ht, Go.MapKept.run_getObj_map h1, hc, Go.MapKept.run_findKey hk hf, hz, lookV, hq, Result.andThen]
  | some p =>
    rw [hq] at hf
    simp [Instr.lookup, run_underlying ht, Go.MapKept.run_getObj_map h1, hc, Go.MapKept.run_findKey hk hf, lookV, hq, Result.andThen]
theorem run_update_map {t kt E : TypeId} (ht : P.underlying t = some (.map kt E)) (hk : P.underlying kt = some (.int .i64)) {b : Nat} {es : List (Int × Value)} (h : MapAt w b es) (k : Int) (v : Value) :
    ∃ w', (Instr.mapUpdate t (.map (some b)) (.int .i64 k) v).run P w = .ok () w' ∧ MapAt w' b (putV es k v) ∧ Upd (fun q => q = b) w w' := by
  obtain ⟨en, ck, h1, h2, h2s⟩ := h
  have hf := findNow_ix k en.toList es 0 h2
  have hc := fun e => Go.MapKept.run_checkKey (P := P) (w := w) (kt := kt) (k := .int .i64 k) hk (by simp [IsKey]) e 9999
  have upd : ∀ o : Obj, Upd (fun q => q = b) w { w with heap := w.heap.setIfInBounds b o } := fun o =>
    ⟨rfl, rfl, rfl, by simp, fun q hq hn => (heap_set h1).2 q hn⟩
  cases hq : findIx k es 0 with
  | none =>
    rw [hq] at hf
    refine ⟨{ w with heap := w.heap.setIfInBounds b (.map (en.push { key := .int .i64 k, val := v, born := ck }) (ck + 1)) }, by simp [Instr.mapUpdate, run_underlying ht, Go.MapKept.run_getObj_map h1, hc, Go.MapKept.run_findKey hk hf, Go.MapKept.run_setObj_map _ h1, Result.andThen], ⟨_, _, (heap_set h1).1, ?_, ?_⟩, upd _⟩
    · simp [putV, hq, h2]
    · refine stamped_push h2s (fun x hx e => ?_)
      have hm : (x.key, x.val) ∈ es.map (fun p => (Value.int .i64 p.1, p.2)) := h2 ▸ List.mem_map.2 ⟨x, hx, rfl⟩
      obtain ⟨p, hp, hpe⟩ := List.mem_map.1 hm
      rw [e] at hpe
      have hpk : p.1 = k := by simp only [Prod.mk.injEq, Value.int.injEq] at hpe; exact hpe.1.2
      exact findIx_none k es 0 hq p hp hpk
  | some p =>
    obtain ⟨i, u⟩ := p
    rw [hq] at hf
    obtain ⟨hi0, hi⟩ := findIx_lt k es 0 i u hq
    rw [Nat.sub_zero] at hi
    have hie : i < es.length := by
      rcases Nat.lt_or_ge i es.length with h | h
      · exact h
      · rw [List.getElem?_eq_none h] at hi; cases hi
    have hlen : en.size = es.length := by have := congrArg List.length h2; simpa using this
    have hkey : en[i]? = some en[i] := Array.getElem?_eq_getElem (by omega)
    have hek : en[i].key = .int .i64 k := by
      have h3 : (en.toList.map (fun e => (e.key, e.val)))[i]? = (es.map (fun p => (Value.int .i64 p.1, p.2)))[i]? := by rw [h2]
      rw [List.getElem?_map, List.getElem?_map, hi] at h3
      simp [hkey] at h3
      exact h3.1
    refine ⟨{ w with heap := w.heap.setIfInBounds b (.map (en.modify i fun e => { e with key := .int .i64 k, val := v }) ck) }, by simp [Instr.mapUpdate, run_underlying ht, Go.MapKept.run_getObj_map h1, hc, Go.MapKept.run_findKey hk hf, hkey, hek, Instr.keyThatStays, Instr.sameBits, Go.MapKept.run_setObj_map _ h1, Result.andThen], ⟨_, _, (heap_set h1).1, ?_, stamped_modify h2s i _ (fun _ _ => rfl) (fun e _ he => by rw [hkey] at he; cases he; exact hek.symm)⟩, upd _⟩
    apply List.ext_getElem?
    intro j
    have h4 : (en.toList.map (fun e => (e.key, e.val)))[j]? = (es.map (fun p => (Value.int .i64 p.1, p.2)))[j]? := by rw [h2]
    simp only [putV, hq]
    rw [List.getElem?_map, List.getElem?_map] at h4 ⊢
    rw [Array.getElem?_toList] at h4 ⊢
    rw [Array.getElem?_modify, List.getElem?_set]
    by_cases hji : i = j
    · subst hji
      simp [hie, hkey]
    · simp only [hji, if_false]
      exact h4
theorem wp_update_map {t kt E : TypeId} {x y v : Operand} (ht : P.underlying t = some (.map kt E)) (hk : P.underlying kt = some (.int .i64)) (b : Nat) (es : List (Int × Value)) (k : Int) (val : Value)
    (hx : a.eval x = .map (some b)) (hy : a.eval y = .int .i64 k) (hv : a.eval v = val) (h : MapAt w b es) (hr : ∀ w', MapAt w' b (putV es k val) → Upd (fun q => q = b) w w' → K (a.put dst undef) w') :
    (⟨dst, .mapUpdate t x y v, ty, pos, aft, none⟩ : Oper).wp P a w K Q := by
  obtain ⟨w', h1, h2, h3⟩ := run_update_map ht hk h k val
  unfold Oper.wp
  simp only [execOp, hx, hy, hv, Sem.run_bind, h1, Result.andThen_ok, Sem.run_pure]
  exact hr w' h2 h3
theorem wpl_lookup_map {t kt E : TypeId} {x y : Operand} (ht : P.underlying t = some (.map kt E)) (hk : P.underlying kt = some (.int .i64)) (z : Value) (hz : (zeroValue E).run P w = .ok z w) (b : Nat) (es : List (Int × Value)) (k : Int)
    (hx : a.eval x = .map (some b)) (hy : a.eval y = .int .i64 k) (h : MapAt w b es) (hr : wpList P ops Q rest (a.put dst (.tuple #[(lookV es k).getD z, .bool (lookV es k).isSome])) w) :
    wpList P ops Q (⟨dst, .lookup t x y true, ty, pos, aft, none⟩ :: rest) a w :=
  wpList_plain rfl fun K' hK' => by
    unfold Oper.wp
    simp only [execOp, hx, hy, Sem.run_bind, run_lookup_map ht hk hz h k, Result.andThen_ok, Sem.run_pure]
    exact hK' _ _ hr
theorem wpl_update_map {t kt E : TypeId} {x y v : Operand} (ht : P.underlying t = some (.map kt E)) (hk : P.underlying kt = some (.int .i64)) (b : Nat) (es : List (Int × Value)) (k : Int) (val : Value)
    (hx : a.eval x = .map (some b)) (hy : a.eval y = .int .i64 k) (hv : a.eval v = val) (h : MapAt w b es) (hr : ∀ w', MapAt w' b (putV es k val) → Upd (fun q => q = b) w w' → wpList P ops Q rest (a.put dst undef) w') :
    wpList P ops Q (⟨dst, .mapUpdate t x y v, ty, pos, aft, none⟩ :: rest) a w :=
  wpList_plain rfl fun K' hK' => by
    obtain ⟨w', h1, h2, h3⟩ := run_update_map ht hk h k val
    unfold Oper.wp
    simp only [execOp, hx, hy, hv, Sem.run_bind, h1, Result.andThen_ok, Sem.run_pure]
    exact hK' _ _ (hr w' h2 h3)
end
end Go.Proofs.Ytmefbbmjamdnjaa

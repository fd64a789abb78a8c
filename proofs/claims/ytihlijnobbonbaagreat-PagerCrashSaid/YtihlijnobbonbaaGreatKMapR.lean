/- A map keyed by ints: ranged over, in whatever order; its keys, collected and sorted by the library. No program here. -/
import Derived.Test.YtihlijnobbonbaaGreatKMap
import Derived.Maps.RangeWalk
import Derived.Lib.SlKeysI
namespace Go.Proofs.YtihlijnobbonbaaGreat
open Go Go.RowKit Go.MapKept Go.Maps
open Go.WideElems (Fit rd rg pl rd_key rd_val rg_of)
open Go.WideShapes (sorted_perm)
set_option linter.unusedSimpArgs false
set_option linter.unusedVariables false

/-- Block b is a map that holds es, block r ranges over it; left: the keys that are still to come, cnt of them. -/
def Rng (w : World) (b r : Nat) (es : List (Int × Value)) (left : Int → Bool) (cnt : Nat) : Prop :=
  ∃ (en : Array MapEntry) (ck since : Nat) (seen : Array Nat) (c0 : Nat), w.heap[b]? = some (.map en ck) ∧ en.toList.map (fun e => (e.key, e.val)) = es.map (fun p => (Value.int .i64 p.1, p.2)) ∧ Stamped en ck ∧
    w.heap[r]? = some (.mapIter (some b) since seen c0) ∧ (∀ x ∈ en.toList, x.born < since) ∧ (leftOf en seen).size = cnt ∧ (∀ x ∈ en.toList, ∀ k : Int, x.key = .int .i64 k → left k = !seen.contains x.born) ∧ since ≤ c0 ∧ since ≤ ck
theorem Rng.map {w : World} {b r : Nat} {es : List (Int × Value)} {left : Int → Bool} {cnt : Nat} (h : Rng w b r es left cnt) : MapAt w b es := by
  obtain ⟨en, ck, since, seen, c0, h1, h2, h3, _⟩ := h
  exact ⟨en, ck, h1, h2, h3⟩
theorem Rng.lt {w : World} {b r : Nat} {es : List (Int × Value)} {left : Int → Bool} {cnt : Nat} (h : Rng w b r es left cnt) : r < w.heap.size := by
  obtain ⟨en, ck, since, seen, c0, h1, h2, h3, h4, _⟩ := h
  exact lt_of_block h4
theorem Rng.ne {w : World} {b r : Nat} {es : List (Int × Value)} {left : Int → Bool} {cnt : Nat} (h : Rng w b r es left cnt) : r ≠ b := by
  obtain ⟨en, ck, since, seen, c0, h1, h2, h3, h4, _⟩ := h
  intro e
  rw [e, h1] at h4
  cases h4
theorem Rng.upd {w w' : World} {b r : Nat} {es : List (Int × Value)} {left : Int → Bool} {cnt : Nat} {F : Nat → Prop} (h : Rng w b r es left cnt) (hu : Upd F w w') (hb : ¬ F b) (hr : ¬ F r) : Rng w' b r es left cnt := by
  obtain ⟨en, ck, since, seen, c0, h1, h2, h3, h4, rest⟩ := h
  exact ⟨en, ck, since, seen, c0, hu.heap h1 hb, h2, h3, hu.heap h4 hr, rest⟩
theorem entry_of {en : Array MapEntry} {es : List (Int × Value)} (h : en.toList.map (fun e => (e.key, e.val)) = es.map (fun p => (Value.int .i64 p.1, p.2))) {x : MapEntry} (hx : x ∈ en.toList) : ∃ p ∈ es, x.key = .int .i64 p.1 ∧ x.val = p.2 := by
  have hm : (x.key, x.val) ∈ es.map (fun p => (Value.int .i64 p.1, p.2)) := h ▸ List.mem_map.2 ⟨x, hx, rfl⟩
  obtain ⟨p, hp, hpe⟩ := List.mem_map.1 hm
  simp only [Prod.mk.injEq] at hpe
  exact ⟨p, hp, hpe.1.symm, hpe.2.symm⟩
theorem of_entry {en : Array MapEntry} {es : List (Int × Value)} (h : en.toList.map (fun e => (e.key, e.val)) = es.map (fun p => (Value.int .i64 p.1, p.2))) {p : Int × Value} (hp : p ∈ es) : ∃ x ∈ en.toList, x.key = .int .i64 p.1 ∧ x.val = p.2 := by
  have hm : (Value.int .i64 p.1, p.2) ∈ en.toList.map (fun e => (e.key, e.val)) := h ▸ List.mem_map.2 ⟨p, hp, rfl⟩
  obtain ⟨x, hx, hxe⟩ := List.mem_map.1 hm
  simp only [Prod.mk.injEq] at hxe
  exact ⟨x, hx, hxe.1, hxe.2⟩
/-- 'range m'. -/
theorem MapAt.range {P : Program} {w : World} {b : Nat} {es : List (Int × Value)} (h : MapAt w b es) {t k e : TypeId} (ht : P.underlying t = some (.map k e)) :
    ∃ w', (Instr.range t (.map (some b))).run P w = .ok (.pointer (some ⟨w.heap.size, 0, none⟩)) w' ∧ Rng w' b w.heap.size es (fun _ => true) es.length ∧ Upd (fun _ => False) w w' ∧ w'.heap.size = w.heap.size + 1 := by
  have hlt := h.lt
  obtain ⟨en, ck, h1, h2, h3⟩ := h
  refine ⟨_, run_range_map w t k e b en ck ht h1, ⟨en, ck, ck, #[], ck, (Below.heap_alloc w _ b hlt).trans h1, h2, h3, heap_alloc_new w _, h3.1, ?_, fun x _ k _ => by simp, Nat.le_refl _, Nat.le_refl _⟩, (Upd.refl _ w).alloc _, by simp⟩
  have := congrArg List.length h2
  simp only [List.length_map, Array.length_toList] at this
  have e : leftOf en #[] = en := Array.filter_eq_self.2 (fun x _ => by simp)
  rw [e, this]
theorem leftOf_all {en : Array MapEntry} {seen : Array Nat} (h : (leftOf en seen).size = 0) : ∀ x ∈ en.toList, seen.contains x.born = true := by
  intro x hx
  have h0 : leftOf en seen = #[] := Array.eq_empty_of_size_eq_zero h
  unfold leftOf at h0
  rw [Array.filter_eq_empty_iff] at h0
  have := h0 x (by simpa using hx)
  simpa using this
/-- The step. -/
theorem Rng.next {P : Program} {w : World} {b r : Nat} {es : List (Int × Value)} {left : Int → Bool} {cnt : Nat} (h : Rng w b r es left cnt) (ty : TypeId) :
    (cnt = 0 ∧ (∀ p ∈ es, left p.1 = false) ∧ (Instr.next (.pointer (some ⟨r, 0, none⟩)) false ty).run P w = .ok (.tuple #[.bool false]) w) ∨
    ∃ (k : Int) (v : Value) (w' : World) (cnt' : Nat), (k, v) ∈ es ∧ left k = true ∧ (Instr.next (.pointer (some ⟨r, 0, none⟩)) false ty).run P w = .ok (.tuple #[.bool true, .int .i64 k, v]) w' ∧
      Rng w' b r es (fun j => left j && !(j == k)) cnt' ∧ cnt' < cnt ∧ Upd (fun q => q = r) w w' ∧ w'.heap.size = w.heap.size ∧ (Instr.entry (.pointer (some ⟨r, 0, none⟩))).run P w' = .ok (.tuple #[.int .i64 k, v]) w' := by
  have hne := h.ne
  obtain ⟨en, ck, since, seen, c0, h1, h2, h3, h4, hold, rfl, hl, hsc, hsk⟩ := h
  rcases run_next_at (P := P) w ty r b since c0 seen en ck h4 h1 hold hsc with ⟨h0, hrun⟩ | ⟨e, he, w1, hal, hrun⟩
  · refine Or.inl ⟨h0, fun p hp => ?_, hrun⟩
    obtain ⟨x, hx, hxk, _⟩ := of_entry h2 hp
    rw [hl x hx p.1 hxk, leftOf_all h0 x hx]
    rfl
  · obtain ⟨hem, hes⟩ := mem_left he
    obtain ⟨p, hp, hpk, hpv⟩ := entry_of h2 hem
    have hr1 : w1.heap[r]? = some (.mapIter (some b) since seen c0) := by rcases hal with rfl | rfl <;> exact h4
    have hb1 : w1.heap[b]? = some (.map en ck) := by rcases hal with rfl | rfl <;> exact h1
    have hset := heap_set (o' := .mapIter (some b) since (seen.push e.born) ck) hr1
    have hb' : (Go.ChangeMaps.setBlock w1 r (.mapIter (some b) since (seen.push e.born) ck)).heap[b]? = some (.map en ck) := (hset.2 b (fun e1 => hne e1.symm)).trans hb1
    have hst := (stamped_iff en ck).1 h3
    refine Or.inr ⟨p.1, p.2, _, _, hp, by rw [hl e hem p.1 hpk, hes]; rfl, by rw [← hpk, ← hpv]; exact hrun,
      ⟨en, ck, since, seen.push e.born, ck, hb', h2, h3, hset.1, hold, rfl, fun x hx k hk => ?_, hsk, hsk⟩, left_shrinks en seen e he, ?_, ?_, ?_⟩
    · show (left k && !(k == p.1)) = _
      rw [hl x hx k hk, contains_push]
      have hiff : (k == p.1) = (x.born == e.born) := by
        by_cases hb : x.born = e.born
        · obtain rfl := born_inj hst.2.1 hx hem hb
          rw [hk] at hpk
          have hkp : k = p.1 := by cases hpk; rfl
          rw [hkp]
          simp
        · have : k ≠ p.1 := fun e1 => by
            have hkk : x.key = e.key := by rw [hk, hpk, e1]
            exact hb (congrArg MapEntry.born (entry_eq_of_key hst.2.2 hx hem hkk))
          have q1 : (k == p.1) = false := by simpa using this
          have q2 : (x.born == e.born) = false := by simpa using hb
          rw [q1, q2]
      rw [hiff]
      cases seen.contains x.born <;> cases (x.born == e.born) <;> rfl
    · rcases hal with rfl | rfl <;> exact ⟨rfl, rfl, rfl, by simp [Go.ChangeMaps.setBlock], fun i _ hi => hset.2 i hi⟩
    · rcases hal with rfl | rfl <;> simp [Go.ChangeMaps.setBlock]
    · rw [← hpk, ← hpv]
      exact run_entry_at _ r b since seen en ck e hset.1 hb' hem hst.2.1

section
variable {P : Program} {ops : Array Oper} {Q : Exit → Act → World → Prop} {rest : List Oper} {dst : Option Tmp} {ty : TypeId} {pos : String} {aft : Array Edge} {a : Act} {w : World}
theorem wpl_range_map {t k e : TypeId} {m : Operand} (ht : P.underlying t = some (.map k e)) (b : Nat) (es : List (Int × Value)) (hm : a.eval m = .map (some b)) (h : MapAt w b es)
    (hK : ∀ w', Rng w' b w.heap.size es (fun _ => true) es.length → Upd (fun _ => False) w w' → w'.heap.size = w.heap.size + 1 → wpList P ops Q rest (a.put dst (.pointer (some ⟨w.heap.size, 0, none⟩))) w') :
    wpList P ops Q (⟨dst, .range t m, ty, pos, aft, none⟩ :: rest) a w := by
  refine wpList_plain rfl fun K' hK' => ?_
  obtain ⟨w', hrun, r1, r2, r3⟩ := h.range ht
  unfold Oper.wp
  simp [execOp, hm, hrun, Result.andThen]
  exact hK' _ _ (hK w' r1 r2 r3)
theorem wpl_next_map {it : Operand} (b r : Nat) (es : List (Int × Value)) (left : Int → Bool) (cnt : Nat) (hit : a.eval it = .pointer (some ⟨r, 0, none⟩)) (h : Rng w b r es left cnt)
    (hDone : cnt = 0 → (∀ p ∈ es, left p.1 = false) → wpList P ops Q rest (a.put dst (.tuple #[.bool false])) w)
    (hMore : ∀ (k : Int) (v : Value) (w' : World) (cnt' : Nat), (k, v) ∈ es → left k = true → Rng w' b r es (fun j => left j && !(j == k)) cnt' → cnt' < cnt → Upd (fun q => q = r) w w' → w'.heap.size = w.heap.size →
      (Instr.entry (.pointer (some ⟨r, 0, none⟩))).run P w' = .ok (.tuple #[.int .i64 k, v]) w' → wpList P ops Q rest (a.put dst (.tuple #[.bool true, .int .i64 k, v])) w') :
    wpList P ops Q (⟨dst, .next it false, ty, pos, aft, none⟩ :: rest) a w := by
  refine wpList_plain rfl fun K' hK' => ?_
  unfold Oper.wp
  rcases h.next (P := P) ty with ⟨h0, hl, hrun⟩ | ⟨k, v, w', cnt', hm, hlk, hrun, hrg, hlt, hgr, hsz, hen⟩
  · simp [execOp, hit, hrun, Result.andThen]
    exact hK' _ _ (hDone h0 hl)
  · simp [execOp, hit, hrun, Result.andThen]
    exact hK' _ _ (hMore k v w' cnt' hm hlk hrg hlt hgr hsz hen)
end

/-! In the library's words. -/
def heldR : Value → Option (DataW Value × List MemPlace) := fun v => some (.held v, [])
theorem wf_i64 {k : Int} (h0 : -9223372036854775808 ≤ k) (h1 : k ≤ 9223372036854775807) : (Lit.int .i64 k).wf = true := by
  have e1 : IntKind.min .i64 = -9223372036854775808 := by decide
  have e2 : IntKind.max .i64 = 9223372036854775807 := by decide
  simp only [Lit.wf, e1, e2, Bool.and_eq_true, decide_eq_true_eq]
  exact ⟨h0, h1⟩
theorem MapAt.owns {P : Program} {kt : TypeId} (hk : P.underlying kt = some (.int .i64)) {w : World} {b : Nat} {es : List (Int × Value)} (h : MapAt w b es) (hr : ∀ p ∈ es, -9223372036854775808 ≤ p.1 ∧ p.1 ≤ 9223372036854775807) (hl : es.length ≤ maxLen) :
    ∃ D0 : DataW Value, w.ownsMap P kt heldR b es.length D0 ∧ (intKeys D0).Perm (es.map (·.1)) ∧ Maps.size D0 = es.length := by
  obtain ⟨en, ck, h1, h2, h3⟩ := h
  have hlen : en.size = es.length := by have := congrArg List.length h2; simpa using this
  have hrd : ∀ x ∈ en.toList, ∃ p ∈ es, rd P kt heldR x = some (.int .i64 p.1, .held p.2) ∧ x.key = .int .i64 p.1 := by
    intro x hx
    obtain ⟨p, hp, hpk, hpv⟩ := entry_of h2 hx
    refine ⟨p, hp, ?_, hpk⟩
    have hkey : keyOf P kt x.key = some (.int .i64 p.1) := by
      rw [hpk]
      simp [keyOf, hk, mapKey, wf_i64 (hr p hp).1 (hr p hp).2]
    simp [rd, hkey, heldR, hpv]
  refine ⟨_, ⟨en, ck, h1, ⟨by rw [hlen]; exact hl, h3, fun x hx => ?_⟩, by rw [hlen]; exact Nat.le_refl _, rfl⟩, ?_, ?_⟩
  · obtain ⟨p, _, hp, _⟩ := hrd x hx
    exact ⟨_, hp⟩
  · show (((en.toList.map (rg P kt heldR)).foldr DataW.insert []).map fun p => intOf p.1).Perm _
    refine ((sorted_perm _).map _).trans ?_
    rw [List.map_map]
    have e1 : en.toList.map ((fun p => intOf p.1) ∘ rg P kt heldR) = en.toList.map (fun x => match x.key with | .int _ k => k | _ => 0) := by
      refine List.map_congr_left (fun x hx => ?_)
      obtain ⟨p, _, hp, hpk⟩ := hrd x hx
      show intOf (rg P kt heldR x).1 = _
      rw [rg_of hp, hpk]
      rfl
    have e2 : en.toList.map (fun x => match x.key with | .int _ k => k | _ => 0) = es.map (·.1) := by
      have := congrArg (List.map (fun q : Value × Value => match q.1 with | .int _ k => k | _ => 0)) h2
      simpa [List.map_map, Function.comp_def] using this
    rw [e1, e2]
  · simp [Maps.size, length_sorted, hlen]
end Go.Proofs.YtihlijnobbonbaaGreat

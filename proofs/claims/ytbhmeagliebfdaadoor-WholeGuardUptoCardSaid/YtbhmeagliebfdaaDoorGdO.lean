/- Locks, a path and a header that came in. -/
import Derived.Test.YtbhmeagliebfdaaDoorRows
import Derived.Test.YtbhmeagliebfdaaDoorGd1
import Derived.SizedLaws
import Derived.Lib.SmallJoins
import Derived.Deep.Strs
import Derived.OpenShut
namespace Go.Proofs.YtbhmeagliebfdaaDoor
open Go.ChangeShapes Go.WideShapes Go.ChangeAt Go.RowKit Go.Deep
set_option linter.unusedSimpArgs false
set_option linter.unusedVariables false
set_option maxRecDepth 100000
theorem Addr.add_none {x : Addr} {j : Nat} {v : Value} {w : World} (h : w.cell? (x.add j) = some v) (h0 : j = 0 → x.spot = none) : w.cell? ⟨x.block, x.off + j, none⟩ = some v := by
  obtain ⟨b, off, spot⟩ := x
  by_cases hj : j = 0
  · subst hj
    have : spot = none := h0 rfl
    subst this
    simpa [Addr.add] using h
  · simpa [Addr.add, hj] using h

theorem cells_getB {w : World} {base : Nat} {a : Addr} {n : Nat} {cs : List Value} (h : w.cells? base a n = some cs) : cs.length = n ∧ ∀ r v, cs[r]? = some v → w.cell? (a.add r) = some v := by
  unfold World.cells? at h
  split at h
  · have key : ∀ (l : List Nat) (cs : List Value), l.mapM (fun i => w.cell? (a.add i)) = some cs → cs.length = l.length ∧ ∀ (r : Nat) v, cs[r]? = some v → ∃ i, l[r]? = some i ∧ w.cell? (a.add i) = some v := by
      intro l
      induction l with
      | nil => intro cs h; simp at h; subst h; simp
      | cons x r ih =>
        intro cs h
        rw [List.mapM_cons] at h
        cases hx : w.cell? (a.add x) with
        | none => simp [hx] at h
        | some v =>
          cases ht : r.mapM (fun i => w.cell? (a.add i)) with
          | none => simp [hx, ht] at h
          | some t =>
          simp [hx, ht] at h
          subst h
          obtain ⟨h1, h2⟩ := ih t ht
          refine ⟨by simp [h1], fun r' u hu => ?_⟩
          cases r' with
          | zero => simp at hu; subst hu; exact ⟨x, rfl, hx⟩
          | succ r' => simp at hu; obtain ⟨i, h3, h4⟩ := h2 r' u hu; exact ⟨i, by simpa using h3, h4⟩
    obtain ⟨h1, h2⟩ := key _ _ h
    refine ⟨by simpa using h1, fun r v hv => ?_⟩
    obtain ⟨i, h3, h4⟩ := h2 r v hv
    rw [List.getElem?_range] at h3
    · cases h3; exact h4
    · rcases Nat.lt_or_ge r n with h | h
      · exact h
      · rw [List.getElem?_eq_none (by simpa using h)] at h3; cases h3
  · cases h

/-- A slice of things of several cells. -/
theorem sees_of_manyB {w : World} {a : Addr} {len cap size : Nat} (hsz : 0 < size) {α : Type} (l : List α) (f : α → List Value) (hf : ∀ x ∈ l, (f x).length = size) (hlen : l.length = len) (hm : len ≤ maxLen)
    (hc : ∀ i (hi : i < l.length) r v, (f l[i])[r]? = some v → w.cell? ((a.add (i * size)).add r) = some v) :
    Sees w size (.slice (some a) len cap) len (l.flatMap f) ∧ (0 < len → a.block < w.heap.size) := by
  have first : 0 < len → ∃ v, w.cell? a = some v := fun h0 => by
    have hi : 0 < l.length := by omega
    have hl := hf l[0] (List.getElem_mem hi)
    refine ⟨(f l[0])[0], ?_⟩
    have := hc 0 hi 0 _ (List.getElem?_eq_getElem (by omega))
    simpa [Addr.add] using this
  refine ⟨⟨by rw [flat_length f size l hf, hlen], hm, _, _, rfl, fun h0 => ?_⟩, fun h0 => ?_⟩
  · obtain ⟨v0, hv0⟩ := first h0
    have hs : a.spot = none := World.cell?_spot hv0
    refine ⟨a.block, a.off, by obtain ⟨b, o, s⟩ := a; simp at hs; subst hs; rfl, fun j v hj => ?_⟩
    have hjl : j < l.length * size := by
      rcases Nat.lt_or_ge j (l.length * size) with h | h
      · exact h
      · rw [List.getElem?_eq_none (by rw [flat_length f size l hf]; exact h)] at hj; cases hj
    have hq : j / size < l.length := by rw [Nat.div_lt_iff_lt_mul hsz]; exact hjl
    have hr : j % size < size := Nat.mod_lt _ hsz
    have he : j = j / size * size + j % size := by rw [Nat.mul_comm]; exact (Nat.div_add_mod j size).symm
    rw [he, flat_cell f size l hf _ _ hq hr] at hj
    have h1 := hc _ hq _ _ hj
    rw [Go.Deep.add_add, ← he] at h1
    exact Addr.add_none h1 (fun _ => hs)
  · obtain ⟨v0, hv0⟩ := first h0
    exact World.block_lt_of_cell? _ a hv0

theorem sees_of_cells {w : World} {a : Addr} {len cap : Nat} {V : Nat → Value} (hm : len ≤ maxLen) (hc : ∀ i, i < len → w.cell? (a.add i) = some (V i)) :
    Sees w 1 (.slice (some a) len cap) len ((List.range len).map V) ∧ (0 < len → a.block < w.heap.size) := by
  refine ⟨⟨by simp, hm, _, _, rfl, fun h0 => ?_⟩, fun h0 => ?_⟩
  · have hs : a.spot = none := by have := hc 0 h0; exact World.cell?_spot (by simpa [Addr.add] using this)
    refine ⟨a.block, a.off, ?_, fun j v hj => ?_⟩
    · obtain ⟨b, o, s⟩ := a; simp at hs; subst hs; rfl
    · have hjl : j < len := by
        rcases Nat.lt_or_ge j len with h | h
        · exact h
        · rw [List.getElem?_eq_none (by simpa using h)] at hj; cases hj
      have := hc j hjl
      simp [hjl] at hj
      subst hj
      exact Addr.add_none this (fun _ => hs)
  · have := hc 0 h0
    exact World.block_lt_of_cell? _ a (by simpa [Addr.add] using this)


instance : Inhabited LkR := ⟨⟨⟨[], [], false, false, [], 0⟩, none, 0⟩⟩
section
variable {H : Type} {enc : TypeId × Value → H} {P : Program} {w : World} {base : Nat} {spare : Nat → Bool} {held : Bool}
theorem trod_struct6 {t : TypeId} {f0 f1 f2 f3 f4 f5 : Field} {fuel : Nat} {cs : List Value} {x : DataW H × List MemPlace} (ht : P.underlying t = some (.struct #[f0, f1, f2, f3, f4, f5])) (h : DataW.trod enc P w base spare held fuel t cs = some x) :
    ∃ y0 y1 y2 y3 y4 y5 n, cs.length = P.cellsOf t ∧ DataW.trod enc P w base spare held n f0.type ((cs.drop f0.offset).take (P.cellsOf f0.type)) = some y0 ∧
      DataW.trod enc P w base spare held n f1.type ((cs.drop f1.offset).take (P.cellsOf f1.type)) = some y1 ∧ DataW.trod enc P w base spare held n f2.type ((cs.drop f2.offset).take (P.cellsOf f2.type)) = some y2 ∧
      DataW.trod enc P w base spare held n f3.type ((cs.drop f3.offset).take (P.cellsOf f3.type)) = some y3 ∧ DataW.trod enc P w base spare held n f4.type ((cs.drop f4.offset).take (P.cellsOf f4.type)) = some y4 ∧
      DataW.trod enc P w base spare held n f5.type ((cs.drop f5.offset).take (P.cellsOf f5.type)) = some y5 := by
  obtain ⟨xs, n, _, rfl, hl, hlen, hf⟩ := DataW.trod_struct ht h
  match xs, hlen with
  | [y0, y1, y2, y3, y4, y5], _ => exact ⟨y0, y1, y2, y3, y4, y5, n, hl, by simpa using hf 0 f0 rfl, by simpa using hf 1 f1 rfl, by simpa using hf 2 f2 rfl, by simpa using hf 3 f3 rfl, by simpa using hf 4 f4 rfl, by simpa using hf 5 f5 rfl⟩
end
theorem cI64g : Tryd.prog.cellsOf 2 = 1 := by kernel_rfl
theorem cStrg : Tryd.prog.cellsOf 9 = 1 := by kernel_rfl
theorem cStrsg : Tryd.prog.cellsOf 23 = 1 := by kernel_rfl
theorem cBoolg : Tryd.prog.cellsOf 4 = 1 := by kernel_rfl
theorem cLockg : Tryd.prog.cellsOf 28 = 6 := by kernel_rfl
section
variable {H : Type} {enc : TypeId × Value → H} {W : World} {base : Nat}
theorem open_path' {n : Nat} {cs : List Value} {d : DataW H × List MemPlace} (h : DataW.trod enc Tryd.prog W 0 (fun _ => true) true n 23 cs = some d) :
    ∃ (a : Option Addr) (c : Nat) (p : List By), cs = [.slice a p.length c] ∧ Sees W 1 (.slice a p.length c) p.length (strsV p) ∧ (∀ s ∈ p, s.length ≤ maxLen) := by
  rcases open_slice1 Tryd.underlying23 (by kernel_rfl) h with ⟨hcs, _⟩ | ⟨x, l, c, m, n, V, D, Pl, hcs, _, hl, hm, hmm, _, hcell⟩
  · exact ⟨none, 0, [], hcs, Sees.zero _ _ _ _, fun r hr => by cases hr⟩
  · have hm' : m = c := by simpa using hmm
    have hb : ∀ i, i < m → ∃ b : By, V i = .string (bs b) ∧ b.length ≤ maxLen := fun i hi => by
      obtain ⟨s, hs, _, hsz⟩ := DataW.trod_string Tryd.underlying9 (hcell i hi).2
      exact ⟨s.data.toList, by rw [bs_of]; simpa using hs, by rw [← Lib.size_eq]; exact hsz⟩
    obtain ⟨f, hf'⟩ := choose_lt hb
    have hc : ∀ i, i < l → W.cell? (x.add i) = some (.string (bs (f i))) := fun i hi => by rw [(hcell i (by omega)).1, (hf' i (by omega)).1]
    obtain ⟨h1, h2⟩ := sees_of_cells (cap := c) (Nat.le_trans hl hm) hc
    refine ⟨some x, c, (List.range l).map f, by simpa using hcs, ?_, fun r hr => ?_⟩
    · have e : (List.range l).map (fun i => Value.string (bs (f i))) = strsV ((List.range l).map f) := by simp [strsV]
      rw [e] at h1
      simpa using h1
    · simp only [List.mem_map, List.mem_range] at hr
      obtain ⟨i, hi, rfl⟩ := hr
      exact (hf' i (by omega)).2
theorem open_path {v : Value} {d : DataW H} {p : List MemPlace} (hv : Value.okWide Tryd.prog W .any base 23 v) (h : DataW.Trod enc Tryd.prog W 0 (fun _ => true) true 23 v d p) :
    ∃ (a : Option Addr) (c : Nat) (q : List By), v = .slice a q.length c ∧ Sees W 1 (.slice a q.length c) q.length (strsV q) ∧ (∀ s ∈ q, s.length ≤ maxLen) := by
  obtain ⟨a0, len, cap, rfl⟩ := okWide_slice Tryd.underlying23 hv
  obtain ⟨fuel, hf⟩ := h
  obtain ⟨a, c, q, hcs, h1, h2⟩ := open_path' hf
  simp [Value.cells] at hcs
  obtain ⟨rfl, rfl, rfl⟩ := hcs
  exact ⟨_, _, q, rfl, h1, h2⟩
/-- A lock that came in. -/
def LkOk (W : World) (r : LkR) : Prop := Sees W 1 (.slice r.xp r.l.path.length r.cp) r.l.path.length (strsV r.l.path) ∧ r.l.tok.length ≤ maxLen ∧ (∀ s ∈ r.l.path, s.length ≤ maxLen) ∧ r.l.owner.length ≤ maxLen
theorem open_lock {n : Nat} {cs : List Value} {x : DataW H × List MemPlace} (h : DataW.trod enc Tryd.prog W 0 (fun _ => true) true n 28 cs = some x) :
    ∃ r : LkR, cs = lkV r ∧ LkOk W r := by
  obtain ⟨y0, y1, y2, y3, y4, y5, n', hl, h0, h1, h2, h3, h4, h5⟩ := trod_struct6 Tryd.underlying28 h
  have hl' : cs.length = 6 := hl.trans (by kernel_rfl)
  match cs, hl' with
  | [c0, c1, c2, c3, c4, c5], _ =>
    obtain ⟨s, e0, _, hs⟩ := DataW.trod_string Tryd.underlying9 h0
    obtain ⟨a, c, q, e1, hse, hsm⟩ := open_path' h1
    obtain ⟨b2, e2, _⟩ := DataW.trod_bool Tryd.underlying4 h2
    obtain ⟨b3, e3, _⟩ := DataW.trod_bool Tryd.underlying4 h3
    obtain ⟨o, e4, _, ho⟩ := DataW.trod_string Tryd.underlying9 h4
    obtain ⟨i, e5, _, hi⟩ := DataW.trod_int Tryd.underlying2 h5
    have e0 : c0 = .string s := by simpa [cStrg, cStrsg, cBoolg, cI64g] using e0
    have e1 : c1 = .slice a q.length c := by simpa [cStrg, cStrsg, cBoolg, cI64g] using e1
    have e2 : c2 = .bool b2 := by simpa [cStrg, cStrsg, cBoolg, cI64g] using e2
    have e3 : c3 = .bool b3 := by simpa [cStrg, cStrsg, cBoolg, cI64g] using e3
    have e4 : c4 = .string o := by simpa [cStrg, cStrsg, cBoolg, cI64g] using e4
    have e5 : c5 = .int .i64 i := by simpa [cStrg, cStrsg, cBoolg, cI64g] using e5
    refine ⟨⟨⟨s.data.toList, q, b2, b3, o.data.toList, i⟩, a, c⟩, ?_, hse, ?_, hsm, ?_⟩
    · simp only [lkV, e0, e1, e2, e3, e4, e5, bs_of]
    · show s.data.toList.length ≤ maxLen
      rw [← Lib.size_eq]; exact hs
    · show o.data.toList.length ≤ maxLen
      rw [← Lib.size_eq]; exact ho
theorem open_locks' {n : Nat} {cs : List Value} {d : DataW H × List MemPlace} (h : DataW.trod enc Tryd.prog W 0 (fun _ => true) true n 22 cs = some d) :
    ∃ (a : Option Addr) (c : Nat) (l : List LkR), cs = [.slice a l.length c] ∧ Sees W 6 (.slice a l.length c) l.length (l.flatMap lkV) ∧ ∀ r ∈ l, LkOk W r := by
  rcases open_slice Tryd.underlying22 h with ⟨hcs, _⟩ | ⟨x, len, cap, m, n, D, Pl, hcs, _, hl, hm, hmm, _, hcell⟩
  · exact ⟨none, 0, [], hcs, Sees.zero _ _ _ _, (fun o ho => by cases ho)⟩
  · have hm' : m = cap := by simpa using hmm
    have hb : ∀ i, i < len → ∃ o : LkR, LkOk W o ∧ ∀ r u, (lkV o)[r]? = some u → W.cell? ((x.add (i * 6)).add r) = some u := fun i hi => by
      obtain ⟨cs, h1, h2⟩ := hcell i (by omega)
      obtain ⟨o, rfl, ho⟩ := open_lock h2
      rw [cLockg] at h1
      exact ⟨o, ho, (cells_getB h1).2⟩
    obtain ⟨f, hf'⟩ := choose_lt hb
    have hlen : ((List.range len).map f).length = len := by simp
    obtain ⟨h1, h2⟩ := sees_of_manyB (w := W) (a := x) (len := len) (cap := cap) (size := 6) (by decide) ((List.range len).map f) lkV (fun o _ => lkV_length o) hlen (Nat.le_trans hl hm)
      (fun i hi r u hu => by
        have hi' : i < len := by simpa using hi
        simp only [List.getElem_map, List.getElem_range] at hu
        exact (hf' i hi').2 r u hu)
    refine ⟨some x, cap, (List.range len).map f, by rw [hlen]; exact hcs, by rw [hlen]; exact h1, fun o ho => ?_⟩
    simp only [List.mem_map, List.mem_range] at ho
    obtain ⟨i, hi, rfl⟩ := ho
    exact (hf' i hi).1
theorem open_locks {v : Value} {d : DataW H} {p : List MemPlace} (hv : Value.okWide Tryd.prog W .any base 22 v) (h : DataW.Trod enc Tryd.prog W 0 (fun _ => true) true 22 v d p) :
    ∃ (a : Option Addr) (c : Nat) (l : List LkR), v = .slice a l.length c ∧ LocksAt W a l.length c l ∧ ∀ r ∈ l, r.l.tok.length ≤ maxLen ∧ (∀ s ∈ r.l.path, s.length ≤ maxLen) ∧ r.l.owner.length ≤ maxLen := by
  obtain ⟨a0, len, cap, rfl⟩ := okWide_slice Tryd.underlying22 hv
  obtain ⟨fuel, hf⟩ := h
  obtain ⟨a, c, l, hcs, h1, h2⟩ := open_locks' hf
  simp [Value.cells] at hcs
  obtain ⟨rfl, rfl, rfl⟩ := hcs
  exact ⟨_, _, l, rfl, ⟨h1, fun r hr => (h2 r hr).1⟩, fun r hr => (h2 r hr).2⟩
theorem bulk_memG : ∀ (ds : List (DataW H)) (d : DataW H), d ∈ ds → Rows.uptoBulk d ≤ Rows.uptoBulkAll ds
  | x :: r, d, hd => by
    unfold Rows.uptoBulkAll
    rcases List.mem_cons.1 hd with rfl | hd
    · exact Nat.le_add_right _ _
    · exact Nat.le_trans (bulk_memG r d hd) (Nat.le_add_left _ _)
end
end Go.Proofs.YtbhmeagliebfdaaDoor

/- Slices of docketlaw02.Op that came in. -/
import Derived.Test.YtlcbgcbocikkkaaOpen
import Derived.Test.YtlcbgcbocikkkaaStr
import Derived.Lib.SmallJoins
namespace Go.Proofs.Ytlcbgcbocikkkaa
open Go.ChangeShapes Go.WideShapes Go.ChangeAt Go.RowKit Go.Deep
set_option linter.unusedSimpArgs false
set_option maxRecDepth 100000

/-- An Op, as it lies. -/
structure OpR where
  kind : Nat
  i : Int
  data : ByteArray
  ka : Option Addr
  kc : Nat
  keep : List Bool
instance : Inhabited OpR := ⟨⟨0, 0, ByteArray.empty, none, 0, []⟩⟩
def opV (o : OpR) : List Value := [.int .u8 o.kind, .int .i64 o.i, .string o.data, .slice o.ka o.keep.length o.kc]
structure OpR.Ok (w : World) (o : OpR) : Prop where
  kind : o.kind ≤ 255
  lo : -9223372036854775808 ≤ o.i
  hi : o.i ≤ 9223372036854775807
  data : o.data.size ≤ maxLen
  keep : Sees w 1 (.slice o.ka o.keep.length o.kc) o.keep.length (boolsV o.keep)
  lt : ∀ x, o.ka = some x → 0 < o.keep.length → x.block < w.heap.size

theorem cU8 : Try.prog.cellsOf 5 = 1 := by kernel_rfl
theorem cInt : Try.prog.cellsOf 3 = 1 := by kernel_rfl
theorem cStr : Try.prog.cellsOf 9 = 1 := by kernel_rfl
theorem cBools : Try.prog.cellsOf 23 = 1 := by kernel_rfl
theorem cOp : Try.prog.cellsOf 50 = 4 := by kernel_rfl
theorem opV_length (o : OpR) : (opV o).length = 4 := rfl

section
variable {H : Type} {enc : TypeId × Value → H} {W : World} {base : Nat}

theorem open_bools' {n : Nat} {cs : List Value} {d : DataW H × List MemPlace} (h : DataW.trod enc Try.prog W 0 (fun _ => true) true n 23 cs = some d) :
    ∃ (a : Option Addr) (c : Nat) (bs : List Bool), cs = [.slice a bs.length c] ∧ Sees W 1 (.slice a bs.length c) bs.length (boolsV bs) ∧ (∀ x, a = some x → 0 < bs.length → x.block < W.heap.size) := by
  rcases open_slice1 Try.underlying23 (by kernel_rfl) h with ⟨hcs, _⟩ | ⟨x, l, c, m, n, V, D, Pl, hcs, _, hl, hm, hmm, _, hcell⟩
  · exact ⟨none, 0, [], hcs, Sees.zero _ _ _ _, fun x hx => by cases hx⟩
  · have hm' : m = c := by simpa using hmm
    have hb : ∀ i, i < m → ∃ b, V i = .bool b := fun i hi => by
      obtain ⟨b, hb, _⟩ := DataW.trod_bool Try.underlying4 (hcell i hi).2
      exact ⟨b, by simpa using hb⟩
    obtain ⟨f, hf'⟩ := choose_lt hb
    have hc : ∀ i, i < l → W.cell? (x.add i) = some (.bool (f i)) := fun i hi => by rw [(hcell i (by omega)).1, hf' i (by omega)]
    obtain ⟨h1, h2⟩ := sees_of_cells (cap := c) (Nat.le_trans hl hm) hc
    refine ⟨some x, c, (List.range l).map f, by simpa using hcs, ?_, fun y hy h0 => by cases hy; exact h2 (by simpa using h0)⟩
    have e : (List.range l).map (fun i => Value.bool (f i)) = boolsV ((List.range l).map f) := by simp [boolsV]
    rw [e] at h1
    simpa using h1

theorem open_op {n : Nat} {cs : List Value} {x : DataW H × List MemPlace} (h : DataW.trod enc Try.prog W 0 (fun _ => true) true n 50 cs = some x) : ∃ o : OpR, cs = opV o ∧ o.Ok W := by
  obtain ⟨y0, y1, y2, y3, n', rfl, hl, h0, h1, h2, h3⟩ := Go.Joins.trod_struct4 Try.underlying50 h
  have hl' : cs.length = 4 := hl.trans (by kernel_rfl)
  match cs, hl' with
  | [c0, c1, c2, c3], _ =>
    obtain ⟨k, e0, _, hk⟩ := DataW.trod_int Try.underlying5 h0
    obtain ⟨i, e1, _, hi⟩ := DataW.trod_int Try.underlying3 h1
    obtain ⟨s, e2, _, hs⟩ := DataW.trod_string Try.underlying9 h2
    obtain ⟨a, c, bs, e3, hse, hlt⟩ := open_bools' h3
    have e0 : c0 = .int .u8 k := by simpa [cU8] using e0
    have e1 : c1 = .int .i64 i := by simpa [cInt] using e1
    have e2 : c2 = .string s := by simpa [cStr] using e2
    have e3 : c3 = .slice a bs.length c := by simpa [cBools] using e3
    have hkb := bounds_u8 hk
    have hib := bounds_i64 hi
    refine ⟨⟨k.toNat, i, s, a, c, bs⟩, ?_, ⟨by simp; omega, hib.1, hib.2, hs, hse, hlt⟩⟩
    simp only [opV, e0, e1, e2, e3]
    rw [show ((k.toNat : Nat) : Int) = k by omega]

/-- What cells? reads. -/
theorem cells?_get {w : World} {base : Nat} {a : Addr} {n : Nat} {cs : List Value} (h : w.cells? base a n = some cs) : cs.length = n ∧ ∀ r v, cs[r]? = some v → w.cell? (a.add r) = some v := by
  unfold World.cells? at h
  split at h
  · have key : ∀ (l : List Nat) (cs : List Value), l.mapM (fun i => w.cell? (a.add i)) = some cs → cs.length = l.length ∧ ∀ (r : Nat) v, cs[r]? = some v → ∃ i, l[r]? = some i ∧ w.cell? (a.add i) = some v := by
      intro l
      induction l with
      | nil => intro cs h; simp at h; subst h; simp
      | cons x r ih =>
        intro cs h
        rw [List.mapM_cons] at h
        cases hx : w.cell? (a.add x) with
        | none => simp [hx] at h
        | some v =>
          cases ht : r.mapM (fun i => w.cell? (a.add i)) with
          | none => simp [hx, ht] at h
          | some t =>
          simp [hx, ht] at h
          subst h
          obtain ⟨h1, h2⟩ := ih t ht
          refine ⟨by simp [h1], fun r' u hu => ?_⟩
          cases r' with
          | zero => simp at hu; subst hu; exact ⟨x, rfl, hx⟩
          | succ r' => simp at hu; obtain ⟨i, h3, h4⟩ := h2 r' u hu; exact ⟨i, by simpa using h3, h4⟩
    obtain ⟨h1, h2⟩ := key _ _ h
    refine ⟨by simpa using h1, fun r v hv => ?_⟩
    obtain ⟨i, h3, h4⟩ := h2 r v hv
    rw [List.getElem?_range] at h3
    · cases h3; exact h4
    · rcases Nat.lt_or_ge r n with h | h
      · exact h
      · rw [List.getElem?_eq_none (by simpa using h)] at h3; cases h3
  · cases h

/-- A slice of things of several cells. -/
theorem sees_of_many {w : World} {a : Addr} {len cap size : Nat} (hsz : 0 < size) {α : Type} (l : List α) (f : α → List Value) (hf : ∀ x ∈ l, (f x).length = size) (hlen : l.length = len) (hm : len ≤ maxLen)
    (hc : ∀ i (hi : i < l.length) r v, (f l[i])[r]? = some v → w.cell? ((a.add (i * size)).add r) = some v) :
    Sees w size (.slice (some a) len cap) len (l.flatMap f) ∧ (0 < len → a.block < w.heap.size) := by
  have first : 0 < len → ∃ v, w.cell? a = some v := fun h0 => by
    have hi : 0 < l.length := by omega
    have hl := hf l[0] (List.getElem_mem hi)
    refine ⟨(f l[0])[0], ?_⟩
    have := hc 0 hi 0 _ (List.getElem?_eq_getElem (by omega))
    simpa [Addr.add] using this
  refine ⟨⟨by rw [flat_length f size l hf, hlen], hm, _, _, rfl, fun h0 => ?_⟩, fun h0 => ?_⟩
  · obtain ⟨v0, hv0⟩ := first h0
    have hs : a.spot = none := World.cell?_spot hv0
    refine ⟨a.block, a.off, by obtain ⟨b, o, s⟩ := a; simp at hs; subst hs; rfl, fun j v hj => ?_⟩
    have hjl : j < l.length * size := by
      rcases Nat.lt_or_ge j (l.length * size) with h | h
      · exact h
      · rw [List.getElem?_eq_none (by rw [flat_length f size l hf]; exact h)] at hj; cases hj
    have hq : j / size < l.length := by rw [Nat.div_lt_iff_lt_mul hsz]; exact hjl
    have hr : j % size < size := Nat.mod_lt _ hsz
    have he : j = j / size * size + j % size := by rw [Nat.mul_comm]; exact (Nat.div_add_mod j size).symm
    rw [he, flat_cell f size l hf _ _ hq hr] at hj
    have h1 := hc _ hq _ _ hj
    rw [Go.Deep.add_add, ← he] at h1
    exact Addr.add_none h1 (fun _ => hs)
  · obtain ⟨v0, hv0⟩ := first h0
    exact World.block_lt_of_cell? _ a hv0

theorem open_ops2 {v : Value} {d : DataW H} {p : List MemPlace} (hv : Value.okWide Try.prog W .any base 45 v) (h : DataW.Trod enc Try.prog W 0 (fun _ => true) true 45 v d p) :
    ∃ (a : Option Addr) (c : Nat) (l : List OpR), v = .slice a l.length c ∧ (Sees W 4 (.slice a l.length c) l.length (l.flatMap opV) ∧ ∀ o ∈ l, o.Ok W) ∧ (∀ x, a = some x → 0 < l.length → x.block < W.heap.size) := by
  obtain ⟨a0, len, cap, rfl⟩ := okWide_slice Try.underlying45 hv
  obtain ⟨fuel, hf⟩ := h
  rcases open_slice Try.underlying45 hf with ⟨hcs, _⟩ | ⟨x, l, c, m, n, D, Pl, hcs, _, hl, hm, hmm, _, hcell⟩
  · simp [Value.cells] at hcs
    obtain ⟨rfl, rfl, rfl⟩ := hcs
    exact ⟨none, 0, [], rfl, ⟨Sees.zero _ _ _ _, fun o ho => by cases ho⟩, fun x hx => by cases hx⟩
  · simp [Value.cells] at hcs
    obtain ⟨rfl, rfl, rfl⟩ := hcs
    have hm' : m = cap := by simpa using hmm
    have hb : ∀ i, i < len → ∃ o : OpR, o.Ok W ∧ ∀ r u, (opV o)[r]? = some u → W.cell? ((x.add (i * 4)).add r) = some u := fun i hi => by
      obtain ⟨cs, h1, h2⟩ := hcell i (by omega)
      obtain ⟨o, rfl, ho⟩ := open_op h2
      rw [cOp] at h1
      exact ⟨o, ho, (cells?_get h1).2⟩
    obtain ⟨f, hf'⟩ := choose_lt hb
    have hlen : ((List.range len).map f).length = len := by simp
    obtain ⟨h1, h2⟩ := sees_of_many (w := W) (a := x) (len := len) (cap := cap) (size := 4) (by decide) ((List.range len).map f) opV (fun o _ => opV_length o) hlen (Nat.le_trans hl hm)
      (fun i hi r u hu => by
        have hi' : i < len := by simpa using hi
        simp only [List.getElem_map, List.getElem_range] at hu
        exact (hf' i hi').2 r u hu)
    refine ⟨some x, cap, (List.range len).map f, by rw [hlen], ⟨by rw [hlen]; exact h1, fun o ho => ?_⟩, fun y hy h0 => by cases hy; exact h2 (by omega)⟩
    simp only [List.mem_map, List.mem_range] at ho
    obtain ⟨i, hi, rfl⟩ := ho
    exact (hf' i hi).1
end
end Go.Proofs.Ytlcbgcbocikkkaa

/- Slices of docketlaw02.Op that came in. -/
import Derived.Test.YtocameknhglklaaOpen
import Derived.Test.YtocameknhglklaaStr
import Derived.Lib.SmallJoins
namespace Go.Proofs.Ytocameknhglklaa
open Go.ChangeShapes Go.WideShapes Go.ChangeAt Go.RowKit Go.Deep
set_option linter.unusedSimpArgs false
set_option maxRecDepth 100000

/-- An Op, as it lies. -/
structure OpR where
  kind : Nat
  i : Int
  data : ByteArray
  ka : Option Addr
  kc : Nat
  keep : List Bool
instance : Inhabited OpR := ⟨⟨0, 0, ByteArray.empty, none, 0, []⟩⟩
def opV (o : OpR) : List Value := [.int .u8 o.kind, .int .i64 o.i, .string o.data, .slice o.ka o.keep.length o.kc]
structure OpR.Ok (w : World) (o : OpR) : Prop where
  kind : o.kind ≤ 255
  lo : -9223372036854775808 ≤ o.i
  hi : o.i ≤ 9223372036854775807
  data : o.data.size ≤ maxLen
  keep : Sees w 1 (.slice o.ka o.keep.length o.kc) o.keep.length (boolsV o.keep)
  lt : ∀ x, o.ka = some x → 0 < o.keep.length → x.block < w.heap.size

theorem cU8 : Try.prog.cellsOf 5 = 1 := by kernel_rfl
theorem cInt : Try.prog.cellsOf 3 = 1 := by kernel_rfl
theorem cStr : Try.prog.cellsOf 9 = 1 := by kernel_rfl
theorem cBools : Try.prog.cellsOf 43 = 1 := by kernel_rfl
theorem opV_length (o : OpR) : (opV o).length = 4 := rfl

section
variable {H : Type} {enc : TypeId × Value → H} {W : World} {base : Nat}

theorem open_bools' {n : Nat} {cs : List Value} {d : DataW H × List MemPlace} (h : DataW.trod enc Try.prog W 0 (fun _ => true) true n 43 cs = some d) :
    ∃ (a : Option Addr) (c : Nat) (bs : List Bool), cs = [.slice a bs.length c] ∧ Sees W 1 (.slice a bs.length c) bs.length (boolsV bs) ∧ (∀ x, a = some x → 0 < bs.length → x.block < W.heap.size) := by
  rcases open_slice1 Try.underlying43 (by kernel_rfl) h with ⟨hcs, _⟩ | ⟨x, l, c, m, n, V, D, Pl, hcs, _, hl, hm, hmm, _, hcell⟩
  · exact ⟨none, 0, [], hcs, Sees.zero _ _ _ _, fun x hx => by cases hx⟩
  · have hm' : m = c := by simpa using hmm
    have hb : ∀ i, i < m → ∃ b, V i = .bool b := fun i hi => by
      obtain ⟨b, hb, _⟩ := DataW.trod_bool Try.underlying4 (hcell i hi).2
      exact ⟨b, by simpa using hb⟩
    obtain ⟨f, hf'⟩ := choose_lt hb
    have hc : ∀ i, i < l → W.cell? (x.add i) = some (.bool (f i)) := fun i hi => by rw [(hcell i (by omega)).1, hf' i (by omega)]
    obtain ⟨h1, h2⟩ := sees_of_cells (cap := c) (Nat.le_trans hl hm) hc
    refine ⟨some x, c, (List.range l).map f, by simpa using hcs, ?_, fun y hy h0 => by cases hy; exact h2 (by simpa using h0)⟩
    have e : (List.range l).map (fun i => Value.bool (f i)) = boolsV ((List.range l).map f) := by simp [boolsV]
    rw [e] at h1
    simpa using h1

/-- What cells? reads. -/
theorem cells?_get {w : World} {base : Nat} {a : Addr} {n : Nat} {cs : List Value} (h : w.cells? base a n = some cs) : cs.length = n ∧ ∀ r v, cs[r]? = some v → w.cell? (a.add r) = some v := by
  unfold World.cells? at h
  split at h
  · have key : ∀ (l : List Nat) (cs : List Value), l.mapM (fun i => w.cell? (a.add i)) = some cs → cs.length = l.length ∧ ∀ (r : Nat) v, cs[r]? = some v → ∃ i, l[r]? = some i ∧ w.cell? (a.add i) = some v := by
      intro l
      induction l with
      | nil => intro cs h; simp at h; subst h; simp
      | cons x r ih =>
        intro cs h
        rw [List.mapM_cons] at h
        cases hx : w.cell? (a.add x) with
        | none => simp [hx] at h
        | some v =>
          cases ht : r.mapM (fun i => w.cell? (a.add i)) with
          | none => simp [hx, ht] at h
          | some t =>
          simp [hx, ht] at h
          subst h
          obtain ⟨h1, h2⟩ := ih t ht
          refine ⟨by simp [h1], fun r' u hu => ?_⟩
          cases r' with
          | zero => simp at hu; subst hu; exact ⟨x, rfl, hx⟩
          | succ r' => simp at hu; obtain ⟨i, h3, h4⟩ := h2 r' u hu; exact ⟨i, by simpa using h3, h4⟩
    obtain ⟨h1, h2⟩ := key _ _ h
    refine ⟨by simpa using h1, fun r v hv => ?_⟩
    obtain ⟨i, h3, h4⟩ := h2 r v hv
    rw [List.getElem?_range] at h3
    · cases h3; exact h4
    · rcases Nat.lt_or_ge r n with h | h
      · exact h
      · rw [List.getElem?_eq_none (by simpa using h)] at h3; cases h3
  · cases h

/-- A slice of things of several cells. -/
theorem sees_of_many {w : World} {a : Addr} {len cap size : Nat} (hsz : 0 < size) {α : Type} (l : List α) (f : α → List Value) (hf : ∀ x ∈ l, (f x).length = size) (hlen : l.length = len) (hm : len ≤ maxLen)
    (hc : ∀ i (hi : i < l.length) r v, (f l[i])[r]? = some v → w.cell? ((a.add (i * size)).add r) = some v) :
    Sees w size (.slice (some a) len cap) len (l.flatMap f) ∧ (0 < len → a.block < w.heap.size) := by
  have first : 0 < len → ∃ v, w.cell? a = some v := fun h0 => by
    have hi : 0 < l.length := by omega
    have hl := hf l[0] (List.getElem_mem hi)
    refine ⟨(f l[0])[0], ?_⟩
    have := hc 0 hi 0 _ (List.getElem?_eq_getElem (by omega))
    simpa [Addr.add] using this
  refine ⟨⟨by rw [flat_length f size l hf, hlen], hm, _, _, rfl, fun h0 => ?_⟩, fun h0 => ?_⟩
  · obtain ⟨v0, hv0⟩ := first h0
    have hs : a.spot = none := World.cell?_spot hv0
    refine ⟨a.block, a.off, by obtain ⟨b, o, s⟩ := a; simp at hs; subst hs; rfl, fun j v hj => ?_⟩
    have hjl : j < l.length * size := by
      rcases Nat.lt_or_ge j (l.length * size) with h | h
      · exact h
      · rw [List.getElem?_eq_none (by rw [flat_length f size l hf]; exact h)] at hj; cases hj
    have hq : j / size < l.length := by rw [Nat.div_lt_iff_lt_mul hsz]; exact hjl
    have hr : j % size < size := Nat.mod_lt _ hsz
    have he : j = j / size * size + j % size := by rw [Nat.mul_comm]; exact (Nat.div_add_mod j size).symm
    rw [he, flat_cell f size l hf _ _ hq hr] at hj
    have h1 := hc _ hq _ _ hj
    rw [Go.Deep.add_add, ← he] at h1
    exact Addr.add_none h1 (fun _ => hs)
  · obtain ⟨v0, hv0⟩ := first h0
    exact World.block_lt_of_cell? _ a hv0

end
end Go.Proofs.Ytocameknhglklaa

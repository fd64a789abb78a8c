/- Scripts of chapter 7 (slices of docketlaw07.Op) that came in. -/
import Derived.Test.YtmefbbmjamdnjaaRows
import Derived.Test.YtmefbbmjamdnjaaKDisk
import Derived.SizedLaws
import Derived.Test.YtmefbbmjamdnjaaKCrc
import Derived.Lib.SmallJoins
import Derived.Deep.Strs
namespace Go.Proofs.Ytmefbbmjamdnjaa
open Go.ChangeShapes Go.WideShapes Go.ChangeAt Go.RowKit Go.Deep
set_option linter.unusedSimpArgs false
set_option linter.unusedVariables false
set_option maxRecDepth 100000
theorem cells_getB {w : World} {base : Nat} {a : Addr} {n : Nat} {cs : List Value} (h : w.cells? base a n = some cs) : cs.length = n ∧ ∀ r v, cs[r]? = some v → w.cell? (a.add r) = some v := by
  unfold World.cells? at h
  split at h
  · have key : ∀ (l : List Nat) (cs : List Value), l.mapM (fun i => w.cell? (a.add i)) = some cs → cs.length = l.length ∧ ∀ (r : Nat) v, cs[r]? = some v → ∃ i, l[r]? = some i ∧ w.cell? (a.add i) = some v := by
      intro l
      induction l with
      | nil => intro cs h; simp at h; subst h; simp
      | cons x r ih =>
        intro cs h
        rw [List.mapM_cons] at h
        cases hx : w.cell? (a.add x) with
        | none => simp [hx] at h
        | some v =>
          cases ht : r.mapM (fun i => w.cell? (a.add i)) with
          | none => simp [hx, ht] at h
          | some t =>
          simp [hx, ht] at h
          subst h
          obtain ⟨h1, h2⟩ := ih t ht
          refine ⟨by simp [h1], fun r' u hu => ?_⟩
          cases r' with
          | zero => simp at hu; subst hu; exact ⟨x, rfl, hx⟩
          | succ r' => simp at hu; obtain ⟨i, h3, h4⟩ := h2 r' u hu; exact ⟨i, by simpa using h3, h4⟩
    obtain ⟨h1, h2⟩ := key _ _ h
    refine ⟨by simpa using h1, fun r v hv => ?_⟩
    obtain ⟨i, h3, h4⟩ := h2 r v hv
    rw [List.getElem?_range] at h3
    · cases h3; exact h4
    · rcases Nat.lt_or_ge r n with h | h
      · exact h
      · rw [List.getElem?_eq_none (by simpa using h)] at h3; cases h3
  · cases h

/-- A slice of things of several cells. -/
theorem sees_of_manyB {w : World} {a : Addr} {len cap size : Nat} (hsz : 0 < size) {α : Type} (l : List α) (f : α → List Value) (hf : ∀ x ∈ l, (f x).length = size) (hlen : l.length = len) (hm : len ≤ maxLen)
    (hc : ∀ i (hi : i < l.length) r v, (f l[i])[r]? = some v → w.cell? ((a.add (i * size)).add r) = some v) :
    Sees w size (.slice (some a) len cap) len (l.flatMap f) ∧ (0 < len → a.block < w.heap.size) := by
  have first : 0 < len → ∃ v, w.cell? a = some v := fun h0 => by
    have hi : 0 < l.length := by omega
    have hl := hf l[0] (List.getElem_mem hi)
    refine ⟨(f l[0])[0], ?_⟩
    have := hc 0 hi 0 _ (List.getElem?_eq_getElem (by omega))
    simpa [Addr.add] using this
  refine ⟨⟨by rw [flat_length f size l hf, hlen], hm, _, _, rfl, fun h0 => ?_⟩, fun h0 => ?_⟩
  · obtain ⟨v0, hv0⟩ := first h0
    have hs : a.spot = none := World.cell?_spot hv0
    refine ⟨a.block, a.off, by obtain ⟨b, o, s⟩ := a; simp at hs; subst hs; rfl, fun j v hj => ?_⟩
    have hjl : j < l.length * size := by
      rcases Nat.lt_or_ge j (l.length * size) with h | h
      · exact h
      · rw [List.getElem?_eq_none (by rw [flat_length f size l hf]; exact h)] at hj; cases hj
    have hq : j / size < l.length := by rw [Nat.div_lt_iff_lt_mul hsz]; exact hjl
    have hr : j % size < size := Nat.mod_lt _ hsz
    have he : j = j / size * size + j % size := by rw [Nat.mul_comm]; exact (Nat.div_add_mod j size).symm
    rw [he, flat_cell f size l hf _ _ hq hr] at hj
    have h1 := hc _ hq _ _ hj
    rw [Go.Deep.add_add, ← he] at h1
    exact Addr.add_none h1 (fun _ => hs)
  · obtain ⟨v0, hv0⟩ := first h0
    exact World.block_lt_of_cell? _ a hv0

/-- An Op of chapter 7. -/
structure BOp where
  kind : Nat
  data : ByteArray
  i : Int
  fr : Int
  n : Int
instance : Inhabited BOp := ⟨⟨0, ByteArray.empty, 0, 0, 0⟩⟩
def bopV (o : BOp) : List Value := [.int .u8 o.kind, .string o.data, .int .i64 o.i, .int .i64 o.fr, .int .i64 o.n]
theorem bopV_length (o : BOp) : (bopV o).length = 5 := rfl
structure BOp.Ok (o : BOp) : Prop where
  kind : o.kind ≤ 255
  data : o.data.size ≤ maxLen
  ilo : -9223372036854775808 ≤ o.i
  ihi : o.i ≤ 9223372036854775807
  flo : -9223372036854775808 ≤ o.fr
  fhi : o.fr ≤ 9223372036854775807
  nlo : -9223372036854775808 ≤ o.n
  nhi : o.n ≤ 9223372036854775807
/-- A script. -/
def BopsAt (W : World) (x : Option Addr) (c : Nat) (l : List BOp) : Prop :=
  Sees W 5 (.slice x l.length c) l.length (l.flatMap bopV) ∧ (∀ o ∈ l, o.Ok) ∧ (∀ y, x = some y → 0 < l.length → y.block < W.heap.size)
theorem bop_at {w : World} {xa : Option Addr} {xc : Nat} {l : List BOp} (h : Sees w 5 (.slice xa l.length xc) l.length (l.flatMap bopV)) (k : Nat) (hk : k < l.length) :
    ∃ xb xo, xa = some ⟨xb, xo, none⟩ ∧ w.rangeAt xb (xo + k * 5) (bopV l[k]) := by
  obtain ⟨_, _, x, c, hx, hc⟩ := h
  cases hx
  obtain ⟨b, o, rfl, hr⟩ := hc (by omega)
  exact ⟨b, o, rfl, rangeAt.sub (w := w) (b := b) (off := o) hr (k * 5) (by rw [bopV_length]; exact flat_piece bopV 5 l k hk (fun x _ => rfl))⟩
section
variable {H : Type} {enc : TypeId × Value → H} {P : Program} {w : World} {base : Nat} {spare : Nat → Bool} {held : Bool}
theorem trod_struct5 {t : TypeId} {f0 f1 f2 f3 f4 : Field} {fuel : Nat} {cs : List Value} {x : DataW H × List MemPlace} (ht : P.underlying t = some (.struct #[f0, f1, f2, f3, f4])) (h : DataW.trod enc P w base spare held fuel t cs = some x) :
    ∃ y0 y1 y2 y3 y4 n, cs.length = P.cellsOf t ∧ DataW.trod enc P w base spare held n f0.type ((cs.drop f0.offset).take (P.cellsOf f0.type)) = some y0 ∧
      DataW.trod enc P w base spare held n f1.type ((cs.drop f1.offset).take (P.cellsOf f1.type)) = some y1 ∧ DataW.trod enc P w base spare held n f2.type ((cs.drop f2.offset).take (P.cellsOf f2.type)) = some y2 ∧
      DataW.trod enc P w base spare held n f3.type ((cs.drop f3.offset).take (P.cellsOf f3.type)) = some y3 ∧ DataW.trod enc P w base spare held n f4.type ((cs.drop f4.offset).take (P.cellsOf f4.type)) = some y4 := by
  obtain ⟨xs, n, _, rfl, hl, hlen, hf⟩ := DataW.trod_struct ht h
  match xs, hlen with
  | [y0, y1, y2, y3, y4], _ => exact ⟨y0, y1, y2, y3, y4, n, hl, by simpa using hf 0 f0 rfl, by simpa using hf 1 f1 rfl, by simpa using hf 2 f2 rfl, by simpa using hf 3 f3 rfl, by simpa using hf 4 f4 rfl⟩
end
theorem cU87 : Try.prog.cellsOf 5 = 1 := by kernel_rfl
theorem cInt7 : Try.prog.cellsOf 3 = 1 := by kernel_rfl
theorem cStr7 : Try.prog.cellsOf 9 = 1 := by kernel_rfl
theorem cBop : Try.prog.cellsOf 38 = 5 := by kernel_rfl
section
variable {H : Type} {enc : TypeId × Value → H} {W : World} {base : Nat}
theorem open_bop {n : Nat} {cs : List Value} {x : DataW H × List MemPlace} (h : DataW.trod enc Try.prog W 0 (fun _ => true) true n 38 cs = some x) :
    ∃ o : BOp, cs = bopV o ∧ o.Ok := by
  obtain ⟨y0, y1, y2, y3, y4, n', hl, h0, h1, h2, h3, h4⟩ := trod_struct5 Try.underlying38 h
  have hl' : cs.length = 5 := hl.trans (by kernel_rfl)
  match cs, hl' with
  | [c0, c1, c2, c3, c4], _ =>
    obtain ⟨k, e0, _, hk⟩ := DataW.trod_int Try.underlying5 h0
    obtain ⟨s, e1, _, hs⟩ := DataW.trod_string Try.underlying9 h1
    obtain ⟨i, e2, _, hi⟩ := DataW.trod_int Try.underlying3 h2
    obtain ⟨f, e3, _, hf⟩ := DataW.trod_int Try.underlying3 h3
    obtain ⟨m, e4, _, hm⟩ := DataW.trod_int Try.underlying3 h4
    have e0 : c0 = .int .u8 k := by simpa [cU87] using e0
    have e1 : c1 = .string s := by simpa [cStr7, cU87] using e1
    have e2 : c2 = .int .i64 i := by simpa [cInt7, cStr7, cU87] using e2
    have e3 : c3 = .int .i64 f := by simpa [cInt7, cStr7, cU87] using e3
    have e4 : c4 = .int .i64 m := by simpa [cInt7, cStr7, cU87] using e4
    have hkb := bounds_u8 hk
    have hib := bounds_i64 hi
    have hfb := bounds_i64 hf
    have hmb := bounds_i64 hm
    refine ⟨⟨k.toNat, s, i, f, m⟩, ?_, ⟨by simp; omega, hs, hib.1, hib.2, hfb.1, hfb.2, hmb.1, hmb.2⟩⟩
    simp only [bopV, e0, e1, e2, e3, e4]
    rw [show ((k.toNat : Nat) : Int) = k by omega]
theorem open_bops' {n : Nat} {cs : List Value} {d : DataW H × List MemPlace} (h : DataW.trod enc Try.prog W 0 (fun _ => true) true n 35 cs = some d) :
    ∃ (a : Option Addr) (c : Nat) (l : List BOp), cs = [.slice a l.length c] ∧ BopsAt W a c l := by
  rcases open_slice Try.underlying35 h with ⟨hcs, _⟩ | ⟨x, len, cap, m, n, D, Pl, hcs, _, hl, hm, hmm, _, hcell⟩
  · exact ⟨none, 0, [], hcs, Sees.zero _ _ _ _, (fun o ho => by cases ho), fun x hx => by cases hx⟩
  · have hm' : m = cap := by simpa using hmm
    have hb : ∀ i, i < len → ∃ o : BOp, o.Ok ∧ ∀ r u, (bopV o)[r]? = some u → W.cell? ((x.add (i * 5)).add r) = some u := fun i hi => by
      obtain ⟨cs, h1, h2⟩ := hcell i (by omega)
      obtain ⟨o, rfl, ho⟩ := open_bop h2
      rw [cBop] at h1
      exact ⟨o, ho, (cells_getB h1).2⟩
    obtain ⟨f, hf'⟩ := choose_lt hb
    have hlen : ((List.range len).map f).length = len := by simp
    obtain ⟨h1, h2⟩ := sees_of_manyB (w := W) (a := x) (len := len) (cap := cap) (size := 5) (by decide) ((List.range len).map f) bopV (fun o _ => bopV_length o) hlen (Nat.le_trans hl hm)
      (fun i hi r u hu => by
        have hi' : i < len := by simpa using hi
        simp only [List.getElem_map, List.getElem_range] at hu
        exact (hf' i hi').2 r u hu)
    refine ⟨some x, cap, (List.range len).map f, by rw [hlen]; exact hcs, by rw [hlen]; exact h1, fun o ho => ?_, fun y hy h0 => by cases hy; exact h2 (by omega)⟩
    simp only [List.mem_map, List.mem_range] at ho
    obtain ⟨i, hi, rfl⟩ := ho
    exact (hf' i hi).1
theorem open_bops {v : Value} {d : DataW H} {p : List MemPlace} (hv : Value.okWide Try.prog W .any base 35 v) (h : DataW.Trod enc Try.prog W 0 (fun _ => true) true 35 v d p) :
    ∃ (a : Option Addr) (c : Nat) (l : List BOp), v = .slice a l.length c ∧ BopsAt W a c l ∧ True := by
  obtain ⟨a0, len, cap, rfl⟩ := okWide_slice Try.underlying35 hv
  obtain ⟨fuel, hf⟩ := h
  obtain ⟨a, c, l, hcs, h1⟩ := open_bops' hf
  simp [Value.cells] at hcs
  obtain ⟨rfl, rfl, rfl⟩ := hcs
  exact ⟨_, _, l, rfl, h1, trivial⟩
end
end Go.Proofs.Ytmefbbmjamdnjaa

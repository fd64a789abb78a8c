/- Batches and Ops of chapter 3 that came in. -/
import Derived.Test.YtocameknhglklaaOpen2
import Derived.Test.YtocameknhglklaaWal4
import Derived.Deep.Strs
namespace Go.Proofs.Ytocameknhglklaa
open Go.ChangeShapes Go.WideShapes Go.ChangeAt Go.RowKit Go.Deep
set_option linter.unusedSimpArgs false
set_option maxRecDepth 100000

/-- An Op of chapter 3, as it lies. -/
structure WOp where
  kind : Nat
  ba : Option Addr
  bc : Nat
  batch : Batch
  n : Int
instance : Inhabited WOp := ⟨⟨0, none, 0, [], 0⟩⟩
def wopV (o : WOp) : List Value := [.int .u8 o.kind, .slice o.ba o.batch.length o.bc, .int .i64 o.n]
structure WOp.Ok (w : World) (o : WOp) : Prop where
  kind : o.kind ≤ 255
  lo : -9223372036854775808 ≤ o.n
  hi : o.n ≤ 9223372036854775807
  batch : Sees w 1 (.slice o.ba o.batch.length o.bc) o.batch.length (strsV o.batch)
  lt : ∀ x, o.ba = some x → 0 < o.batch.length → x.block < w.heap.size
  sizes : ∀ r ∈ o.batch, r.size ≤ maxLen
theorem cStrs : Try.prog.cellsOf 22 = 1 := by kernel_rfl
theorem cI64 : Try.prog.cellsOf 2 = 1 := by kernel_rfl
theorem cWop : Try.prog.cellsOf 55 = 3 := by kernel_rfl
theorem wopV_length (o : WOp) : (wopV o).length = 3 := rfl

section
variable {H : Type} {enc : TypeId × Value → H} {W : World} {base : Nat}
theorem open_strs' {n : Nat} {cs : List Value} {d : DataW H × List MemPlace} (h : DataW.trod enc Try.prog W 0 (fun _ => true) true n 22 cs = some d) :
    ∃ (a : Option Addr) (c : Nat) (bs : Batch), cs = [.slice a bs.length c] ∧ Sees W 1 (.slice a bs.length c) bs.length (strsV bs) ∧ (∀ x, a = some x → 0 < bs.length → x.block < W.heap.size) ∧ (∀ r ∈ bs, r.size ≤ maxLen) := by
  rcases open_slice1 Try.underlying22 (by kernel_rfl) h with ⟨hcs, _⟩ | ⟨x, l, c, m, n, V, D, Pl, hcs, _, hl, hm, hmm, _, hcell⟩
  · exact ⟨none, 0, [], hcs, Sees.zero _ _ _ _, (fun x hx => by cases hx), fun r hr => by cases hr⟩
  · have hm' : m = c := by simpa using hmm
    have hb : ∀ i, i < m → ∃ b, V i = .string b ∧ b.size ≤ maxLen := fun i hi => by
      obtain ⟨s, hs, _, hsz⟩ := DataW.trod_string Try.underlying9 (hcell i hi).2
      exact ⟨s, by simpa using hs, hsz⟩
    obtain ⟨f, hf'⟩ := choose_lt hb
    have hc : ∀ i, i < l → W.cell? (x.add i) = some (.string (f i)) := fun i hi => by rw [(hcell i (by omega)).1, (hf' i (by omega)).1]
    obtain ⟨h1, h2⟩ := sees_of_cells (cap := c) (Nat.le_trans hl hm) hc
    refine ⟨some x, c, (List.range l).map f, by simpa using hcs, ?_, (fun y hy h0 => by cases hy; exact h2 (by simpa using h0)), fun r hr => ?_⟩
    · have e : (List.range l).map (fun i => Value.string (f i)) = strsV ((List.range l).map f) := by simp [strsV]
      rw [e] at h1
      simpa using h1
    · simp only [List.mem_map, List.mem_range] at hr
      obtain ⟨i, hi, rfl⟩ := hr
      exact (hf' i (by omega)).2
theorem open_strs {v : Value} {d : DataW H} {p : List MemPlace} (hv : Value.okWide Try.prog W .any base 22 v) (h : DataW.Trod enc Try.prog W 0 (fun _ => true) true 22 v d p) :
    ∃ (a : Option Addr) (c : Nat) (bs : Batch), v = .slice a bs.length c ∧ Sees W 1 (.slice a bs.length c) bs.length (strsV bs) ∧ (∀ x, a = some x → 0 < bs.length → x.block < W.heap.size) ∧ (∀ r ∈ bs, r.size ≤ maxLen) := by
  obtain ⟨a0, len, cap, rfl⟩ := okWide_slice Try.underlying22 hv
  obtain ⟨fuel, hf⟩ := h
  obtain ⟨a, c, bs, hcs, h1, h2, h3⟩ := open_strs' hf
  simp [Value.cells] at hcs
  obtain ⟨rfl, rfl, rfl⟩ := hcs
  exact ⟨_, _, bs, rfl, h1, h2, h3⟩
theorem open_wop {n : Nat} {cs : List Value} {x : DataW H × List MemPlace} (h : DataW.trod enc Try.prog W 0 (fun _ => true) true n 55 cs = some x) : ∃ o : WOp, cs = wopV o ∧ o.Ok W := by
  obtain ⟨y0, y1, y2, n', rfl, hl, h0, h1, h2⟩ := trod_struct3 Try.underlying55 h
  have hl' : cs.length = 3 := hl.trans (by kernel_rfl)
  match cs, hl' with
  | [c0, c1, c2], _ =>
    obtain ⟨k, e0, _, hk⟩ := DataW.trod_int Try.underlying5 h0
    obtain ⟨i, e2, _, hi⟩ := DataW.trod_int Try.underlying2 h2
    obtain ⟨a, c, bs, e1, hse, hlt, hsz⟩ := open_strs' h1
    have e0 : c0 = .int .u8 k := by simpa [cU8] using e0
    have e2 : c2 = .int .i64 i := by simpa [cStrs, cI64, cU8] using e2
    have e1 : c1 = .slice a bs.length c := by simpa [cU8, cStrs] using e1
    have hkb := bounds_u8 hk
    have hib := bounds_i64 hi
    refine ⟨⟨k.toNat, a, c, bs, i⟩, ?_, ⟨by simp; omega, hib.1, hib.2, hse, hlt, hsz⟩⟩
    simp only [wopV, e0, e1, e2]
    rw [show ((k.toNat : Nat) : Int) = k by omega]
theorem open_wop1 {v : Value} {d : DataW H} {p : List MemPlace} (hv : Value.okWide Try.prog W .any base 55 v) (h : DataW.Trod enc Try.prog W 0 (fun _ => true) true 55 v d p) :
    ∃ o : WOp, v = .agg (wopV o).toArray ∧ o.Ok W := by
  obtain ⟨cs, rfl, _⟩ := okWide_struct Try.underlying55 hv
  obtain ⟨fuel, hf⟩ := h
  obtain ⟨o, ho, hok⟩ := open_wop hf
  exact ⟨o, by rw [← ho]; simp [Value.cells], hok⟩
end
end Go.Proofs.Ytocameknhglklaa

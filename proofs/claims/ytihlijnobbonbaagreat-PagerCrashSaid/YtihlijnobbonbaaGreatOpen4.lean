/- Scripts of chapter 4 (slices of docketlaw04.Op) that came in. -/
import Derived.Test.YtihlijnobbonbaaGreatRows
import Derived.Test.YtihlijnobbonbaaGreatKDisk
import Derived.SizedLaws
import Derived.Test.YtihlijnobbonbaaGreatKCrc
import Derived.Lib.SmallJoins
import Derived.Deep.Strs
import Derived.Test.YtihlijnobbonbaaGreatKOpen3
import Derived.Test.YtihlijnobbonbaaGreatPb2
namespace Go.Proofs.YtihlijnobbonbaaGreat
open Go.ChangeShapes Go.WideShapes Go.ChangeAt Go.RowKit Go.Deep
set_option linter.unusedSimpArgs false
set_option linter.unusedVariables false
set_option maxRecDepth 100000
theorem cU84 : Tryz.prog.cellsOf 5 = 1 := by kernel_rfl
theorem cInt4 : Tryz.prog.cellsOf 3 = 1 := by kernel_rfl
theorem cStr4 : Tryz.prog.cellsOf 9 = 1 := by kernel_rfl
theorem cPop : Tryz.prog.cellsOf 36 = 3 := by kernel_rfl
section
variable {H : Type} {enc : TypeId × Value → H} {W : World} {base : Nat}
theorem open_pop {n : Nat} {cs : List Value} {x : DataW H × List MemPlace} (h : DataW.trod enc Tryz.prog W 0 (fun _ => true) true n 36 cs = some x) :
    ∃ o : POp, cs = popV o ∧ o.Ok := by
  obtain ⟨y0, y1, y2, n', rfl, hl, h0, h1, h2⟩ := trod_struct3 Tryz.underlying36 h
  have hl' : cs.length = 3 := hl.trans (by kernel_rfl)
  match cs, hl' with
  | [c0, c1, c2], _ =>
    obtain ⟨k, e0, _, hk⟩ := DataW.trod_int Tryz.underlying5 h0
    obtain ⟨i, e1, _, hi⟩ := DataW.trod_int Tryz.underlying3 h1
    obtain ⟨s, e2, _, hs⟩ := DataW.trod_string Tryz.underlying9 h2
    have e0 : c0 = .int .u8 k := by simpa [cU84] using e0
    have e1 : c1 = .int .i64 i := by simpa [cInt4, cU84] using e1
    have e2 : c2 = .string s := by simpa [cStr4, cInt4, cU84] using e2
    have hkb := bounds_u8 hk
    have hib := bounds_i64 hi
    refine ⟨⟨k.toNat, i, s⟩, ?_, ⟨by simp; omega, hib.1, hib.2, hs⟩⟩
    simp only [popV, e0, e1, e2]
    rw [show ((k.toNat : Nat) : Int) = k by omega]
theorem open_pops' {n : Nat} {cs : List Value} {d : DataW H × List MemPlace} (h : DataW.trod enc Tryz.prog W 0 (fun _ => true) true n 22 cs = some d) :
    ∃ (a : Option Addr) (c : Nat) (l : List POp), cs = [.slice a l.length c] ∧ PopsAt W a c l := by
  rcases open_slice Tryz.underlying22 h with ⟨hcs, _⟩ | ⟨x, len, cap, m, n, D, Pl, hcs, _, hl, hm, hmm, _, hcell⟩
  · exact ⟨none, 0, [], hcs, Sees.zero _ _ _ _, (fun o ho => by cases ho), fun x hx => by cases hx⟩
  · have hm' : m = cap := by simpa using hmm
    have hb : ∀ i, i < len → ∃ o : POp, o.Ok ∧ ∀ r u, (popV o)[r]? = some u → W.cell? ((x.add (i * 3)).add r) = some u := fun i hi => by
      obtain ⟨cs, h1, h2⟩ := hcell i (by omega)
      obtain ⟨o, rfl, ho⟩ := open_pop h2
      rw [cPop] at h1
      exact ⟨o, ho, (cells?_get h1).2⟩
    obtain ⟨f, hf'⟩ := choose_lt hb
    have hlen : ((List.range len).map f).length = len := by simp
    obtain ⟨h1, h2⟩ := sees_of_many (w := W) (a := x) (len := len) (cap := cap) (size := 3) (by decide) ((List.range len).map f) popV (fun o _ => popV_length o) hlen (Nat.le_trans hl hm)
      (fun i hi r u hu => by
        have hi' : i < len := by simpa using hi
        simp only [List.getElem_map, List.getElem_range] at hu
        exact (hf' i hi').2 r u hu)
    refine ⟨some x, cap, (List.range len).map f, by rw [hlen]; exact hcs, by rw [hlen]; exact h1, fun o ho => ?_, fun y hy h0 => by cases hy; exact h2 (by omega)⟩
    simp only [List.mem_map, List.mem_range] at ho
    obtain ⟨i, hi, rfl⟩ := ho
    exact (hf' i hi).1
theorem open_pops {v : Value} {d : DataW H} {p : List MemPlace} (hv : Value.okWide Tryz.prog W .any base 22 v) (h : DataW.Trod enc Tryz.prog W 0 (fun _ => true) true 22 v d p) :
    ∃ (a : Option Addr) (c : Nat) (l : List POp), v = .slice a l.length c ∧ PopsAt W a c l ∧ True := by
  obtain ⟨a0, len, cap, rfl⟩ := okWide_slice Tryz.underlying22 hv
  obtain ⟨fuel, hf⟩ := h
  obtain ⟨a, c, l, hcs, h1⟩ := open_pops' hf
  simp [Value.cells] at hcs
  obtain ⟨rfl, rfl, rfl⟩ := hcs
  exact ⟨_, _, l, rfl, h1, trivial⟩
end
end Go.Proofs.YtihlijnobbonbaaGreat

/- Scripts of chapter 5 (slices of docketlaw05.Op) that came in. -/
import Derived.Test.YtndhcimepgcfaaaRows
import Derived.Test.YtndhcimepgcfaaaKDisk
import Derived.SizedLaws
import Derived.Test.YtndhcimepgcfaaaKCrc
import Derived.Lib.SmallJoins
import Derived.Deep.Strs
import Derived.Test.YtndhcimepgcfaaaKOpen3
import Derived.Test.YtndhcimepgcfaaaSpp1
namespace Go.Proofs.Ytndhcimepgcfaaa
open Go.ChangeShapes Go.WideShapes Go.ChangeAt Go.RowKit Go.Deep
set_option linter.unusedSimpArgs false
set_option linter.unusedVariables false
set_option maxRecDepth 100000
theorem cInt5 : Try.prog.cellsOf 3 = 1 := by kernel_rfl
theorem cSop : Try.prog.cellsOf 44 = 2 := by kernel_rfl
section
variable {H : Type} {enc : TypeId × Value → H} {W : World} {base : Nat}
theorem open_sop {n : Nat} {cs : List Value} {x : DataW H × List MemPlace} (h : DataW.trod enc Try.prog W 0 (fun _ => true) true n 44 cs = some x) :
    ∃ o : SOp, cs = sopV o ∧ o.Ok := by
  obtain ⟨y0, y1, n', rfl, hl, h0, h1⟩ := trod_struct2 Try.underlying44 h
  have hl' : cs.length = 2 := hl.trans (by kernel_rfl)
  match cs, hl' with
  | [c0, c1], _ =>
    obtain ⟨k, e0, _, hk⟩ := DataW.trod_int Try.underlying5 h0
    obtain ⟨i, e1, _, hi⟩ := DataW.trod_int Try.underlying3 h1
    have e0 : c0 = .int .u8 k := by simpa [cU8] using e0
    have e1 : c1 = .int .i64 i := by simpa [cInt5, cU8] using e1
    have hkb := bounds_u8 hk
    have hib := bounds_i64 hi
    refine ⟨⟨k.toNat, i⟩, ?_, ⟨by simp; omega, hib.1, hib.2⟩⟩
    simp only [sopV, e0, e1]
    rw [show ((k.toNat : Nat) : Int) = k by omega]
theorem open_sops {v : Value} {d : DataW H} {p : List MemPlace} (hv : Value.okWide Try.prog W .any base 40 v) (h : DataW.Trod enc Try.prog W 0 (fun _ => true) true 40 v d p) :
    ∃ (a : Option Addr) (c : Nat) (l : List SOp), v = .slice a l.length c ∧ SopsAt W a c l ∧ True := by
  obtain ⟨a0, len, cap, rfl⟩ := okWide_slice Try.underlying40 hv
  obtain ⟨fuel, hf⟩ := h
  rcases open_slice Try.underlying40 hf with ⟨hcs, _⟩ | ⟨x, l, c, m, n, D, Pl, hcs, _, hl, hm, hmm, _, hcell⟩
  · simp [Value.cells] at hcs
    obtain ⟨rfl, rfl, rfl⟩ := hcs
    exact ⟨none, 0, [], rfl, ⟨Sees.zero _ _ _ _, (fun o ho => by cases ho), fun x hx => by cases hx⟩, trivial⟩
  · simp [Value.cells] at hcs
    obtain ⟨rfl, rfl, rfl⟩ := hcs
    have hm' : m = cap := by simpa using hmm
    have hb : ∀ i, i < len → ∃ o : SOp, o.Ok ∧ ∀ r u, (sopV o)[r]? = some u → W.cell? ((x.add (i * 2)).add r) = some u := fun i hi => by
      obtain ⟨cs, h1, h2⟩ := hcell i (by omega)
      obtain ⟨o, rfl, ho⟩ := open_sop h2
      rw [cSop] at h1
      exact ⟨o, ho, (cells?_get h1).2⟩
    obtain ⟨f, hf'⟩ := choose_lt hb
    have hlen : ((List.range len).map f).length = len := by simp
    obtain ⟨h1, h2⟩ := sees_of_many (w := W) (a := x) (len := len) (cap := cap) (size := 2) (by decide) ((List.range len).map f) sopV (fun o _ => sopV_length o) hlen (Nat.le_trans hl hm)
      (fun i hi r u hu => by
        have hi' : i < len := by simpa using hi
        simp only [List.getElem_map, List.getElem_range] at hu
        exact (hf' i hi').2 r u hu)
    refine ⟨some x, cap, (List.range len).map f, by rw [hlen], ⟨by rw [hlen]; exact h1, fun o ho => ?_, fun y hy h0 => by cases hy; exact h2 (by omega)⟩, trivial⟩
    simp only [List.mem_map, List.mem_range] at ho
    obtain ⟨i, hi, rfl⟩ := ho
    exact (hf' i hi).1
end
end Go.Proofs.Ytndhcimepgcfaaa

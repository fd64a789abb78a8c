/- Lives of chapter 4 that came in. -/
import Derived.Test.YtihlijnobbonbaaGreatOpen4
import Derived.Test.YtihlijnobbonbaaGreatPc2
namespace Go.Proofs.YtihlijnobbonbaaGreat
open Go.ChangeShapes Go.WideShapes Go.ChangeAt Go.RowKit Go.Deep
set_option linter.unusedSimpArgs false
set_option linter.unusedVariables false
set_option maxRecDepth 100000
theorem cBools4 : Tryz.prog.cellsOf 66 = 1 := by kernel_rfl
theorem cBytes4 : Tryz.prog.cellsOf 38 = 1 := by kernel_rfl
theorem cPops4 : Tryz.prog.cellsOf 22 = 1 := by kernel_rfl
theorem cLifP : Tryz.prog.cellsOf 77 = 4 := by kernel_rfl
section
variable {H : Type} {enc : TypeId × Value → H} {W : World} {base : Nat}
theorem open_bytes4 {n : Nat} {cs : List Value} {d : DataW H × List MemPlace} (h : DataW.trod enc Tryz.prog W 0 (fun _ => true) true n 38 cs = some d) :
    ∃ (a : Option Addr) (c : Nat) (bs : List UInt8), cs = [.slice a bs.length c] ∧ Sees W 1 (.slice a bs.length c) bs.length (bvs bs) := by
  rcases open_ints Tryz.underlying38 Tryz.underlying5 (by kernel_rfl) h with ⟨hcs, hx⟩ | ⟨x, len, cap, zs, hcs, _, hl, hm, hz, hx, hcell, hwz⟩
  · exact ⟨none, 0, [], hcs, Sees.zero _ _ _ _⟩
  · have hz' : zs.length = cap := by simpa using hz
    have hlen : ((zs.take len).map (fun n => UInt8.ofNat n.toNat)).length = len := by simp; omega
    have hc : ∀ i, i < len → W.cell? (x.add i) = some (.int .u8 (zs.getD i 0)) := fun i hi => hcell i (by omega)
    obtain ⟨h1, h2⟩ := sees_of_cells (cap := cap) (Nat.le_trans hl hm) hc
    have e : (List.range len).map (fun i => Value.int .u8 (zs.getD i 0)) = bvs ((zs.take len).map (fun n => UInt8.ofNat n.toNat)) := by
      apply List.ext_getElem?
      intro i
      by_cases hi : i < len
      · have hiz : i < zs.length := by omega
        have hw := hwz zs[i] (List.getElem_mem hiz)
        have hb := bounds_u8 hw
        simp [bvs, hi, hiz, bv, List.getElem?_take]
        omega
      · rw [List.getElem?_eq_none (by simpa using hi), List.getElem?_eq_none (by rw [bvs_length, hlen]; omega)]
    rw [e] at h1
    exact ⟨some x, cap, _, by rw [hlen]; exact hcs, by rw [hlen]; exact h1⟩
theorem open_lifP {n : Nat} {cs : List Value} {x : DataW H × List MemPlace} (h : DataW.trod enc Tryz.prog W 0 (fun _ => true) true n 77 cs = some x) : ∃ o : LifP, cs = lifP o ∧ o.Ok W := by
  obtain ⟨y0, y1, y2, y3, n', rfl, hl, h0, h1, h2, h3⟩ := Go.Joins.trod_struct4 Tryz.underlying77 h
  have hl' : cs.length = 4 := hl.trans (by kernel_rfl)
  match cs, hl' with
  | [c0, c1, c2, c3], _ =>
    obtain ⟨sa, sc, sl, e0, hsc⟩ := open_pops' h0
    obtain ⟨k, e1, _, hk⟩ := DataW.trod_int Tryz.underlying5 h1
    obtain ⟨ka, kc, ks, e2, hse, hlt⟩ := open_bools' h2
    obtain ⟨aa, ac, ags, e3, hae⟩ := open_bytes4 h3
    have e0 : c0 = .slice sa sl.length sc := by simpa [cPops4] using e0
    have e1 : c1 = .int .u8 k := by simpa [cU84, cPops4] using e1
    have e2 : c2 = .slice ka ks.length kc := by simpa [cU84, cPops4, cBools4] using e2
    have e3 : c3 = .slice aa ags.length ac := by simpa [cU84, cPops4, cBools4, cBytes4] using e3
    have hkb := bounds_u8 hk
    refine ⟨⟨sa, sc, sl, k.toNat, ka, kc, ks, aa, ac, ags⟩, ?_, ⟨hsc, by simp; omega, hse, hlt, hae⟩⟩
    simp only [lifP, e0, e1, e2, e3]
    rw [show ((k.toNat : Nat) : Int) = k by omega]
theorem open_lives4 {v : Value} {d : DataW H} {p : List MemPlace} (hv : Value.okWide Tryz.prog W .any base 73 v) (h : DataW.Trod enc Tryz.prog W 0 (fun _ => true) true 73 v d p) :
    ∃ (a : Option Addr) (c : Nat) (l : List LifP), v = .slice a l.length c ∧ LifesAt W a c l ∧ True := by
  obtain ⟨a0, len, cap, rfl⟩ := okWide_slice Tryz.underlying73 hv
  obtain ⟨fuel, hf⟩ := h
  rcases open_slice Tryz.underlying73 hf with ⟨hcs, _⟩ | ⟨x, l, c, m, n, D, Pl, hcs, _, hl, hm, hmm, _, hcell⟩
  · simp [Value.cells] at hcs
    obtain ⟨rfl, rfl, rfl⟩ := hcs
    exact ⟨none, 0, [], rfl, ⟨Sees.zero _ _ _ _, (fun o ho => by cases ho), fun x hx => by cases hx⟩, trivial⟩
  · simp [Value.cells] at hcs
    obtain ⟨rfl, rfl, rfl⟩ := hcs
    have hm' : m = cap := by simpa using hmm
    have hb : ∀ i, i < len → ∃ o : LifP, o.Ok W ∧ ∀ r u, (lifP o)[r]? = some u → W.cell? ((x.add (i * 4)).add r) = some u := fun i hi => by
      obtain ⟨cs, h1, h2⟩ := hcell i (by omega)
      obtain ⟨o, rfl, ho⟩ := open_lifP h2
      rw [cLifP] at h1
      exact ⟨o, ho, (cells?_get h1).2⟩
    obtain ⟨f, hf'⟩ := choose_lt hb
    have hlen : ((List.range len).map f).length = len := by simp
    obtain ⟨h1, h2⟩ := sees_of_many (w := W) (a := x) (len := len) (cap := cap) (size := 4) (by decide) ((List.range len).map f) lifP (fun o _ => lifP_length o) hlen (Nat.le_trans hl hm)
      (fun i hi r u hu => by
        have hi' : i < len := by simpa using hi
        simp only [List.getElem_map, List.getElem_range] at hu
        exact (hf' i hi').2 r u hu)
    refine ⟨some x, cap, (List.range len).map f, by rw [hlen], ⟨by rw [hlen]; exact h1, fun o ho => ?_, fun y hy h0 => by cases hy; exact h2 (by omega)⟩, trivial⟩
    simp only [List.mem_map, List.mem_range] at ho
    obtain ⟨i, hi, rfl⟩ := ho
    exact (hf' i hi).1
end
end Go.Proofs.YtihlijnobbonbaaGreat

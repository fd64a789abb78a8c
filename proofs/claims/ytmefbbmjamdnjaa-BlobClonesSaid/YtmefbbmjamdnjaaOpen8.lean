/- A slice of uint16 that came in; how long it can be. -/
import Derived.Test.YtmefbbmjamdnjaaRows
import Derived.Test.YtmefbbmjamdnjaaKDisk
import Derived.SizedLaws
import Derived.Test.YtmefbbmjamdnjaaKCrc
import Derived.Lib.SmallJoins
namespace Go.Proofs.Ytmefbbmjamdnjaa
open Go.ChangeShapes Go.WideShapes Go.ChangeAt Go.RowKit Go.Deep
set_option linter.unusedSimpArgs false
set_option linter.unusedVariables false
set_option maxRecDepth 100000
theorem reach_slice8 {H : Type} {enc : TypeId × Value → H} {P : Program} {W : World} {ts : List TypeId} {ds : List (DataW H)} {t e : TypeId} {a : Option Addr} {n c : Nat} {d : DataW H} {p : List MemPlace} (hu : P.underlying t = some (.slice e))
    (h : DataW.Trod enc P W 0 (fun _ => true) true t (.slice a n c) d p) (hsz : (DataW.weightsEach P ts ds).all (· ≤ reachBytes) = true) (j : Nat) (ht : ts[j]? = some t) (hd : ds[j]? = some d) : n * P.bytesOf e ≤ reachBytes := by
  obtain ⟨fuel, hf⟩ := h
  rcases open_slice hu hf with ⟨hcs, _⟩ | ⟨x, len, cap, m, k, D, Pl, hcs, _, hl, hm, hmm, hx, _⟩
  · simp [Value.cells] at hcs
    obtain ⟨rfl, rfl, rfl⟩ := hcs
    simp
  · simp [Value.cells] at hcs
    obtain ⟨rfl, rfl, rfl⟩ := hcs
    simp only [Prod.mk.injEq] at hx
    obtain ⟨rfl, _⟩ := hx
    have h1 := sized_slice hsz ht hd hu
    simp only [List.length_map, List.length_range] at h1
    refine Nat.le_trans (Nat.mul_le_mul_right _ ?_) h1
    omega
theorem bytes16 : Try.prog.bytesOf 22 = 2 := by kernel_rfl
section
variable {H : Type} {enc : TypeId × Value → H} {W : World} {base : Nat}
theorem open_u16s {v : Value} {d : DataW H} {p : List MemPlace} (hv : Value.okWide Try.prog W .any base 23 v) (h : DataW.Trod enc Try.prog W 0 (fun _ => true) true 23 v d p) :
    ∃ (a : Option Addr) (c : Nat) (us : List Nat), v = .slice a us.length c ∧ Sees W 1 (.slice a us.length c) us.length (us.map fun (u : Nat) => Value.int .u16 (u : Nat)) ∧ ∀ u ∈ us, u ≤ 65535 := by
  obtain ⟨a0, len, cap, rfl⟩ := okWide_slice Try.underlying23 hv
  obtain ⟨fuel, hf⟩ := h
  rcases open_ints Try.underlying23 Try.underlying22 (by kernel_rfl) hf with ⟨hcs, hx⟩ | ⟨x, l, c, zs, hcs, _, hl, hm, hz, hx, hcell, hwz⟩
  · simp [Value.cells] at hcs
    obtain ⟨rfl, rfl, rfl⟩ := hcs
    exact ⟨none, 0, [], rfl, Sees.zero _ _ _ _, fun u hu => by cases hu⟩
  · simp [Value.cells] at hcs
    obtain ⟨rfl, rfl, rfl⟩ := hcs
    have hz' : zs.length = cap := by simpa using hz
    have hlen : ((zs.take len).map (fun n => n.toNat)).length = len := by simp; omega
    have hc : ∀ i, i < len → W.cell? (x.add i) = some (.int .u16 (zs.getD i 0)) := fun i hi => hcell i (by omega)
    obtain ⟨h1, h2⟩ := sees_of_cells (cap := cap) (Nat.le_trans hl hm) hc
    have e : (List.range len).map (fun i => Value.int .u16 (zs.getD i 0)) = ((zs.take len).map (fun n => n.toNat)).map fun (u : Nat) => Value.int .u16 (u : Nat) := by
      apply List.ext_getElem?
      intro i
      by_cases hi : i < len
      · have hiz : i < zs.length := by omega
        have hw := hwz zs[i] (List.getElem_mem hiz)
        have hb := bounds_u16 hw
        simp [hi, hiz, List.getElem?_take]
        omega
      · rw [List.getElem?_eq_none (by simpa using hi), List.getElem?_eq_none (by rw [List.length_map, hlen]; omega)]
    rw [e] at h1
    refine ⟨some x, cap, _, by rw [hlen], by rw [hlen]; exact h1, fun u hu => ?_⟩
    obtain ⟨n, hn, rfl⟩ := List.mem_map.1 hu
    have hb := bounds_u16 (hwz n (List.mem_of_mem_take hn))
    omega
end
end Go.Proofs.Ytmefbbmjamdnjaa

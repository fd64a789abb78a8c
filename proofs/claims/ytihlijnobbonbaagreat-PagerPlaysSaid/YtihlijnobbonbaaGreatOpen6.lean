/- How long a slice that came in can be, by the form's own reach. -/
import Derived.Test.YtihlijnobbonbaaGreatRows
import Derived.Test.YtihlijnobbonbaaGreatKDisk
import Derived.SizedLaws
import Derived.Test.YtihlijnobbonbaaGreatKOpen3
namespace Go.Proofs.YtihlijnobbonbaaGreat
open Go.ChangeShapes Go.WideShapes Go.ChangeAt Go.RowKit Go.Deep
set_option linter.unusedSimpArgs false
set_option linter.unusedVariables false
set_option maxRecDepth 100000
theorem reach_slice {H : Type} {enc : TypeId × Value → H} {P : Program} {W : World} {ts : List TypeId} {ds : List (DataW H)} {t e : TypeId} {a : Option Addr} {n c : Nat} {d : DataW H} {p : List MemPlace} (hu : P.underlying t = some (.slice e))
    (h : DataW.Trod enc P W 0 (fun _ => true) true t (.slice a n c) d p) (hsz : (DataW.weightsEach P ts ds).all (· ≤ reachBytes) = true) (j : Nat) (ht : ts[j]? = some t) (hd : ds[j]? = some d) : n * P.bytesOf e ≤ reachBytes := by
  obtain ⟨fuel, hf⟩ := h
  rcases open_slice hu hf with ⟨hcs, _⟩ | ⟨x, len, cap, m, k, D, Pl, hcs, _, hl, hm, hmm, hx, _⟩
  · simp [Value.cells] at hcs
    obtain ⟨rfl, rfl, rfl⟩ := hcs
    simp
  · simp [Value.cells] at hcs
    obtain ⟨rfl, rfl, rfl⟩ := hcs
    simp only [Prod.mk.injEq] at hx
    obtain ⟨rfl, _⟩ := hx
    have h1 := sized_slice hsz ht hd hu
    simp only [List.length_map, List.length_range] at h1
    refine Nat.le_trans (Nat.mul_le_mul_right _ ?_) h1
    omega
end Go.Proofs.YtihlijnobbonbaaGreat

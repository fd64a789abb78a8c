/- How long a slice that came in can be, by the bulk of an '..UptoSaid'. -/
import Derived.Test.YtocameknhglklaaOpenB
namespace Go.Proofs.Ytocameknhglklaa
open Go.ChangeShapes Go.WideShapes Go.ChangeAt Go.RowKit Go.Deep
section
variable {H : Type} {enc : TypeId × Value → H} {W : World}
theorem upto_len {t e : TypeId} {a : Option Addr} {len cap : Nat} {d : DataW H} {p : List MemPlace} {ds : List (DataW H)} (ht : Try.prog.underlying t = some (.slice e)) (h : DataW.Trod enc Try.prog W 0 (fun _ => true) true t (.slice a len cap) d p)
    (hk : Rows.uptoSmall H ds = true) (hd : d ∈ ds) : len ≤ 1048576 := by
  obtain ⟨fuel, hf⟩ := h
  have h1 := bulk_mem _ _ hd
  simp only [Rows.uptoSmall, decide_eq_true_eq] at hk
  rcases open_slice ht hf with ⟨hcs, _⟩ | ⟨x, l, c, m, n, D, Pl, hcs, _, hl, hm, hmm, hx, hcell⟩
  · simp [Value.cells] at hcs
    obtain ⟨rfl, rfl, rfl⟩ := hcs
    omega
  · simp [Value.cells] at hcs
    obtain ⟨rfl, rfl, rfl⟩ := hcs
    simp only [Prod.mk.injEq] at hx
    obtain ⟨rfl, _⟩ := hx
    have h2 := bulk_len ((List.range len).map D)
    simp only [List.length_map, List.length_range] at h2
    simp only [Rows.uptoBulk] at h1
    omega
end
end Go.Proofs.Ytocameknhglklaa

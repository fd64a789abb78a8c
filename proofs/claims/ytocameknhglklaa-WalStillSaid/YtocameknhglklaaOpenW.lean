/- A list of batches that came in. -/
import Derived.Test.YtocameknhglklaaWalG
import Derived.Test.YtocameknhglklaaOpen3
namespace Go.Proofs.Ytocameknhglklaa
open Go.ChangeShapes Go.WideShapes Go.ChangeAt Go.RowKit Go.Deep
set_option linter.unusedSimpArgs false
set_option linter.unusedVariables false
set_option maxRecDepth 100000
/-- Batches as they came in: each row of blocks that were there. -/
def BatchesAt (W : World) (x : Option Addr) (c : Nat) (bss : List Batch) : Prop :=
  ∃ vs, Sees W 1 (.slice x bss.length c) bss.length vs ∧ RowsAt W vs bss (fun k => k < W.heap.size) ∧ (∀ y, x = some y → 0 < bss.length → y.block < W.heap.size) ∧ (∀ b ∈ bss, ∀ r ∈ b, r.size ≤ maxLen)
section
variable {H : Type} {enc : TypeId × Value → H} {W : World} {base : Nat}
theorem open_batches' {n : Nat} {cs : List Value} {d : DataW H × List MemPlace} (h : DataW.trod enc Try.prog W 0 (fun _ => true) true n 39 cs = some d) :
    ∃ (a : Option Addr) (c : Nat) (bss : List Batch), cs = [.slice a bss.length c] ∧ BatchesAt W a c bss := by
  rcases open_slice1 Try.underlying39 (by kernel_rfl) h with ⟨hcs, _⟩ | ⟨x, l, c, m, n, V, D, Pl, hcs, _, hl, hm, hmm, _, hcell⟩
  · exact ⟨none, 0, [], hcs, [], Sees.zero _ _ _ _, RowsAt.nil _ _, (fun x hx => by cases hx), fun r hr => by cases hr⟩
  · have hm' : m = c := by simpa using hmm
    have hb : ∀ i, i < m → ∃ b : Batch, ∃ (ax : Option Addr) (cx : Nat), V i = .slice ax b.length cx ∧ Sees W 1 (.slice ax b.length cx) b.length (strsV b) ∧ (∀ x, ax = some x → 0 < b.length → x.block < W.heap.size) ∧ (∀ r ∈ b, r.size ≤ maxLen) := fun i hi => by
      obtain ⟨ax, cx, b, e, h1, h2, h3⟩ := open_strs' (hcell i hi).2
      exact ⟨b, ax, cx, by simpa using e, h1, h2, h3⟩
    obtain ⟨f, hf'⟩ := choose_lt hb
    have hc : ∀ i, i < l → W.cell? (x.add i) = some (V i) := fun i hi => (hcell i (by omega)).1
    obtain ⟨h1, h2⟩ := sees_of_cells (cap := c) (Nat.le_trans hl hm) hc
    refine ⟨some x, c, (List.range l).map f, by simpa using hcs, (List.range l).map V, by simpa using h1, ⟨by simp, fun i h3 h4 => ?_⟩, (fun y hy h0 => by cases hy; exact h2 (by simpa using h0)), fun b hb r hr => ?_⟩
    · simp only [List.length_map, List.length_range] at h3
      obtain ⟨ax, cx, e, s1, s2, _⟩ := hf' i (by omega)
      simp only [List.getElem_map, List.getElem_range]
      rw [e]
      refine ⟨s1, fun k hk h0 => ?_⟩
      cases ax with
      | none => simp [Value.ownBlock] at hk
      | some y =>
        have := s2 y rfl h0
        have : k = y.block := by cases y; simp [Value.ownBlock] at hk; simp_all
        omega
    · obtain ⟨i, hi, rfl⟩ := List.mem_map.1 hb
      obtain ⟨_, _, _, _, _, s3⟩ := hf' i (by have := List.mem_range.1 hi; omega)
      exact s3 r hr
theorem open_batches {v : Value} {d : DataW H} {p : List MemPlace} (hv : Value.okWide Try.prog W .any base 39 v) (h : DataW.Trod enc Try.prog W 0 (fun _ => true) true 39 v d p) :
    ∃ (a : Option Addr) (c : Nat) (bss : List Batch), v = .slice a bss.length c ∧ BatchesAt W a c bss ∧ True := by
  obtain ⟨a0, len, cap, rfl⟩ := okWide_slice Try.underlying39 hv
  obtain ⟨fuel, hf⟩ := h
  obtain ⟨a, c, bs, hcs, h1⟩ := open_batches' hf
  simp [Value.cells] at hcs
  obtain ⟨rfl, rfl, rfl⟩ := hcs
  exact ⟨_, _, bs, rfl, h1, trivial⟩
end
end Go.Proofs.Ytocameknhglklaa

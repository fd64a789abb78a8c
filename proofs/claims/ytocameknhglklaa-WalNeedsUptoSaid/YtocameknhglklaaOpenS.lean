/- A batch that came in, with what it weighs. -/
import Derived.Test.YtocameknhglklaaOpenU
import Derived.Test.YtocameknhglklaaOpen3
namespace Go.Proofs.Ytocameknhglklaa
open Go.ChangeShapes Go.WideShapes Go.ChangeAt Go.RowKit Go.Deep
set_option linter.unusedSimpArgs false
set_option linter.unusedVariables false
set_option maxRecDepth 100000
section
variable {H : Type} {enc : TypeId × Value → H} {W : World} {base : Nat}
theorem bulkAll_append (a b : List (DataW H)) : Rows.uptoBulkAll (a ++ b) = Rows.uptoBulkAll a + Rows.uptoBulkAll b := by
  induction a with
  | nil => simp [Rows.uptoBulkAll]
  | cons x r ih => simp [Rows.uptoBulkAll, ih]; omega
theorem strs_bulk (f : Nat → ByteArray) (D : Nat → DataW H) : ∀ l, (∀ i, i < l → D i = .lit (.string (f i).data.toList)) → bytesOf ((List.range l).map f) ≤ 16 + 4 * Rows.uptoBulkAll ((List.range l).map D)
  | 0, _ => by simp [bytesOf]
  | l + 1, h => by
    have ih := strs_bulk f D l (fun i hi => h i (by omega))
    rw [List.range_succ, List.map_append, List.map_append, bulkAll_append]
    simp only [List.map_cons, List.map_nil, bytesOf_snoc, Rows.uptoBulkAll, h l (by omega), Rows.uptoBulk]
    have : (f l).data.toList.length = (f l).size := Array.length_toList
    omega
theorem open_strsB' {n : Nat} {cs : List Value} {d : DataW H × List MemPlace} (h : DataW.trod enc Try.prog W 0 (fun _ => true) true n 22 cs = some d) :
    ∃ (a : Option Addr) (c : Nat) (bs : Batch), cs = [.slice a bs.length c] ∧ Sees W 1 (.slice a bs.length c) bs.length (strsV bs) ∧ (∀ x, a = some x → 0 < bs.length → x.block < W.heap.size) ∧ (∀ r ∈ bs, r.size ≤ maxLen) ∧ bytesOf bs ≤ 16 + 4 * Rows.uptoBulk d.1 ∧ bs.length ≤ Rows.uptoBulk d.1 := by
  rcases open_slice1 Try.underlying22 (by kernel_rfl) h with ⟨hcs, _⟩ | ⟨x, l, c, m, n, V, D, Pl, hcs, _, hl, hm, hmm, hd, hcell⟩
  · exact ⟨none, 0, [], hcs, Sees.zero _ _ _ _, (fun x hx => by cases hx), (fun r hr => by cases hr), by simp [bytesOf], by simp⟩
  · have hm' : m = c := by simpa using hmm
    have hb : ∀ i, i < m → ∃ b, (V i = .string b ∧ b.size ≤ maxLen) ∧ D i = .lit (.string b.data.toList) := fun i hi => by
      obtain ⟨s, hs, hd', hsz⟩ := DataW.trod_string Try.underlying9 (hcell i hi).2
      exact ⟨s, ⟨by simpa using hs, hsz⟩, by simpa using congrArg Prod.fst hd'⟩
    obtain ⟨f, hf'⟩ := choose_lt hb
    have hc : ∀ i, i < l → W.cell? (x.add i) = some (.string (f i)) := fun i hi => by rw [(hcell i (by omega)).1, (hf' i (by omega)).1.1]
    obtain ⟨h1, h2⟩ := sees_of_cells (cap := c) (Nat.le_trans hl hm) hc
    have hB := strs_bulk f D l (fun i hi => (hf' i (by omega)).2)
    have hU : Rows.uptoBulkAll ((List.range l).map D) ≤ Rows.uptoBulk d.1 := by
      rw [hd]; simp only [Rows.uptoBulk]; omega
    have hL := bulk_len ((List.range l).map D)
    refine ⟨some x, c, (List.range l).map f, by simpa using hcs, ?_, (fun y hy h0 => by cases hy; exact h2 (by simpa using h0)), (fun r hr => ?_), by omega, by simp at hL ⊢; omega⟩
    · have e : (List.range l).map (fun i => Value.string (f i)) = strsV ((List.range l).map f) := by simp [strsV]
      rw [e] at h1
      simpa using h1
    · obtain ⟨i, hi, rfl⟩ := List.mem_map.1 hr
      exact (hf' i (by have := List.mem_range.1 hi; omega)).1.2
theorem open_strsB {v : Value} {d : DataW H} {p : List MemPlace} {ds : List (DataW H)} (hv : Value.okWide Try.prog W .any base 22 v) (h : DataW.Trod enc Try.prog W 0 (fun _ => true) true 22 v d p)
    (hk : Rows.uptoSmall H ds = true) (hd : d ∈ ds) :
    ∃ (a : Option Addr) (c : Nat) (bs : Batch), v = .slice a bs.length c ∧ Sees W 1 (.slice a bs.length c) bs.length (strsV bs) ∧ (∀ x, a = some x → 0 < bs.length → x.block < W.heap.size) ∧ (∀ r ∈ bs, r.size ≤ maxLen) ∧ bytesOf bs ≤ 16 + 4 * 1048576 ∧ bs.length ≤ 1048576 := by
  obtain ⟨a0, len, cap, rfl⟩ := okWide_slice Try.underlying22 hv
  obtain ⟨fuel, hf⟩ := h
  obtain ⟨a, c, bs, hcs, h1, h2, h3, h4, h5⟩ := open_strsB' hf
  simp [Value.cells] at hcs
  obtain ⟨rfl, rfl, rfl⟩ := hcs
  have h6 := bulk_mem _ _ hd
  simp only [Rows.uptoSmall, decide_eq_true_eq] at hk
  exact ⟨_, _, bs, rfl, h1, h2, h3, by simp only at h4; omega, by simp only at h5; omega⟩
end
end Go.Proofs.Ytocameknhglklaa

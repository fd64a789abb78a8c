/- What came in, as lists of bytes and of truths. -/
import Derived.Test.YtocameknhglklaaMem
import Derived.OpenShut
import Derived.ShutString
import Derived.ChangeOld
import Derived.Deep.Slices
namespace Go.Proofs.Ytocameknhglklaa
open Go.ChangeShapes Go.WideShapes Go.ChangeAt Go.RowKit Go.Deep
set_option linter.unusedSimpArgs false
set_option maxRecDepth 100000

def boolsV (l : List Bool) : List Value := l.map Value.bool

theorem Addr.add_none {x : Addr} {j : Nat} {v : Value} {w : World} (h : w.cell? (x.add j) = some v) (h0 : j = 0 → x.spot = none) : w.cell? ⟨x.block, x.off + j, none⟩ = some v := by
  obtain ⟨b, off, spot⟩ := x
  by_cases hj : j = 0
  · subst hj
    have : spot = none := h0 rfl
    subst this
    simpa [Addr.add] using h
  · simpa [Addr.add, hj] using h

/-- A slice of cells of one kind: what it shows. -/
theorem sees_of_cells {w : World} {a : Addr} {len cap : Nat} {V : Nat → Value} (hm : len ≤ maxLen) (hc : ∀ i, i < len → w.cell? (a.add i) = some (V i)) :
    Sees w 1 (.slice (some a) len cap) len ((List.range len).map V) ∧ (0 < len → a.block < w.heap.size) := by
  refine ⟨⟨by simp, hm, _, _, rfl, fun h0 => ?_⟩, fun h0 => ?_⟩
  · have hs : a.spot = none := by have := hc 0 h0; exact World.cell?_spot (by simpa [Addr.add] using this)
    refine ⟨a.block, a.off, ?_, fun j v hj => ?_⟩
    · obtain ⟨b, o, s⟩ := a; simp at hs; subst hs; rfl
    · have hjl : j < len := by
        rcases Nat.lt_or_ge j len with h | h
        · exact h
        · rw [List.getElem?_eq_none (by simpa using h)] at hj; cases hj
      have := hc j hjl
      simp [hjl] at hj
      subst hj
      exact Addr.add_none this (fun _ => hs)
  · have := hc 0 h0
    exact World.block_lt_of_cell? _ a (by simpa [Addr.add] using this)

section
variable {H : Type} {enc : TypeId × Value → H} {W : World} {base : Nat}

theorem open_bytes {v : Value} {d : DataW H} {p : List MemPlace} (hv : Value.okWide Try.prog W .any base 98 v) (h : DataW.Trod enc Try.prog W 0 (fun _ => true) true 98 v d p) :
    ∃ (a : Option Addr) (c : Nat) (bs : List UInt8), v = .slice a bs.length c ∧ Sees W 1 (.slice a bs.length c) bs.length (bvs bs) ∧ (∀ x, a = some x → 0 < bs.length → x.block < W.heap.size) ∧
      (d = .nil ∨ ∃ zs, zs.length = bs.length ∧ ∃ sp, d = .slice (lits .u8 zs) sp) := by
  obtain ⟨a0, len, cap, rfl⟩ := okWide_slice Try.underlying98 hv
  obtain ⟨fuel, hf⟩ := h
  rcases open_ints Try.underlying98 Try.underlying5 (by kernel_rfl) hf with ⟨hcs, hx⟩ | ⟨x, l, c, zs, hcs, _, hl, hm, hz, hx, hcell, hwz⟩
  · simp [Value.cells] at hcs
    obtain ⟨rfl, rfl, rfl⟩ := hcs
    simp only [Prod.mk.injEq] at hx
    exact ⟨none, 0, [], rfl, Sees.zero _ _ _ _, (fun x hx => by cases hx), .inl hx.1⟩
  · simp [Value.cells] at hcs
    obtain ⟨rfl, rfl, rfl⟩ := hcs
    have hz' : zs.length = cap := by simpa using hz
    simp only [Prod.mk.injEq] at hx
    have hlen : ((zs.take len).map (fun n => UInt8.ofNat n.toNat)).length = len := by simp; omega
    have hc : ∀ i, i < len → W.cell? (x.add i) = some (.int .u8 (zs.getD i 0)) := fun i hi => hcell i (by omega)
    obtain ⟨h1, h2⟩ := sees_of_cells (cap := cap) (Nat.le_trans hl hm) hc
    have e : (List.range len).map (fun i => Value.int .u8 (zs.getD i 0)) = bvs ((zs.take len).map (fun n => UInt8.ofNat n.toNat)) := by
      apply List.ext_getElem?
      intro i
      by_cases hi : i < len
      · have hiz : i < zs.length := by omega
        have hw := hwz zs[i] (List.getElem_mem hiz)
        have hb := bounds_u8 hw
        simp [bvs, hi, hiz, bv, List.getElem?_take]
        omega
      · rw [List.getElem?_eq_none (by simpa using hi), List.getElem?_eq_none (by rw [bvs_length, hlen]; omega)]
    rw [e] at h1
    exact ⟨some x, cap, _, by rw [hlen], by rw [hlen]; exact h1, (fun y hy h0 => by cases hy; exact h2 (by omega)), .inr ⟨zs.take len, by rw [hlen]; simp; omega, _, hx.1⟩⟩

theorem open_bools {v : Value} {d : DataW H} {p : List MemPlace} (hv : Value.okWide Try.prog W .any base 43 v) (h : DataW.Trod enc Try.prog W 0 (fun _ => true) true 43 v d p) :
    ∃ (a : Option Addr) (c : Nat) (bs : List Bool), v = .slice a bs.length c ∧ Sees W 1 (.slice a bs.length c) bs.length (boolsV bs) ∧ (∀ x, a = some x → 0 < bs.length → x.block < W.heap.size) := by
  obtain ⟨a0, len, cap, rfl⟩ := okWide_slice Try.underlying43 hv
  obtain ⟨fuel, hf⟩ := h
  rcases open_slice1 Try.underlying43 (by kernel_rfl) hf with ⟨hcs, _⟩ | ⟨x, l, c, m, n, V, D, Pl, hcs, _, hl, hm, hmm, _, hcell⟩
  · simp [Value.cells] at hcs
    obtain ⟨rfl, rfl, rfl⟩ := hcs
    exact ⟨none, 0, [], rfl, Sees.zero _ _ _ _, fun x hx => by cases hx⟩
  · simp [Value.cells] at hcs
    obtain ⟨rfl, rfl, rfl⟩ := hcs
    have hm' : m = cap := by simpa using hmm
    have hb : ∀ i, i < m → ∃ b, V i = .bool b := fun i hi => by
      obtain ⟨b, hb, _⟩ := DataW.trod_bool Try.underlying4 (hcell i hi).2
      exact ⟨b, by simpa using hb⟩
    obtain ⟨f, hf'⟩ := choose_lt hb
    have hc : ∀ i, i < len → W.cell? (x.add i) = some (.bool (f i)) := fun i hi => by rw [(hcell i (by omega)).1, hf' i (by omega)]
    obtain ⟨h1, h2⟩ := sees_of_cells (cap := cap) (Nat.le_trans hl hm) hc
    refine ⟨some x, cap, (List.range len).map f, by simp, ?_, fun y hy h0 => by cases hy; exact h2 (by simpa using h0)⟩
    have e : (List.range len).map (fun i => Value.bool (f i)) = boolsV ((List.range len).map f) := by simp [boolsV]
    rw [e] at h1
    simpa using h1
end
end Go.Proofs.Ytocameknhglklaa

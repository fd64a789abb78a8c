/- Bytes that came in, with what they weigh. -/
import Derived.Test.YtocameknhglklaaRows
import Derived.Test.YtocameknhglklaaOpen
import Derived.SizedLaws
namespace Go.Proofs.Ytocameknhglklaa
open Go.ChangeShapes Go.WideShapes Go.ChangeAt Go.RowKit Go.Deep
set_option linter.unusedSimpArgs false
set_option maxRecDepth 100000

section
variable {H : Type} {enc : TypeId × Value → H} {W : World} {base : Nat}

theorem open_bytes2 {v : Value} {d : DataW H} {p : List MemPlace} (hv : Value.okWide Try.prog W .any base 98 v) (h : DataW.Trod enc Try.prog W 0 (fun _ => true) true 98 v d p) :
    ∃ (a : Option Addr) (c : Nat) (bs : List UInt8), v = .slice a bs.length c ∧ (Sees W 1 (.slice a bs.length c) bs.length (bvs bs) ∧ bs.length ≤ c) ∧ (∀ x, a = some x → 0 < bs.length → x.block < W.heap.size) ∧
      ((d = .nil ∧ bs = []) ∨ ∃ zs sp, zs.length = bs.length ∧ d = .slice (lits .u8 zs) sp) := by
  obtain ⟨a0, len, cap, rfl⟩ := okWide_slice Try.underlying98 hv
  obtain ⟨fuel, hf⟩ := h
  rcases open_ints Try.underlying98 Try.underlying5 (by kernel_rfl) hf with ⟨hcs, hx⟩ | ⟨x, l, c, zs, hcs, _, hl, hm, hz, hx, hcell, hwz⟩
  · simp [Value.cells] at hcs
    obtain ⟨rfl, rfl, rfl⟩ := hcs
    simp only [Prod.mk.injEq] at hx
    exact ⟨none, 0, [], rfl, ⟨Sees.zero _ _ _ _, Nat.le_refl _⟩, (fun x hx => by cases hx), .inl ⟨hx.1, rfl⟩⟩
  · simp [Value.cells] at hcs
    obtain ⟨rfl, rfl, rfl⟩ := hcs
    have hz' : zs.length = cap := by simpa using hz
    simp only [Prod.mk.injEq] at hx
    have hlen : ((zs.take len).map (fun n => UInt8.ofNat n.toNat)).length = len := by simp; omega
    have hc : ∀ i, i < len → W.cell? (x.add i) = some (.int .u8 (zs.getD i 0)) := fun i hi => hcell i (by omega)
    obtain ⟨h1, h2⟩ := sees_of_cells (cap := cap) (Nat.le_trans hl hm) hc
    have e : (List.range len).map (fun i => Value.int .u8 (zs.getD i 0)) = bvs ((zs.take len).map (fun n => UInt8.ofNat n.toNat)) := by
      apply List.ext_getElem?
      intro i
      by_cases hi : i < len
      · have hiz : i < zs.length := by omega
        have hw := hwz zs[i] (List.getElem_mem hiz)
        have hb := bounds_u8 hw
        simp [bvs, hi, hiz, bv, List.getElem?_take]
        omega
      · rw [List.getElem?_eq_none (by simpa using hi), List.getElem?_eq_none (by rw [bvs_length, hlen]; omega)]
    rw [e] at h1
    exact ⟨some x, cap, _, by rw [hlen], by rw [hlen]; exact ⟨h1, hl⟩, (fun y hy h0 => by cases hy; exact h2 (by omega)), .inr ⟨zs.take len, _, by rw [hlen]; simp; omega, hx.1⟩⟩

theorem bytes8 : Try.prog.bytesOf 5 = 1 := by kernel_rfl
/-- By the form's own reach. -/
theorem bytes_reach {ts : List TypeId} {ds : List (DataW H)} (hsz : (DataW.weightsEach Try.prog ts ds).all (· ≤ reachBytes) = true) (j : Nat) {d : DataW H} {bs : List UInt8} (ht : ts[j]? = some 98) (hd : ds[j]? = some d)
    (h : (d = .nil ∧ bs = []) ∨ ∃ zs sp, zs.length = bs.length ∧ d = .slice (lits .u8 zs) sp) : bs.length ≤ 140737488351232 := by
  rcases h with ⟨_, rfl⟩ | ⟨zs, sp, hz, rfl⟩
  · simp
  · have := sized_slice hsz ht hd Try.underlying98
    rw [bytes8] at this
    simp only [lits, List.length_map, reachBytes] at this
    omega

/-- By the bulk. -/
theorem bulk_len : ∀ (ds : List (DataW H)), ds.length ≤ Rows.uptoBulkAll ds
  | [] => Nat.zero_le _
  | d :: r => by
    have h1 := bulk_len r
    have h2 : 1 ≤ Rows.uptoBulk d := by cases d <;> (try (rename_i l; cases l)) <;> simp [Rows.uptoBulk]
    simp only [Rows.uptoBulkAll, List.length_cons]
    omega
theorem bulk_mem : ∀ (ds : List (DataW H)) (d : DataW H), d ∈ ds → Rows.uptoBulk d ≤ Rows.uptoBulkAll ds
  | e :: r, d, h => by
    simp only [Rows.uptoBulkAll]
    rcases List.mem_cons.1 h with rfl | h
    · omega
    · have := bulk_mem r d h; omega
theorem bytes_bulk {ds : List (DataW H)} (hk : Rows.uptoSmall H ds = true) {d : DataW H} (hd : d ∈ ds) {bs : List UInt8}
    (h : (d = .nil ∧ bs = []) ∨ ∃ zs sp, zs.length = bs.length ∧ d = .slice (lits .u8 zs) sp) : bs.length ≤ 1048576 := by
  rcases h with ⟨_, rfl⟩ | ⟨zs, sp, hz, rfl⟩
  · simp
  · have h1 := bulk_mem _ _ hd
    have h2 := bulk_len (lits (H := H) .u8 zs)
    simp only [Rows.uptoSmall, decide_eq_true_eq] at hk
    simp only [lits, List.length_map] at h2
    simp only [Rows.uptoBulk, lits] at h1
    omega
end
end Go.Proofs.Ytocameknhglklaa

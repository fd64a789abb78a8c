/- Contracts of docketref02, first part: Full, last. -/
import Derived.Test.YtlcbgcbocikkkaaDisk6
import Derived.Test.YtlcbgcbocikkkaaStr
import Derived.Lib.BufferWrite
import Derived.Deep.WholeRow
namespace Go.Proofs.Ytlcbgcbocikkkaa
open Go.RowKit
set_option linter.unusedSimpArgs false
set_option linter.unusedVariables false
set_option maxRecDepth 100000

theorem infoU8r : (Try.prog.info? 5).map (fun i => (i.zero, i.size, i.bytes)) = some (some (.int .u8 0), 1, 1) := by kernel_rfl
theorem made_512 (u : World) : (Instr.makeSlice 22 (.int .i64 512) (.int .i64 512)).run Try.prog u = .ok (.slice (some ⟨u.heap.size, 0, none⟩) 512 512) (u.alloc (.cells (bvs zeros512).toArray 5)) := by
  obtain ⟨i, hi, hz0, hz1, hz2⟩ := info_parts infoU8r
  have h := run_make (P := Try.prog) u 22 5 i _ Try.underlying22 hi hz0 .i64 .i64 512 512 (by omega) (Int.le_refl _) (by rw [hz2]; omega) (by omega)
  rw [hz1] at h
  refine h.trans ?_
  have e1 : ((512 : Int)).toNat = 512 := by omega
  have e2 : madeCells (Value.int .u8 0).cells (512 * 1) = (bvs zeros512).toArray := by
    rw [Nat.mul_one]
    have := toList_madeCells_one (.int .u8 0) 512
    apply Array.toList_inj.1
    rw [show (Value.int .u8 0).cells = #[.int .u8 0] from rfl, this]
    simp only [bvs, zeros512, List.map_replicate]
    rfl
  rw [e1, e2]

theorem full_ok (s : ByteArray) (w : World) (hs : s.size ≤ 512) :
    Calls Try.prog 44 #[.string s] w fun e w' => e = .returned (.string (strV (pad s.data.toList))) ∧ Upd (fun _ => False) w w' := by
  have hmk := made_512 w
  have hl : s.data.toList.length = s.size := by rw [Array.length_toList]; rfl
  have hrow : (List.take 0 (bvs zeros512).toArray.toList ++ Lib.byteCells s.data.toList ++ List.drop (0 + s.size) (bvs zeros512).toArray.toList) = bvs (pad s.data.toList) := by
    have e1 : Lib.byteCells s.data.toList = bvs s.data.toList := rfl
    rw [e1, List.take_zero, List.nil_append, Nat.zero_add, pad, bvs_append, hl]
    congr 1
    show List.drop s.size (bvs zeros512) = bvs (List.replicate (512 - s.size) 0)
    rw [zeros512, bvs, bvs, List.map_replicate, List.map_replicate, List.drop_replicate]
  have hcp : ∀ ty, (Builtin.copy_ #[22, 9] ty #[.slice (some ⟨w.heap.size, 0, none⟩) 512 512, .string s]).run Try.prog (w.alloc (.cells (bvs zeros512).toArray 5)) =
      .ok (goInt s.size) (w.alloc (.cells (bvs (pad s.data.toList)).toArray 5)) := fun ty => by
    have h := Lib.run_copy_row_string (P := Try.prog) (w.alloc (.cells (bvs zeros512).toArray 5)) 22 9 ty 5 w.heap.size 0 512 512 s (bvs zeros512).toArray 5 Try.underlying22 (by kernel_rfl) (heap_alloc_new w _) hs (by simp [bvs_length, zeros512_length]; exact hs)
    rw [hrow, World.setRow_alloc_new] at h
    exact h
  have hcv : (convert 22 9 (.slice (some ⟨w.heap.size, 0, none⟩) 512 512)).run Try.prog (w.alloc (.cells (bvs (pad s.data.toList)).toArray 5)) = .ok (.string (strV (pad s.data.toList))) (w.alloc (.cells (bvs (pad s.data.toList)).toArray 5)) := by
    refine run_bytes_string 22 5 9 Try.underlying22 Try.underlying5 Try.underlying9 _ _ ?_
    have h := Sees.at (w := w.alloc (.cells (bvs (pad s.data.toList)).toArray 5)) (size := 1) (n := 512) (c := 512) (xs := bvs (pad s.data.toList)) (b := w.heap.size) (off := 0) (by rw [bvs_length, pad_length (by omega)]) (by decide) (rangeAt_of_row (heap_alloc_new w _) (by simp))
    have e : (pad s.data.toList).length = 512 := pad_length (by omega)
    rw [e]
    exact h
  have HU : Hid (Upd (fun _ => False) w (w.alloc (.cells (bvs (pad s.data.toList)).toArray 5))) := (Upd.refl _ w).alloc _
  clear hrow hl
  go_enter Try.func44, Try.ntmps44
  go_wp2_with fail
  go_ret
  exact ⟨rfl, HU.out⟩

/-! A list of puts. -/
def putV (p : Nat × Bytes) : List Value := [.int .i64 (p.1 : Nat), .string (strV p.2)]
theorem putV_length (p : Nat × Bytes) : (putV p).length = 2 := rfl
def putsV (l : List (Nat × Bytes)) : List Value := l.flatMap putV
theorem lastOf_snoc (l : List (Nat × Bytes)) (p : Nat × Bytes) (i : Nat) (was : Bytes) : lastOf (l ++ [p]) i was = if p.1 = i then p.2 else lastOf l i was := by simp [lastOf]

set_option maxHeartbeats 1000000 in
theorem last_ok (xa : Option Addr) (xc : Nat) (l : List (Nat × Bytes)) (i : Nat) (was : Bytes) (w : World) (hl : Sees w 2 (.slice xa l.length xc) l.length (putsV l)) :
    Calls Try.prog 55 #[.slice xa l.length xc, .int .i64 i, .string (strV was)] w fun e w' => e = .returned (.string (strV (lastOf l i was))) ∧ w = w' := by
  have hll : (l.length : Int) ≤ 9223372036854775807 := by have := hl.2.1; unfold maxLen at this; omega
  have Hl := Lib.hid hl
  clear hl
  obtain ⟨s0, hs0⟩ : ∃ s0, strV was = s0 := ⟨_, rfl⟩
  rw [hs0]
  have Hs0 := Lib.hid hs0
  clear hs0
  go_enter Try.func55, Try.ntmps55
  go_wp2_with fail
  go_loop [2, 7] (fun s v => ∃ k : Nat, k ≤ l.length ∧ v = .int .i64 k ∧ s = .string (strV (lastOf (l.take k) i was))) (fun _ v => l.length - (intOf v).toNat)
  case atStart => exact ⟨0, by omega, rfl, by rw [← Hs0.out]; rfl⟩
  case round =>
    obtain ⟨k, hk, rfl, rfl⟩ := hrel
    by_cases hlt : k < l.length
    · have hlt2 : (k : Int) < (l.length : Int) := by omega
      obtain ⟨p, hp⟩ : ∃ p, l[k] = p := ⟨_, rfl⟩
      have hst : lastOf (l.take (k + 1)) i was = if p.1 = i then p.2 else lastOf (l.take k) i was := by rw [List.take_succ_eq_append_getElem hlt, lastOf_snoc, hp]
      obtain ⟨_, _, x', c', e', hc⟩ := Hl.out
      cases e'
      obtain ⟨g, off, rfl, hr⟩ := hc (by omega)
      have hcell : ∀ r v, r < 2 → (putV p)[r]? = some v → w.cell? ⟨g, off + k * 2 + r, none⟩ = some v := fun r v hr2 hv => by
        have := flat_cell putV 2 l (fun x _ => putV_length x) k r hlt hr2
        rw [hp, hv] at this
        rw [Nat.add_assoc]
        exact hr _ _ this
      have c0 : w.cell? ⟨g, off + k * 2, none⟩ = some (.int .i64 (p.1 : Nat)) := hcell 0 _ (by decide) rfl
      have c1 : w.cell? ⟨g, off + k * 2 + 1, none⟩ = some (.string (strV p.2)) := hcell 1 _ (by decide) rfl
      obtain ⟨s1, hs1⟩ : ∃ s1, strV (lastOf (l.take k) i was) = s1 := ⟨_, rfl⟩
      obtain ⟨s2, hs2⟩ : ∃ s2, strV p.2 = s2 := ⟨_, rfl⟩
      rw [hs1]
      rw [hs2] at c1
      have Hst := Lib.hid (And.intro hst (And.intro hs1 hs2))
      clear hst hs1 hs2 hcell hr hc hp
      by_cases he : p.1 = i
      · have he1 : (((p.1 : Nat) : Int) == (i : Int)) = true := by rw [he]; simp
        have hnew : strV (lastOf (l.take (k + 1)) i was) = s2 := by rw [Hst.out.1, if_pos he, Hst.out.2.2]
        have Hnew := Lib.hid hnew
        clear he hnew
        go_wp2_with fail
        exact ⟨⟨k + 1, by omega, by go_num, by rw [Hnew.out]⟩, by simp [intOf]; omega⟩
      · have he1 : (((p.1 : Nat) : Int) == (i : Int)) = false := by rw [beq_eq_false_iff_ne]; omega
        have hnew : strV (lastOf (l.take (k + 1)) i was) = s1 := by rw [Hst.out.1, if_neg he, Hst.out.2.1]
        have Hnew := Lib.hid hnew
        clear he hnew
        go_wp2_with fail
        exact ⟨⟨k + 1, by omega, by go_num, by rw [Hnew.out]⟩, by simp [intOf]; omega⟩
    · obtain rfl : k = l.length := by omega
      rw [List.take_length]
      go_wp2_with fail
      go_ret
      exact ⟨rfl, rfl⟩
end Go.Proofs.Ytlcbgcbocikkkaa

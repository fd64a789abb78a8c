/- docketlaw01.fixed. -/
import Derived.Test.YtlcbgcbocikkkaaTabSum
import Derived.Lib.SlBytesConst
import Derived.Deep.CutBlock
import Derived.Deep.DeepCutAuto
namespace Go.Proofs.Ytlcbgcbocikkkaa
open Go.RowKit
set_option linter.unusedSimpArgs false
set_option maxRecDepth 100000

theorem sees_lit (w : World) (l : List UInt8) (t : TypeId) (fr : Nat × Nat) (h : l.length ≤ maxLen) : Sees (w.alloc (.cells (bvs l).toArray t fr)) 1 (.slice (some ⟨w.heap.size, 0, none⟩) l.length l.length) l.length (bvs l) :=
  Sees.at (by simp [bvs_length]) h (rangeAt_of_row (heap_alloc_new w _) (by simp))
theorem zeroTab : Try.zeroCells81 = (tabV 0 0 (List.replicate 256 0#32) 0).toArray := by kernel_rfl
theorem tab_new (w : World) : TabAt (w.alloc (.cells Try.zeroCells81 81)) w.heap.size 0 0 (List.replicate 256 0#32) 0 := ⟨by simp, by rw [heap_alloc_new, zeroTab]⟩
theorem sum123 : updB 0 [49, 50, 51, 52, 53, 54, 55, 56, 57] = 3808858755#32 := by decide +kernel
theorem sum0 : updB 0 [0] = 1383945041#32 := by decide +kernel
theorem sum49 : updB (updB 0 [49, 50, 51, 52]) [53, 54, 55, 56, 57] = 3808858755#32 := by decide +kernel

set_option maxHeartbeats 4000000 in
theorem crc_fixed (w : World) : Calls Try.prog 24 #[] w fun e w' => e = .returned (.bool true) ∧ Upd (fun _ => False) w w' := by
  have kc := fun (w : World) (C : Array Value) (n c : Nat) => Lib.run_convert_bytes_const (P := Try.prog) w 22 5 C n c Try.underlying22 Try.underlying5
  have hT := tab_new w
  have hU : Upd (fun _ => False) w (w.alloc (.cells Try.zeroCells81 81)) := (Upd.refl _ w).alloc _
  obtain ⟨b, hb⟩ : ∃ b, w.heap.size = b := ⟨_, rfl⟩
  go_enter Try.func24, Try.ntmps24
  go_upto_region 2 with fail
  rw [hb] at hT
  generalize w.alloc (.cells Try.zeroCells81 81) = w1 at *
  have HT := Lib.hid (And.intro hT hU)
  clear hT hU
  go_wp2_with fail
  have h := sum_ok _ _ _ (sees_lit w1 [49, 50, 51, 52, 53, 54, 55, 56, 57] 5 (9, 10) (by decide))
  rw [sum123] at h
  refine h.mono ?_
  clear h
  rintro e w2 ⟨rfl, rfl⟩
  dsimp only
  have HT := Lib.hid (And.intro (HT.out.1.upd ((Upd.refl (fun _ => False) w1).alloc (.cells (bvs [49, 50, 51, 52, 53, 54, 55, 56, 57]).toArray 5 (9, 10))) (fun h => h)) (HT.out.2.alloc (.cells (bvs [49, 50, 51, 52, 53, 54, 55, 56, 57]).toArray 5 (9, 10))))
  generalize w1.alloc (.cells (bvs [49, 50, 51, 52, 53, 54, 55, 56, 57]).toArray 5 (9, 10)) = w2 at *
  have hbl : b < w2.heap.size := lt_of_block HT.out.1.2
  have hne : w2.heap.size ≠ b := by omega
  have HT3 := Lib.hid (And.intro (HT.out.1.upd ((Upd.refl (fun _ => False) w2).alloc (.cells (bvs [0]).toArray 5)) (fun h => h)) (HT.out.2.alloc (.cells (bvs [0]).toArray 5)))
  go_wp2_with fail
  have h := table_sum b 0 _ [0] _ (.inl ⟨_, HT3.out.1⟩) (by decide) (by decide) (sees_lit w2 [0] 5 (0, 0) (by decide)) (fun k hk _ => by simp [Value.ownBlock] at hk; omega)
  rw [sum0] at h
  refine h.mono ?_
  clear h
  rintro e w3 ⟨rfl, hU3, hT3⟩
  dsimp only
  have HU := Lib.hid (HT3.out.2.then hU3 (fun i hi => .inr (by rw [hi, ← hb]; exact Nat.le_refl _)))
  clear hU3 hT3
  go_wp2_with fail
  refine (sum_ok _ _ _ (sees_lit w3 [49, 50, 51, 52] 5 (4, 5) (by decide))).mono ?_
  rintro e w4 ⟨rfl, rfl⟩
  dsimp only
  have HU := Lib.hid (HU.out.alloc (.cells (bvs [49, 50, 51, 52]).toArray 5 (4, 5)))
  generalize w3.alloc (.cells (bvs [49, 50, 51, 52]).toArray 5 (4, 5)) = w4 at *
  obtain ⟨s, hs⟩ : ∃ s, updB 0 [49, 50, 51, 52] = s := ⟨_, rfl⟩
  rw [hs]
  go_wp2_with fail
  have h := update_ok s _ _ _ (sees_lit w4 [53, 54, 55, 56, 57] 5 (5, 6) (by decide))
  rw [← hs, sum49] at h
  rw [← hs]
  refine h.mono ?_
  clear h
  rintro e w5 ⟨rfl, rfl⟩
  dsimp only
  have HU := Lib.hid (HU.out.alloc (.cells (bvs [53, 54, 55, 56, 57]).toArray 5 (5, 6)))
  generalize w4.alloc (.cells (bvs [53, 54, 55, 56, 57]).toArray 5 (5, 6)) = w5 at *
  go_wp2_with fail
  go_ret
  exact ⟨rfl, HU.out⟩
end Go.Proofs.Ytlcbgcbocikkkaa

/- Package pager: Tx.Read of a block that was written; Begin, check. -/
import Derived.Test.YtihlijnobbonbaaGreatPg1
namespace Go.Proofs.YtihlijnobbonbaaGreat
open Go Go.RowKit
set_option linter.unusedSimpArgs false
set_option linter.unusedVariables false
set_option maxRecDepth 100000
set_option maxHeartbeats 2000000 in
theorem txread_dirty {w : World} {tb pb mb db lb fb skip ring N : Nat} {ot : Option Addr} {D : DSt} {es : List (Int × Bytes)} {G : Nat → Prop} (h : TxS w tb pb mb db lb fb skip ring N ot D es G) (b : Int) (hb : 0 ≤ b) (hb2 : b < (N : Int)) (x : Bytes) (hx : lookV (imgs es) b = some (.agg (bvs x).toArray)) (hxl : x.length = 512) :
    Calls Tryz.prog 23 #[.pointer (some ⟨tb, 0, none⟩), .int .i64 b] w fun e w' => ∃ g, e = .returned (.tuple #[.slice (some ⟨g, 0, none⟩) 512 512, .int .i64 0]) ∧ w.heap.size ≤ g ∧ CellsA w' g 94 (bvs x) ∧ Upd (fun _ => False) w w' := by
  have hN : (N : Int) ≤ 4096 := by have := h.size; have := h.disk.1.most; omega
  have hus := usable_ok h b (by omega) (by omega)
  rw [if_neg (by omega)] at hus
  have H := Lib.hid (And.intro h (And.intro hx hxl))
  have Hus := Lib.hid hus
  clear h hx hxl hus
  go_enter Tryz.func23, Tryz.ntmps23
  go_wp2_with fail
  refine Hus.out.mono ?_
  rintro e w1 ⟨rfl, hu⟩
  dsimp only
  have HT := Lib.hid (H.out.1.upd hu.drew (fun _ _ h => h))
  have Hu := Lib.hid hu
  clear hu
  go_wp2_with fail
  have HS : w1.drew.cell? ⟨tb, 0, none⟩ = some (.pointer (some ⟨pb, 0, none⟩)) ∧ w1.drew.cell? ⟨tb, 1, none⟩ = some (.map (some mb)) ∧ w1.drew.cell? ⟨pb, 4, none⟩ = some (.map (some fb)) := ⟨HT.out.tx.cell 0, HT.out.tx.cell 1, HT.out.pg.cell 4⟩
  refine wp_region_planD (fun u => u.cell? ⟨tb, 0, none⟩ = some (.pointer (some ⟨pb, 0, none⟩)) ∧ u.cell? ⟨tb, 1, none⟩ = some (.map (some mb)) ∧ u.cell? ⟨pb, 4, none⟩ = some (.map (some fb))) 14 [(0, true), (1, true), (2, true), (3, true), (4, true), (5, true), (6, true), (7, true), (8, true), (9, true), (10, true), (13, true), (11, false), (12, true)] (by kernel_rfl) (by kernel_rfl) (fun d _ _ _ _ h => by cases d <;> exact h) HS ?_
  iterate 12 (first | (apply planD_held rfl rfl rfl (by simp) HS; (intro w' hS K hK; go_simp; exact hK)) | (apply planD_wanted rfl rfl rfl (by simp) HS; (intro w' hS K hK; go_simp; exact hK)))
  refine planD_op rfl rfl (fun K hK => ?_)
  go_simp
  have hal : Upd (fun _ => False) w1 ((w1.alloc (.cells #[.map (some mb), .map (some fb)] 83)).drew) := ((Upd.refl _ w1).alloc _).drew
  have hcs : ((w1.alloc (.cells #[.map (some mb), .map (some fb)] 83)).drew).cell? ⟨w1.heap.size, 0, none⟩ = some (.map (some mb)) := (CellsA.new w1 83 [.map (some mb), .map (some fb)]).cell 0
  generalize (w1.alloc (.cells #[.map (some mb), .map (some fb)] 83)).drew = w2 at *
  generalize w1.heap.size = sb at *
  have HT2 := Lib.hid ((H.out.1.upd Hu.out (fun _ _ h => h)).upd hal (fun _ _ h => h))
  have HU2 := Lib.hid (Hu.out.trans hal)
  have HS2 : w2.cell? ⟨tb, 0, none⟩ = some (.pointer (some ⟨pb, 0, none⟩)) ∧ w2.cell? ⟨tb, 1, none⟩ = some (.map (some mb)) ∧ w2.cell? ⟨pb, 4, none⟩ = some (.map (some fb)) := ⟨HT2.out.tx.cell 0, HT2.out.tx.cell 1, HT2.out.pg.cell 4⟩
  refine hK _ _ _ (fun u h => h) (fun _ => HS2) ?_
  clear hK HS hal HT
  try (simp only [Act.put, List.setIfInBounds_toArray, List.set_cons_zero, List.set_cons_succ])
  iterate 1 (first | (apply planD_held rfl rfl rfl (by simp) HS2; (intro w' hS K hK; go_simp; exact hK)) | (apply planD_wanted rfl rfl rfl (by simp) HS2; (intro w' hS K hK; go_simp; exact hK)))
  refine planD_nil ?_
  clear HS2
  go_wp2_with fail
  go_loopw [32] (fun i wr => i = .int .i64 0 ∧ wr = w2) (fun _ _ => 0)
  case atStart => exact ⟨rfl, rfl⟩
  case round =>
    obtain ⟨rfl, rfl⟩ := hrel
    have hlk : (lookV (imgs es) b).getD (.agg (bvs zeros512).toArray) = .agg (bvs x).toArray ∧ (lookV (imgs es) b).isSome = true := by rw [H.out.2.1]; exact ⟨rfl, rfl⟩
    have Hlk := Lib.hid hlk
    have Hz : (bvs x).toArray.size = 512 := by simp [bvs_length, H.out.2.2]
    have Hall : (bvs x).toArray.all (·.oneCell') = true := by rw [List.all_toArray]; exact List.all_eq_true.2 (bvs_one x)
    clear hlk
    go_wp2_with (first | ((with_reducible apply wpl_lookup_map Tryz.underlying83 Tryz.underlying3 (.agg (bvs zeros512).toArray) (zeroImg _) mb (imgs es) b); exact rfl; exact rfl; exact HT2.out.dirty; rw [Hlk.out.1, Hlk.out.2]; try (simp only [Act.put, List.setIfInBounds_toArray, List.set_cons_zero, List.set_cons_succ])) | ((with_reducible apply wpl_store_new); exact rfl; exact rfl; (rw [Hz]; exact sizeImg); exact Tryz.zeroCells94_size.trans Hz.symm; exact Hall; try (simp only [Act.put, List.setIfInBounds_toArray, List.set_cons_zero, List.set_cons_succ])))
    go_ret2
    have hz := HU2.out.size
    exact ⟨_, rfl, hz, CellsA.new _ _ _, HU2.out.alloc _⟩
/-- Begin, where none is open. -/
theorem begin_ok {w : World} {pb db lb fb skip ring N : Nat} {D : DSt} {G : Nat → Prop} (hpg : CellsA w pb 85 (pgV db lb skip ring fb none)) (hD : DiskAt w db D G) (hsz : D.secs.length = skip + N) (hG : ¬ G pb) :
    Calls Tryz.prog 13 #[.pointer (some ⟨pb, 0, none⟩)] w fun e w' => ∃ tb mb, e = .returned (.tuple #[.pointer (some ⟨tb, 0, none⟩), .int .i64 0]) ∧ w.heap.size ≤ tb ∧ w.heap.size ≤ mb ∧ TxS w' tb pb mb db lb fb skip ring N (some ⟨tb, 0, none⟩) D [] G ∧ Upd (fun q => q = pb) w w' := by
  have c5 := hpg.cell 5
  have c6 := hpg.cell 6
  have fz := hpg.frozen 5
  simp only [pgV, List.getElem?_cons_zero, List.getElem?_cons_succ] at c5 c6
  have H := Lib.hid (And.intro hpg (And.intro hD (And.intro hsz hG)))
  clear hpg hD hsz hG
  have hmm := @run_makeMap Tryz.prog
  have hpx : CellsA ((w.alloc (.map #[] 0)).alloc (.cells #[.pointer (some ⟨pb, 0, none⟩), .map (some w.heap.size)] 91)) pb 85 (pgV db lb skip ring fb none) := (H.out.1.upd ((Upd.refl (fun _ => False) w).alloc _) (fun h => h)).upd ((Upd.refl (fun _ => False) _).alloc _) (fun h => h)
  have c5' := hpx.cell 5
  have fz' := hpx.frozen 5
  simp only [pgV, List.getElem?_cons_zero, List.getElem?_cons_succ] at c5'
  clear hpx
  go_enter Tryz.func13, Tryz.ntmps13
  go_wp2_with fail
  go_ret2
  have u1 : Upd (fun _ => False) w (w.alloc (.map #[] 0)) := (Upd.refl _ _).alloc _
  have m1 := MapAt.new w
  have s1 : (w.alloc (.map #[] 0)).heap.size = w.heap.size + 1 := by simp
  generalize w.alloc (.map #[] 0) = w1 at *
  have u2 : Upd (fun _ => False) w1 (w1.alloc (.cells #[.pointer (some ⟨pb, 0, none⟩), .map (some w.heap.size)] 91)) := (Upd.refl _ _).alloc _
  have t2 := CellsA.new w1 91 [.pointer (some ⟨pb, 0, none⟩), .map (some w.heap.size)]
  rw [s1] at t2
  generalize w1.alloc (.cells #[.pointer (some ⟨pb, 0, none⟩), .map (some w.heap.size)] 91) = w2 at *
  have hp2 := ((H.out.1.upd u1 (fun h => h)).upd u2 (fun h => h)).set 5 (.pointer (some ⟨w.heap.size + 1, 0, none⟩))
  have hpl := H.out.1.lt
  have hDl := H.out.2.1.lt
  have u3 : Upd (fun q => q = pb) w2 (w2.setCell ⟨pb, 5, none⟩ (.pointer (some ⟨w.heap.size + 1, 0, none⟩))) := (Upd.refl _ _).setCell _ (.inl rfl)
  refine ⟨w.heap.size + 1, w.heap.size, rfl, by omega, Nat.le_refl _, ⟨t2.upd u3 (fun e => by omega), hp2, (m1.upd u2 (fun h => h)).upd u3 (fun e => by omega), ((H.out.2.1.upd u1 (fun _ _ h => h)).upd u2 (fun _ _ h => h)).upd u3 (fun q hq e => H.out.2.2.2 (e ▸ hq)), H.out.2.2.1, (fun p hp => by cases hp), by omega, by omega, by omega, (fun hg => by have := hDl _ hg; omega), H.out.2.2.2, fun hg => by have := hDl _ hg; omega⟩, ((u1.trans u2).mono (fun _ _ h => h.elim)).trans u3⟩
end Go.Proofs.YtihlijnobbonbaaGreat

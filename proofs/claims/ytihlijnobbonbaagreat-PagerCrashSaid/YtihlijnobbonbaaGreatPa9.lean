/- docketlaw04.fixed. -/
import Derived.Test.YtihlijnobbonbaaGreatPa8
import Derived.Lib.SlBytesConst
namespace Go.Proofs.YtihlijnobbonbaaGreat
open Go Go.RowKit
set_option linter.unusedSimpArgs false
set_option linter.unusedVariables false
set_option maxRecDepth 100000

theorem pblocks_ok {w : World} {pb db lb fb skip N : Nat} {ot : Option Addr} {dd : Bool} {L : LSt} {D : DSt} {es : Img} {F : Nat → Prop} (h : PgAt w pb db lb fb skip ot dd L D es F) (hsz : D.secs.length = skip + N) : Calls Tryz.prog 27 #[.pointer (some ⟨pb, 0, none⟩)] w fun e w' => e = .returned (.int .i64 N) ∧ w' = w.drew := by
  have c0 := h.pg.cell 0
  have c2 := h.pg.cell 2
  simp only [pgD, List.getElem?_cons_zero, List.getElem?_cons_succ] at c0 c2
  obtain ⟨G, hG, _⟩ := h.wal.disk
  have hmx := hG.1.most
  have b1 : (skip : Int) + (N : Int) ≤ 4096 := by omega
  have hs := size_disk (hG.upd ((Upd.refl (fun _ => False) w).drew) (fun _ _ h => h))
  rw [hsz] at hs
  have Hs := Lib.hid hs
  clear h hmx hG hs hsz
  go_enter Tryz.func27, Tryz.ntmps27
  go_wp2_with fail
  have HS : w.drew.cell? ⟨pb, 0, none⟩ = some (.pointer (some ⟨db, 0, none⟩)) ∧ w.drew.cell? ⟨pb, 2, none⟩ = some (.int .i64 skip) := ⟨c0, c2⟩
  have fN : IntKind.i64.wrap ((skip : Int) + (N : Int) - (skip : Int)) = (N : Int) := by rw [IntKind.wrap_i64]; omega
  refine wp_region_planD (fun u => u.cell? ⟨pb, 0, none⟩ = some (.pointer (some ⟨db, 0, none⟩)) ∧ u.cell? ⟨pb, 2, none⟩ = some (.int .i64 skip)) 11 [(0, true), (1, true), (2, true), (3, true), (5, true), (6, true), (7, true), (8, true), (4, false), (9, true), (10, true)] (by kernel_rfl) (by kernel_rfl) (fun d _ _ _ _ h => by cases d <;> exact h) HS ?_
  iterate 8 (first | (apply planD_held rfl rfl rfl (by simp) HS; (intro w' hS K hK; go_simp; exact hK)) | (apply planD_wanted rfl rfl rfl (by simp) HS; (intro w' hS K hK; go_simp; exact hK)))
  refine planD_op rfl rfl (fun K hK => ?_)
  go_simp
  refine Hs.out.mono ?_
  rintro e wn ⟨rfl, rfl⟩
  dsimp only
  refine hK _ _ _ (fun u h => h) (fun _ => HS) ?_
  clear hK
  try (simp only [Act.put, List.setIfInBounds_toArray, List.set_cons_zero, List.set_cons_succ])
  iterate 2 (first | (apply planD_held rfl rfl rfl (by simp) HS; (intro w' hS K hK; go_simp; exact hK)) | (apply planD_wanted rfl rfl rfl (by simp) HS; (intro w' hS K hK; go_simp; exact hK)))
  refine planD_nil ?_
  clear HS
  go_wp2_with fail
  go_ret
  exact ⟨by first | rfl | (congr 2; exact fN), rfl⟩
theorem qblocks_ok {w : World} {pb db skip N sy : Nat} {cs : List Img} {f : Int} {K : Nat → Prop} (h : Pgr w pb db skip N cs sy f K) : Calls Tryz.prog 27 #[.pointer (some ⟨pb, 0, none⟩)] w fun e w' => e = .returned (.int .i64 (N : Nat)) ∧ w' = w.drew := by
  obtain ⟨lb, fb, L, D, es, F, T, h1, h2, h3, h4, rfl⟩ := h
  exact pblocks_ok h1 h2.secs
/-- A new pager on a new disk. -/
theorem qnew_ok (n : Nat) (hn1 : 1 ≤ n) (hn2 : n ≤ 4096) (w : World) (nI : Int) (hnI : nI = (n : Nat)) : Calls Tryz.prog 12 #[.int .i64 nI] w fun e w' => ∃ db F, e = .returned (.pointer (some ⟨db, 0, none⟩)) ∧ DiskAt w' db (DSt.new n) F ∧ Upd (fun _ => False) w w' ∧ (∀ k, F k → w.heap.size ≤ k) := by
  subst hnI
  exact new_disk (n : Int) w
theorem new_secs (n : Nat) (hn1 : 1 ≤ n) (hn2 : n ≤ 4096) : (DSt.new (n : Nat)).secs.length = n := by
  show (List.replicate (min (max (n : Int) 1) 4096).toNat zeros512).length = n
  rw [List.length_replicate]; omega
theorem new_zero (n : Int) : ∀ x ∈ (DSt.new n).secs, x = zeros512 := fun x hx => List.eq_of_mem_replicate hx
theorem qmake_ok {w : World} {db : Nat} {F : Nat → Prop} (skip N : Nat) (h2 : 2 ≤ skip) (hN : 1 ≤ N) (hm : skip + N ≤ 4096) (hD : DiskAt w db (DSt.new ((skip + N : Nat) : Int)) F) (sI : Int) (hsI : sI = (skip : Nat)) :
    Calls Tryz.prog 11 #[.pointer (some ⟨db, 0, none⟩), .int .i64 sI] w fun e w' => ∃ pb K, e = .returned (.tuple #[.pointer (some ⟨pb, 0, none⟩), .int .i64 0]) ∧ Pgr w' pb db skip N [] 0 (-1) K ∧ Upd F w w' ∧ (∀ q, K q → F q ∨ w.heap.size ≤ q) := by
  subst hsI
  refine (pmake_ok hD rfl rfl rfl (new_zero _) skip N h2 hN (new_secs _ (by omega) hm)).mono ?_
  rintro e w' ⟨pb, rfl, lb, fb, F', D, g1, g2, g3, g4, g5⟩
  exact ⟨pb, _, rfl, ⟨lb, fb, _, D, [], F', 0, g1, g2, rfl, g3, rfl⟩, g4, g5⟩
theorem fixed_ok (w : World) : Calls Tryz.prog 10 #[] w fun e w' => e = .returned (.bool true) ∧ Upd (fun _ => False) w w' := by
  go_enter Tryz.func10, Tryz.ntmps10
  go_wp2_with fail
  refine (qnew_ok 20 (by decide) (by decide) w 20 rfl).mono ?_
  rintro e w1 ⟨db, F, rfl, hD, hu, hF⟩
  dsimp only
  have H1 := Lib.hid (And.intro hD (And.intro hu hF))
  clear hD hu hF
  go_wp2_with fail
  refine (qmake_ok 6 14 (by decide) (by decide) (by decide) H1.out.1 6 rfl).mono ?_
  rintro e w2 ⟨pb, K2, rfl, hp, hu, hK⟩
  dsimp only
  have H2 : Hid (Pgr w2 pb db 6 14 [] 0 (-1) K2 ∧ Upd (fun _ => False) w w2 ∧ (∀ q, K2 q → w.heap.size ≤ q)) :=
    ⟨hp, H1.out.2.1.then hu (fun q hq => .inr (H1.out.2.2 q hq)), fun q hq => by
      rcases hK q hq with e | e
      · exact H1.out.2.2 q e
      · exact Nat.le_trans H1.out.2.1.size e⟩
  clear hp hu hK
  go_wp2_with fail
  refine (qblocks_ok H2.out.1).mono ?_
  rintro e w3 ⟨rfl, rfl⟩
  dsimp only
  go_wp2_with fail
  refine (qbegin_ok (H2.out.1.upd (Upd.refl (fun _ => False) w2).drew (fun _ _ h => h))).mono ?_
  rintro e w4 ⟨tb, K4, rfl, ht, hf⟩
  dsimp only
  have H4 : Hid (Txr w4 tb pb db 6 14 [] [] 0 (-1) K4 ∧ Upd (fun _ => False) w w4 ∧ (∀ q, K4 q → w.heap.size ≤ q)) :=
    ⟨ht, H2.out.2.1.drew.then hf.upd (fun q hq => .inr (H2.out.2.2 q hq)), fun q hq => by
      rcases hf.own q hq with e | e
      · exact H2.out.2.2 q e
      · exact Nat.le_trans H2.out.2.1.size e⟩
  clear ht hf
  go_wp2_with fail
  refine (qbegin_busy H4.out.1).mono ?_
  rintro e w5 ⟨rfl, rfl⟩
  dsimp only
  have kc := fun (w : World) (C : Array Value) (n c : Nat) => Lib.run_convert_bytes_const (P := Tryz.prog) w 38 5 C n c Tryz.underlying38 Tryz.underlying5
  go_wp2_with fail
  have hu4 : Upd (fun _ => False) w4 (w4.alloc (.cells #[.int .u8 97] 5 (1, 2))) := (Upd.refl _ w4).alloc _
  have hs4 : Sees (w4.alloc (.cells #[.int .u8 97] 5 (1, 2))) 1 (.slice (some ⟨w4.heap.size, 0, none⟩) 1 1) 1 (bvs [97]) := Sees.at rfl (by decide) (rangeAt_of_row (heap_alloc_new w4 (.cells (bvs [97]).toArray 5 (1, 2))) rfl)
  change Calls _ _ _ (w4.alloc (.cells #[.int .u8 97] 5 (1, 2))) _
  have H5 := Lib.hid (And.intro (H4.out.1.upd hu4 (fun _ _ h => h)) (H4.out.2.1.trans hu4))
  have Hs4 := Lib.hid hs4
  clear hu4 hs4
  generalize w4.alloc (.cells #[.int .u8 97] 5 (1, 2)) = w5 at *
  generalize w4.heap.size = gb at *
  refine (qwrite_ok H5.out.1 3 (by decide) (by decide) (some ⟨gb, 0, none⟩) 1 [97] Hs4.out).mono ?_
  rintro e w6 (⟨hbad, _⟩ | ⟨_, _, _, rfl, ht, hu⟩)
  · simp at hbad
  dsimp only
  have H6 : Hid (Txr w6 tb pb db 6 14 [] (putP [] 3 (pad [97])) 0 (-1) K4 ∧ Upd (fun _ => False) w w6) := ⟨ht, H5.out.2.then hu (fun q hq => .inr (H4.out.2.2 q hq))⟩
  clear ht hu kc
  go_wp2_with fail
  refine (qread_ok H6.out.1 3 (by decide)).mono ?_
  rintro e w7 ⟨xa, xc, rfl, hm, hn, hu⟩
  dsimp only
  have hr : Hid (∃ g o, xa = some ⟨g, o, none⟩ ∧ w7.cell? ⟨g, o, none⟩ = some (.int .u8 97)) := by
    obtain ⟨hl, ⟨e1, _⟩ | ⟨g, o, cap, e1, h1, h2, h3, h4, h5⟩⟩ := hm
    · cases e1
    · cases e1
      exact ⟨g, o, rfl, h4 0 _ (by rfl)⟩
  obtain ⟨g, o, rfl, hcell⟩ := hr.out
  have H7 := Lib.hid (And.intro (H6.out.1.upd hu (fun _ _ h => h)) (And.intro (H6.out.2.trans hu) hn))
  have Hcell := Lib.hid hcell
  clear hm hn hu hr hcell
  go_wp2_with fail
  refine (qcommit_ok H7.out.1 (by decide) (by decide)).mono ?_
  rintro e w8 ⟨a, r, rfl, K8, hf, hp⟩
  dsimp only
  have hnl : ¬ TooLong 6 (putP [] 3 (pad [97])) := by
    rintro (h | h)
    · rw [needB_encC (N := 14) H7.out.1.ok.1] at h
      revert h; decide
    · revert h; decide
  rcases hp with ⟨h0, _⟩ | ⟨_, h0, _⟩ | ⟨_, _, rfl, rfl, sy, f, h1, h2, h3⟩ | ⟨_, _, _, _, _, h0⟩
  · exact absurd h0 (by decide)
  · exact absurd h0 hnl
  · obtain rfl := h2 (by decide)
    have H8 : Hid (Pgr w8 pb db 6 14 ([] ++ [putP [] 3 (pad [97])]) sy (-1) K8 ∧ Upd (fun _ => False) w w8) := ⟨h3, H7.out.2.1.then hf.upd (fun q hq => .inr (H4.out.2.2 q hq))⟩
    have hcell8 : w8.cell? ⟨g, o, none⟩ = some (.int .u8 97) := by
      refine hf.upd.cell_some Hcell.out (fun hk => ?_)
      have h4 := H6.out.1.lt _ hk
      have h5 := (H7.out.2.2 g rfl).1
      have h6 : g < w6.heap.size := h4
      omega
    clear hf h1 h3
    go_wp2_with fail
    refine (qdone_ok H8.out.1).mono ?_
    rintro e w9 ⟨rfl, rfl⟩
    dsimp only
    go_wp2_with fail
    go_ret
    exact ⟨rfl, H8.out.2⟩
  · exact absurd h0 (by decide)
end Go.Proofs.YtihlijnobbonbaaGreat

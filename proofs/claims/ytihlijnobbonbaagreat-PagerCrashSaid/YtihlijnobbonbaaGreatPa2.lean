/- Package pager: Read of one that lives. -/
import Derived.Test.YtihlijnobbonbaaGreatPa1
namespace Go.Proofs.YtihlijnobbonbaaGreat
open Go Go.RowKit
set_option linter.unusedSimpArgs false
set_option linter.unusedVariables false
set_option maxRecDepth 100000

/-- What a Read answers. -/
def ReadPost (w : World) (x : Bytes) (e : Ending) (w' : World) : Prop :=
  ∃ (xa : Option Addr) (xc : Nat), e = .returned (.tuple #[.slice xa 512 xc, .int .i64 0]) ∧ w'.ownsRow w.heap.size 5 1 (.slice xa 512 xc) 512 (bvs x) ∧ Upd (fun _ => False) w w'
/-- The loop over the two maps. -/
def ReadR (w : World) (tb mb pb db lb fb skip : Nat) (L : LSt) (D : DSt) (ds es : Img) (F : Nat → Prop) (b : Int) (sb : Nat) (k : Nat) (wr : World) : Prop :=
  TxP wr tb mb pb db lb fb skip L D ds es F ∧ Upd (fun _ => False) w wr ∧ CellsA wr sb 83 [.map (some mb), .map (some fb)] ∧ (1 ≤ k → lookB ds b = none) ∧ (2 ≤ k → lookB es b = none)
theorem zeroCellsImg : Tryz.zeroCells94 = (bvs zeros512).toArray := zcImg
theorem row_new (w : World) (B : Nat) (x : Bytes) (t : TypeId) (hB : B ≤ w.heap.size) (hx : x.length = 512) (ht : t = 94) : CellsA (w.alloc (.cells (bvs x).toArray t)) w.heap.size t (bvs x) := CellsA.new _ _ _
theorem read_end {w wr : World} (hu : Upd (fun _ => False) w wr) (y : Bytes) (hyl : y.length = 512) (t : TypeId) :
    Mid (wr.alloc (.cells (bvs y).toArray t)) 1 (.slice (some ⟨wr.heap.size, 0, none⟩) 512 512) 512 (bvs y) ∧ (∀ q, (Value.slice (some ⟨wr.heap.size, 0, none⟩) 512 512).ownBlock = some q → w.heap.size ≤ q ∧ ∀ i, (wr.alloc (.cells (bvs y).toArray t)).frozen? ⟨q, i, none⟩ = false) ∧ Upd (fun _ => False) w (wr.alloc (.cells (bvs y).toArray t)) := by
  have hn := CellsA.new wr t (bvs y)
  refine ⟨mid_full (by rw [bvs_length, hyl]) (by decide) hn.lt hn.range, fun q hq => ?_, hu.alloc _⟩
  cases hq
  exact ⟨hu.size, fun i => hn.frozen i⟩
set_option maxHeartbeats 4000000 in
theorem pread_ok {w : World} {tb mb pb db lb fb skip N T : Nat} {L : LSt} {D : DSt} {ds es : Img} {cs : List Img} {F : Nat → Prop} (h : TxP w tb mb pb db lb fb skip L D ds es F) (hi : PInv L D skip N T cs es) (hd : EsOk N ds) (b : Nat) (hb : b < N) :
    Calls Tryz.prog 23 #[.pointer (some ⟨tb, 0, none⟩), .int .i64 (b : Nat)] w fun e w' => ∃ (xa : Option Addr) (xc : Nat), e = .returned (.tuple #[.slice xa 512 xc, .int .i64 0]) ∧ Mid w' 1 (.slice xa 512 xc) 512 (bvs ((lookB ds (b : Int)).getD (atC cs (b : Int)))) ∧
      (∀ q, (Value.slice xa 512 xc).ownBlock = some q → w.heap.size ≤ q ∧ ∀ i, w'.frozen? ⟨q, i, none⟩ = false) ∧ Upd (fun _ => False) w w' := by
  obtain ⟨G, hS, hG⟩ := h.s hi.secs (lens_of hd)
  have hmx : skip + N ≤ 4096 := by have := hS.disk.1.most; have := hi.secs; omega
  have hus := usable_ok hS (b : Int) (by omega) (by omega)
  rw [if_neg (by omega)] at hus
  have hsn := hi.seen b hb
  have hwl : D.waits.length < 100000000000 := by have := hi.wl; have := hi.inv.ok.used; have := hi.n; omega
  have hat : (atC (cs.take T) (b : Int)).length = 512 := atC_length (fun c hc => hi.okC c (List.mem_of_mem_take hc)) _
  obtain ⟨old, hold⟩ : ∃ old, atC (cs.take T) (b : Int) = old := ⟨_, rfl⟩
  obtain ⟨now, hnow⟩ : ∃ now, atC cs (b : Int) = now := ⟨_, rfl⟩
  rw [hold] at hsn hat
  rw [hnow] at hsn ⊢
  obtain ⟨bi, hbi⟩ : ∃ bi : Int, (b : Int) = bi := ⟨_, rfl⟩
  have HLb : Hid ((∀ x, lookB ds bi = some x → x.length = 512) ∧ (∀ x, lookB es bi = some x → x.length = 512)) := ⟨fun x hx => (hd.look hx).2.2, fun x hx => (hi.okE.look hx).2.2⟩
  have hbiI : 0 ≤ bi ∧ bi ≤ 4096 := by omega
  have hski : (skip : Int) + bi = ((skip + b : Nat) : Int) := by omega
  have hskb : (skip : Int) + bi ≤ 4096 := by omega
  have H := Lib.hid (And.intro h (And.intro hsn.1 (And.intro hsn.2 (And.intro hwl (And.intro hat (And.intro hS hG))))))
  have Hus := Lib.hid hus
  have Hski := Lib.hid hski
  rw [hbi] at H Hus ⊢
  clear h hi hd hus hsn hwl hold hnow hS hG hat hmx hski hb hbi
  go_enter Tryz.func23, Tryz.ntmps23
  go_wp2_with fail
  refine Hus.out.mono ?_
  rintro e w1 ⟨rfl, hu⟩
  dsimp only
  have HT := Lib.hid (H.out.1.upd hu.drew (fun _ _ h => h))
  have Hu := Lib.hid hu
  clear hu
  go_wp2_with fail
  have HS : w1.drew.cell? ⟨tb, 0, none⟩ = some (.pointer (some ⟨pb, 0, none⟩)) ∧ w1.drew.cell? ⟨tb, 1, none⟩ = some (.map (some mb)) ∧ w1.drew.cell? ⟨pb, 4, none⟩ = some (.map (some fb)) := ⟨HT.out.tx.cell 0, HT.out.tx.cell 1, HT.out.pg.pg.cell 4⟩
  refine wp_region_planD (fun u => u.cell? ⟨tb, 0, none⟩ = some (.pointer (some ⟨pb, 0, none⟩)) ∧ u.cell? ⟨tb, 1, none⟩ = some (.map (some mb)) ∧ u.cell? ⟨pb, 4, none⟩ = some (.map (some fb))) 14 [(0, true), (1, true), (2, true), (3, true), (4, true), (5, true), (6, true), (7, true), (8, true), (9, true), (10, true), (13, true), (11, false), (12, true)] (by kernel_rfl) (by kernel_rfl) (fun d _ _ _ _ h => by cases d <;> exact h) HS ?_
  iterate 12 (first | (apply planD_held rfl rfl rfl (by simp) HS; (intro w' hS K hK; go_simp; exact hK)) | (apply planD_wanted rfl rfl rfl (by simp) HS; (intro w' hS K hK; go_simp; exact hK)))
  refine planD_op rfl rfl (fun K hK => ?_)
  go_simp
  have hal : Upd (fun _ => False) w1 ((w1.alloc (.cells #[.map (some mb), .map (some fb)] 83)).drew) := ((Upd.refl _ w1).alloc _).drew
  have hcs : CellsA ((w1.alloc (.cells #[.map (some mb), .map (some fb)] 83)).drew) w1.heap.size 83 [.map (some mb), .map (some fb)] := CellsA.new w1 83 [.map (some mb), .map (some fb)]
  generalize (w1.alloc (.cells #[.map (some mb), .map (some fb)] 83)).drew = w2 at *
  generalize w1.heap.size = sb at *
  have HT2 : Hid (ReadR w tb mb pb db lb fb skip L D ds es F bi sb 0 w2) := ⟨(H.out.1.upd Hu.out (fun _ _ h => h)).upd hal (fun _ _ h => h), Hu.out.trans hal, hcs, fun h => absurd h (by omega), fun h => absurd h (by omega)⟩
  have HS2 : w2.cell? ⟨tb, 0, none⟩ = some (.pointer (some ⟨pb, 0, none⟩)) ∧ w2.cell? ⟨tb, 1, none⟩ = some (.map (some mb)) ∧ w2.cell? ⟨pb, 4, none⟩ = some (.map (some fb)) := ⟨HT2.out.1.tx.cell 0, HT2.out.1.tx.cell 1, HT2.out.1.pg.pg.cell 4⟩
  refine hK _ _ _ (fun u h => h) (fun _ => HS2) ?_
  clear hK HS hal HT hcs
  try (simp only [Act.put, List.setIfInBounds_toArray, List.set_cons_zero, List.set_cons_succ])
  iterate 1 (first | (apply planD_held rfl rfl rfl (by simp) HS2; (intro w' hS K hK; go_simp; exact hK)) | (apply planD_wanted rfl rfl rfl (by simp) HS2; (intro w' hS K hK; go_simp; exact hK)))
  refine planD_nil ?_
  clear HS2
  go_wp2_with fail
  go_loopw [32] (fun i wr => ∃ k : Nat, k ≤ 2 ∧ i = .int .i64 k ∧ Hid (ReadR w tb mb pb db lb fb skip L D ds es F bi sb k wr)) (fun i _ => 2 - (intOf i).toNat)
  case atStart => exact ⟨0, by omega, rfl, HT2⟩
  case round =>
    clear HT2
    obtain ⟨k, hk, rfl, HR⟩ := hrel
    have hz2 := HR.out.2.1.size
    by_cases hk2 : k = 2
    · subst hk2
      go_wp2_with fail
      have c00 := HR.out.1.tx.cell 0
      have d00 := HR.out.1.pg.pg.cell 0
      have d02 := HR.out.1.pg.pg.cell 2
      have HS3 : wr.cell? ⟨tb, 0, none⟩ = some (.pointer (some ⟨pb, 0, none⟩)) ∧ wr.cell? ⟨pb, 0, none⟩ = some (.pointer (some ⟨db, 0, none⟩)) ∧ wr.cell? ⟨pb, 2, none⟩ = some (.int .i64 skip) := ⟨c00, d00, d02⟩
      clear c00 d00 d02
      have hdk : Hid (∃ G, DiskAt wr.drew db D G) := by obtain ⟨G, hG, _⟩ := HR.out.1.pg.wal.disk; exact ⟨G, hG.upd (Upd.refl (fun _ => False) wr).drew (fun _ _ h => h)⟩
      obtain ⟨G, hG⟩ := hdk.out
      have hrd := read_disk hG H.out.2.2.2.1 ((skip : Int) + bi) (show D.read ((skip : Int) + bi) = (old, 0) by rw [Hski.out]; exact H.out.2.2.1)
      have Hrd := Lib.hid hrd
      have fwr : IntKind.i64.wrap ((skip : Int) + bi) = (skip : Int) + bi := by rw [IntKind.wrap_i64]; omega
      clear hrd hG hdk
      refine wp_region_planD (fun u => u.cell? ⟨tb, 0, none⟩ = some (.pointer (some ⟨pb, 0, none⟩)) ∧ u.cell? ⟨pb, 0, none⟩ = some (.pointer (some ⟨db, 0, none⟩)) ∧ u.cell? ⟨pb, 2, none⟩ = some (.int .i64 skip)) 22 [(0, true), (1, true), (2, true), (3, true), (4, true), (5, true), (6, true), (7, true), (8, true), (9, true), (10, true), (11, true), (12, true), (13, true), (14, true), (15, true), (16, false), (17, true), (18, true), (19, true), (20, true), (21, true)] (by kernel_rfl) (by kernel_rfl) (fun d _ _ _ _ h => by cases d <;> exact h) HS3 ?_
      iterate 16 (first | (apply planD_held rfl rfl rfl (by simp) HS3; (intro w' hS K hK; go_simp; exact hK)) | (apply planD_wanted rfl rfl rfl (by simp) HS3; (intro w' hS K hK; go_simp; exact hK)))
      refine planD_op rfl rfl (fun K hK => ?_)
      go_simp
      try rw [fwr]
      refine Hrd.out.mono ?_
      rintro e w3 ⟨xa, xc, rfl, hrow, hu3, -, hl3⟩
      have hlen : old.length = 512 := hl3 rfl
      have HF : Hid ((∀ q, (Value.slice xa old.length xc).ownBlock = some q → w.heap.size ≤ q ∧ ∀ i, w3.frozen? ⟨q, i, none⟩ = false) ∧ Mid w3 1 (.slice xa old.length xc) old.length (bvs old) ∧ Upd (fun _ => False) w w3) := by
        refine ⟨fun q hq => ?_, mid_of_row hrow, HR.out.2.1.drew.trans hu3⟩
        rcases hrow.2 with ⟨e1, _⟩ | ⟨g, cap, cur, e1, hbase, hgb, _⟩
        · rw [e1] at hq; cases hq
        · rw [e1] at hq
          cases hq
          exact ⟨Nat.le_trans hz2 hbase, fun i => unfrozen hgb i⟩
      have HS4 : w3.cell? ⟨tb, 0, none⟩ = some (.pointer (some ⟨pb, 0, none⟩)) ∧ w3.cell? ⟨pb, 0, none⟩ = some (.pointer (some ⟨db, 0, none⟩)) ∧ w3.cell? ⟨pb, 2, none⟩ = some (.int .i64 skip) := ⟨hu3.cell_some HS3.1 (fun h => h), hu3.cell_some HS3.2.1 (fun h => h), hu3.cell_some HS3.2.2 (fun h => h)⟩
      have Hl := Lib.hid hlen
      clear hrow hu3 hl3 hlen
      dsimp only
      refine hK _ _ _ (fun u h => h) (fun _ => HS4) ?_
      clear hK HS3
      try (simp only [Act.put, List.setIfInBounds_toArray, List.set_cons_zero, List.set_cons_succ])
      iterate 5 (first | (apply planD_held rfl rfl rfl (by simp) HS4; (intro w' hS K hK; go_simp; exact hK)) | (apply planD_wanted rfl rfl rfl (by simp) HS4; (intro w' hS K hK; go_simp; exact hK)))
      refine planD_nil ?_
      clear HS4 Hrd
      go_wp2_with fail
      go_ret2
      have h2 := HR.out.2.2.2.1 (by omega)
      have h3 := HR.out.2.2.2.2 (by omega)
      have hn : now = old := by rw [H.out.2.1, h3]; rfl
      rw [h2, hn]
      have hq := HF.out
      rw [Hl.out] at hq ⊢
      exact ⟨xa, xc, rfl, hq.2.1, hq.1, hq.2.2⟩
    · have hk1 : k = 0 ∨ k = 1 := by omega
      have hsl0 := HR.out.2.2.1.cell 0
      have hsl1 := HR.out.2.2.1.cell 1
      simp only [List.getElem?_cons_zero, List.getElem?_cons_succ] at hsl0 hsl1
      rcases hk1 with rfl | rfl
      · obtain ⟨y, hy⟩ : ∃ y, (lookB ds bi).getD zeros512 = y := ⟨_, rfl⟩
        have hyl : y.length = 512 := by
          rw [← hy]
          cases hq : lookB ds bi with
          | none => exact zeros512_length
          | some x => exact HLb.out.1 x hq
        obtain ⟨ok, hok⟩ : ∃ ok, (lookB ds bi).isSome = ok := ⟨_, rfl⟩
        have Hlk : Hid ((lookV (imgs ds) bi).getD (.agg (bvs zeros512).toArray) = .agg (bvs y).toArray ∧ (lookV (imgs ds) bi).isSome = ok) := by
          rw [lookV_imgs, ← hy, ← hok]
          cases lookB ds bi <;> exact ⟨rfl, rfl⟩
        have Hz : (bvs y).toArray.size = 512 := by simp [bvs_length, hyl]
        have Hall : (bvs y).toArray.all (·.oneCell') = true := by rw [List.all_toArray]; exact List.all_eq_true.2 (bvs_one y)
        have Hy := Lib.hid (And.intro hy (And.intro hok hyl))
        clear hy hok hyl
        cases ok with
        | true =>
          go_wp2_with (first | ((with_reducible apply wpl_lookup_map Tryz.underlying83 Tryz.underlying3 (.agg (bvs zeros512).toArray) (zeroImg _) mb (imgs ds) bi); exact rfl; exact rfl; exact HR.out.1.dirty; rw [Hlk.out.1, Hlk.out.2]; try (simp only [Act.put, List.setIfInBounds_toArray, List.set_cons_zero, List.set_cons_succ])) | ((with_reducible apply wpl_store_new); exact rfl; exact rfl; (rw [Hz]; exact sizeImg); exact Tryz.zeroCells94_size.trans Hz.symm; exact Hall; try (simp only [Act.put, List.setIfInBounds_toArray, List.set_cons_zero, List.set_cons_succ])))
          go_ret2
          have hq : lookB ds bi = some y := by
            have h1 := Hy.out.1
            have h2 := Hy.out.2.1
            cases hq : lookB ds bi with
            | none => rw [hq] at h2; cases h2
            | some x => rw [hq] at h1; exact congrArg some h1
          rw [hq]
          exact ⟨_, 512, rfl, read_end HR.out.2.1 y Hy.out.2.2 _⟩
        | false =>
          go_wp2_with (first | ((with_reducible apply wpl_lookup_map Tryz.underlying83 Tryz.underlying3 (.agg (bvs zeros512).toArray) (zeroImg _) mb (imgs ds) bi); exact rfl; exact rfl; exact HR.out.1.dirty; rw [Hlk.out.1, Hlk.out.2]; try (simp only [Act.put, List.setIfInBounds_toArray, List.set_cons_zero, List.set_cons_succ])) | ((with_reducible apply wpl_store_new); exact rfl; exact rfl; (rw [Hz]; exact sizeImg); exact Tryz.zeroCells94_size.trans Hz.symm; exact Hall; try (simp only [Act.put, List.setIfInBounds_toArray, List.set_cons_zero, List.set_cons_succ])))
          have hq : lookB ds bi = none := by
            have h2 := Hy.out.2.1
            cases hq : lookB ds bi with
            | none => rfl
            | some x => rw [hq] at h2; cases h2
          exact ⟨⟨1, by omega, rfl, ⟨HR.out.1.upd ((Upd.refl (fun _ => False) wr).alloc _) (fun _ _ h => h), HR.out.2.1.alloc _, HR.out.2.2.1.upd ((Upd.refl (fun _ => False) wr).alloc _) (fun h => h), fun _ => hq, fun h => absurd h (by omega)⟩⟩, by simp [intOf]⟩
      · obtain ⟨y, hy⟩ : ∃ y, (lookB es bi).getD zeros512 = y := ⟨_, rfl⟩
        have hyl : y.length = 512 := by
          rw [← hy]
          cases hq : lookB es bi with
          | none => exact zeros512_length
          | some x => exact HLb.out.2 x hq
        obtain ⟨ok, hok⟩ : ∃ ok, (lookB es bi).isSome = ok := ⟨_, rfl⟩
        have Hlk : Hid ((lookV (imgs es) bi).getD (.agg (bvs zeros512).toArray) = .agg (bvs y).toArray ∧ (lookV (imgs es) bi).isSome = ok) := by
          rw [lookV_imgs, ← hy, ← hok]
          cases lookB es bi <;> exact ⟨rfl, rfl⟩
        have Hz : (bvs y).toArray.size = 512 := by simp [bvs_length, hyl]
        have Hall : (bvs y).toArray.all (·.oneCell') = true := by rw [List.all_toArray]; exact List.all_eq_true.2 (bvs_one y)
        have Hy := Lib.hid (And.intro hy (And.intro hok hyl))
        clear hy hok hyl
        cases ok with
        | true =>
          go_wp2_with (first | ((with_reducible apply wpl_lookup_map Tryz.underlying83 Tryz.underlying3 (.agg (bvs zeros512).toArray) (zeroImg _) fb (imgs es) bi); exact rfl; exact rfl; exact HR.out.1.pg.fresh; rw [Hlk.out.1, Hlk.out.2]; try (simp only [Act.put, List.setIfInBounds_toArray, List.set_cons_zero, List.set_cons_succ])) | ((with_reducible apply wpl_store_new); exact rfl; exact rfl; (rw [Hz]; exact sizeImg); exact Tryz.zeroCells94_size.trans Hz.symm; exact Hall; try (simp only [Act.put, List.setIfInBounds_toArray, List.set_cons_zero, List.set_cons_succ])))
          go_ret2
          have hq : lookB es bi = some y := by
            have h1 := Hy.out.1
            have h2 := Hy.out.2.1
            cases hq : lookB es bi with
            | none => rw [hq] at h2; cases h2
            | some x => rw [hq] at h1; exact congrArg some h1
          have hn : now = y := by rw [H.out.2.1, hq]; rfl
          rw [HR.out.2.2.2.1 (by omega), hn]
          exact ⟨_, 512, rfl, read_end HR.out.2.1 y Hy.out.2.2 _⟩
        | false =>
          go_wp2_with (first | ((with_reducible apply wpl_lookup_map Tryz.underlying83 Tryz.underlying3 (.agg (bvs zeros512).toArray) (zeroImg _) fb (imgs es) bi); exact rfl; exact rfl; exact HR.out.1.pg.fresh; rw [Hlk.out.1, Hlk.out.2]; try (simp only [Act.put, List.setIfInBounds_toArray, List.set_cons_zero, List.set_cons_succ])) | ((with_reducible apply wpl_store_new); exact rfl; exact rfl; (rw [Hz]; exact sizeImg); exact Tryz.zeroCells94_size.trans Hz.symm; exact Hall; try (simp only [Act.put, List.setIfInBounds_toArray, List.set_cons_zero, List.set_cons_succ])))
          have hq : lookB es bi = none := by
            have h2 := Hy.out.2.1
            cases hq : lookB es bi with
            | none => rfl
            | some x => rw [hq] at h2; cases h2
          exact ⟨⟨2, by omega, rfl, ⟨HR.out.1.upd ((Upd.refl (fun _ => False) wr).alloc _) (fun _ _ h => h), HR.out.2.1.alloc _, HR.out.2.2.1.upd ((Upd.refl (fun _ => False) wr).alloc _) (fun h => h), fun _ => HR.out.2.2.2.1 (by omega), fun _ => hq⟩⟩, by simp [intOf]⟩
end Go.Proofs.YtihlijnobbonbaaGreat

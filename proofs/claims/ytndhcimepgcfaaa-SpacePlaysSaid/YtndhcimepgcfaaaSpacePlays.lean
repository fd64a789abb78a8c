/- docketlaw05.SpacePlays: its walk. -/
import Derived.Test.YtndhcimepgcfaaaSpp1
namespace Go.Proofs.Ytndhcimepgcfaaa
open Go Go.RowKit
set_option linter.unusedSimpArgs false
set_option linter.unusedVariables false
set_option maxRecDepth 100000
theorem sizeSop : (Try.prog.info? 44).map (·.size) = some 2 := by kernel_rfl
set_option maxHeartbeats 8000000 in
theorem spacePlays_walk (bl : Nat) (hbl : bl ≤ 255) (xa : Option Addr) (xc : Nat) (l : List SOp) (w : World) (hW : SopsAt w xa xc l) :
    Calls Try.prog 4 #[.int .u8 bl, .slice xa l.length xc] w fun e w' => e = .returned (.bool true) ∧ Below w.heap.size w w' := by
  obtain ⟨N, hN⟩ : ∃ N, 2 + bl = N := ⟨_, rfl⟩
  have hN2 : 2 ≤ N := by omega
  have hN3 : N ≤ 257 := by omega
  have hNI : 2 + (bl : Int) = (N : Int) := by omega
  have hbI : (bl : Int) ≤ 255 := by omega
  obtain ⟨M, hmm⟩ : ∃ M, l.length = M := ⟨_, rfl⟩
  have hsm := hW.1.2.1
  have H := Lib.hid (And.intro hW hmm)
  rw [hmm] at hsm ⊢
  have hmI : (M : Int) ≤ 9223372036854775807 := by simp only [maxLen] at hsm; omega
  have hNb : (N : Int) ≤ 257 := by omega
  have hNb2 : (2 : Int) ≤ (N : Int) := by omega
  clear hW hmm hsm hN hbl
  go_enter Try.func4, Try.ntmps4
  go_wp2_with fail
  refine (sp_fixed w).mono ?_
  rintro e w1 ⟨rfl, hu1⟩
  dsimp only
  have HU1 := Lib.hid hu1
  clear hu1
  go_wp2_with fail
  try rw [hNI]
  refine (pages_ok N (by omega) (by omega) w1).mono ?_
  rintro e w2 ⟨pb, tb, rfl, hP⟩
  dsimp only
  have HP : Hid (PagesPost w1 N tb [] w2) := hP
  obtain ⟨pb', mb0, db, lb, fb, ot, D, G, HT⟩ := HP.out
  have HT := Lib.hid HT
  clear hP HP
  go_wp2_with fail
  try rw [hNI]
  refine (spmake_ok HT.out.1 (by omega) (N : Int) (by omega) (by omega)).mono ?_
  rintro e w3 ⟨rfl, hT3, hu3⟩
  dsimp only
  have hown : ∀ q, ownT tb pb' mb0 G q → w.heap.size ≤ q := fun q hq => by have := HT.out.2.2 q hq; have := HU1.out.size; omega
  have H3 := Lib.hid (And.intro hT3 (And.intro ((HU1.out.trans HT.out.2.1).then hu3 (fun q hq => .inr (hown q (.inr (.inr (.inl hq)))))) hown))
  clear hT3 hu3 HT HU1 hown
  go_wp2_with fail
  try rw [hNI]
  refine (spload_ok H3.out.1 (by omega) three (look_putB _ _ _) three_length N hN2 (by omega)).mono ?_
  rintro e w4 ⟨p, r, rfl, hp⟩
  obtain ⟨_, m1, rfl, rfl, hm, hM, hu4⟩ := Or.resolve_right hp (fun h => h.1 (good_three N hN2))
  dsimp only
  have H4 := Lib.hid (And.intro hm (And.intro hM hu4))
  clear hp hm hM hu4
  go_wp2_with fail
  try rw [hNI]
  refine (rmake_ok w4 N hN2 (by omega)).mono ?_
  rintro e w5 ⟨rb, nb, ob, rfl, hNM⟩
  dsimp only
  have HA0 : Hid (PlaysS w w5 tb pb' mb0 db lb fb N m1 rb nb ob N N ot D (putB [] 0 (pad [3])) G three three) := by
    obtain ⟨hR, hu5, hlo5⟩ := hNM
    obtain ⟨hlo, hM, hu4⟩ := H4.out
    have z3 := H3.out.2.1.size
    have z4 := hu4.size
    have zm := hM.cells.lt
    refine ⟨(H3.out.1.upd hu4 (fun _ _ h => h)).upd hu5 (fun _ _ h => h), hM.upd hu5 (fun h => h), hR.congr (fun c _ => by rw [has_three]) (fun c _ => by rw [has_three]), good_three N hN2, (H3.out.2.1.trans hu4).trans hu5, by omega, fun hq => by have := H3.out.1.lt m1 hq; omega, H3.out.2.2, fun q hq => ?_⟩
    have hq2 := hlo5 q hq
    exact ⟨by omega, by omega, fun ht => by have := H3.out.1.lt q ht; omega⟩
  clear hNM H4 H3
  go_wp2_with fail
  go_loopw [8, 9, 10, 11] (fun mv ev rv i wr => ∃ (k m rb nb ob nc oc : Nat) (es : List (Int × Bytes)) (now old : Bytes), k ≤ M ∧ mv = .pointer (some ⟨m, 0, none⟩) ∧ ev = .int .i64 0 ∧ rv = .pointer (some ⟨rb, 0, none⟩) ∧ i = .int .i64 k ∧ Hid (PlaysS w wr tb pb' mb0 db lb fb N m rb nb ob nc oc ot D es G now old)) (fun _ _ _ i _ => M - (intOf i).toNat)
  case atStart => exact ⟨0, _, _, _, _, _, _, _, _, _, Nat.zero_le _, rfl, rfl, rfl, rfl, HA0⟩
  case round =>
    clear HA0
    obtain ⟨k, m, rb, nb, ob, nc, oc, es, now, old, hk, rfl, rfl, rfl, rfl, HP⟩ := hrel
    by_cases hlt : k < M
    · have hkm : (k : Int) < (M : Int) := by omega
      obtain ⟨o, ho⟩ : ∃ o, l[k]'(by rw [H.out.2]; exact hlt) = o := ⟨_, rfl⟩
      have hol : o ∈ l := ho ▸ List.getElem_mem _
      obtain ⟨xb, xo, rfl, hr⟩ := sop_at H.out.1.1 k (by rw [H.out.2]; exact hlt)
      rw [ho] at hr
      have hro : wr.rangeAt xb (xo + k * 2) (sopV o) := HP.out.upd.range hr (fun h => h)
      have hok := H.out.1.2.1 o hol
      obtain ⟨kd, hkd⟩ : ∃ kd, o.kind = kd := ⟨_, rfl⟩
      obtain ⟨B, hB⟩ : ∃ B, o.b = B := ⟨_, rfl⟩
      have hkdb : (kd : Int) ≤ 255 := by have := hok.kind; omega
      have hB1 : -9223372036854775808 ≤ B := hB ▸ hok.lo
      have hB2 : B ≤ 9223372036854775807 := hB ▸ hok.hi
      rw [sopV, hkd, hB] at hro
      have hal : Upd (fun _ => False) wr (wr.alloc (.cells #[.int .u8 kd, .int .i64 B] 44)) := (Upd.refl _ wr).alloc _
      have hcs := CellsA.new wr 44 [.int .u8 kd, .int .i64 B]
      obtain ⟨ab, hob⟩ : ∃ ab, wr.heap.size = ab := ⟨_, rfl⟩
      rw [hob] at hcs
      have HP4 : Hid (PlaysS w (wr.alloc (.cells #[.int .u8 kd, .int .i64 B] 44)) tb pb' mb0 db lb fb N m rb nb ob nc oc ot D es G now old) := HP.out.step hal
      have hne : ab ≠ m := by have := HP.out.map.cells.lt; omega
      have hne2 : ab ≠ nb := by have := HP.out.ref.lt; omega
      have Hob := Lib.hid (And.intro hne (And.intro hcs (And.intro hob hne2)))
      clear hal hcs hob HP hkd hB hr ho hol hok hne hne2
      have hmod : kd % 4 = 0 ∨ kd % 4 = 1 ∨ kd % 4 = 2 ∨ kd % 4 = 3 := by omega
      rcases hmod with h4 | h4 | h4 | h4
      · have q0 : (kd : Int) % 4 = 0 := by omega
        have q1 : (kd : Int).tmod 4 = 0 := by rw [Int.tmod_eq_emod_of_nonneg (by omega)]; omega
        clear h4
        go_wp2_with (first | ((with_reducible apply wpl_load_mid xb (xo + k * 2) [.int .u8 kd, .int .i64 B]); exact rfl; exact hro; exact Try.underlying44; exact rfl; exact sizeSop; try (simp only [Act.put, List.setIfInBounds_toArray, List.set_cons_zero, List.set_cons_succ])) | ((with_reducible apply wpl_store_new); exact rfl; exact rfl; exact sizeSop; exact rfl; exact rfl; try (simp only [Act.put, List.setIfInBounds_toArray, List.set_cons_zero, List.set_cons_succ])))
        try rw [Hob.out.2.2.1]
        generalize wr.alloc (.cells #[.int .u8 kd, .int .i64 B] 44) = w4 at *
        clear hro
        refine (mtake_ok HP4.out.map (by omega)).mono ?_
        rintro e w5 ⟨a1, r1, rfl, hp⟩
        dsimp only
        have Hp := Lib.hid hp
        clear hp
        go_wp2_with fail
        refine (rtake_ok' (HP4.out.ref1 Hp.out.foot) (by omega)).mono ?_
        rintro e w6 ⟨a2, r2, rfl, hq⟩
        dsimp only
        obtain ⟨rfl, rfl, now', HP6⟩ := HP4.out.take (by omega) Hp.out hq
        have HP6 := Lib.hid HP6
        clear hq Hp HP4
        have hus := mused_ok HP6.out.map
        have hru := rused_ok HP6.out.ref (by omega)
        rw [used_N HP6.out.map.l1 (by omega) HP6.out.good.2.2] at hus
        obtain ⟨u, hu⟩ : ∃ u, cnt (hasB now') N = u := ⟨_, rfl⟩
        rw [hu] at hus hru
        have Hus := Lib.hid (And.intro hus hru)
        clear hus hru hu
        go_wp2_with fail
        refine Hus.out.1.mono ?_
        rintro e w9 ⟨rfl, rfl⟩
        dsimp only
        go_wp2_with fail
        refine Hus.out.2.mono ?_
        rintro e w9 ⟨rfl, rfl⟩
        dsimp only
        clear Hus
        go_wp2_with fail
        exact ⟨⟨k + 1, _, _, _, _, _, _, _, _, _, by omega, rfl, rfl, rfl, by go_num, HP6⟩, by simp [intOf]; omega⟩
      · have q0 : (kd : Int) % 4 = 1 := by omega
        have q1 : (kd : Int).tmod 4 = 1 := by rw [Int.tmod_eq_emod_of_nonneg (by omega)]; omega
        clear h4
        go_wp2_with (first | ((with_reducible apply wpl_load_mid xb (xo + k * 2) [.int .u8 kd, .int .i64 B]); exact rfl; exact hro; exact Try.underlying44; exact rfl; exact sizeSop; try (simp only [Act.put, List.setIfInBounds_toArray, List.set_cons_zero, List.set_cons_succ])) | ((with_reducible apply wpl_store_new); exact rfl; exact rfl; exact sizeSop; exact rfl; exact rfl; try (simp only [Act.put, List.setIfInBounds_toArray, List.set_cons_zero, List.set_cons_succ])))
        try rw [Hob.out.2.2.1]
        generalize wr.alloc (.cells #[.int .u8 kd, .int .i64 B] 44) = w4 at *
        clear hro
        have HS : w4.drew.cell? ⟨ab, 1, none⟩ = some (.int .i64 B) := Hob.out.2.1.cell 1
        refine wp_region_planD (fun u => u.cell? ⟨ab, 1, none⟩ = some (.int .i64 B)) 9 [(0, true), (1, true), (2, true), (4, true), (5, true), (6, true), (3, false), (7, false), (8, true)] (by kernel_rfl) (by kernel_rfl) (fun d _ _ _ _ h => by cases d <;> exact h) HS ?_
        iterate 6 (first | (apply planD_held rfl rfl rfl (by simp) HS; (intro w' hS K hK; go_simp; exact hK)) | (apply planD_wanted rfl rfl rfl (by simp) HS; (intro w' hS K hK; go_simp; exact hK)))
        refine planD_op rfl rfl (fun K hK => ?_)
        go_simp
        have HPd := Lib.hid (HP4.out.step ((Upd.refl (fun _ => False) w4).drew))
        refine (mfree_ok HPd.out.map (by omega) B).mono ?_
        rintro e w5 ⟨r1, rfl, hp⟩
        dsimp only
        have HS5 : w5.cell? ⟨ab, 1, none⟩ = some (.int .i64 B) := hp.foot.cell_some HS Hob.out.1
        refine hK _ _ _ (fun u h => h) (fun _ => HS5) ?_
        clear hK
        try (simp only [Act.put, List.setIfInBounds_toArray, List.set_cons_zero, List.set_cons_succ])
        refine planD_op rfl rfl (fun K hK => ?_)
        go_simp
        refine (rfree_ok (HPd.out.ref1 hp.foot) (by omega) B).mono ?_
        rintro e w6 ⟨r2, rfl, hq⟩
        dsimp only
        obtain ⟨rfl, now', HP6⟩ := HPd.out.free (by omega) hp hq
        have HP6 := Lib.hid HP6
        have HS6 : w6.cell? ⟨ab, 1, none⟩ = some (.int .i64 B) := hq.foot.cell_some HS5 Hob.out.2.2.2
        refine hK _ _ _ (fun u h => h) (fun _ => HS6) ?_
        clear hK hp hq HS5 HS HPd HP4
        try (simp only [Act.put, List.setIfInBounds_toArray, List.set_cons_zero, List.set_cons_succ])
        iterate 1 (first | (apply planD_held rfl rfl rfl (by simp) HS6; (intro w' hS K hK; go_simp; exact hK)) | (apply planD_wanted rfl rfl rfl (by simp) HS6; (intro w' hS K hK; go_simp; exact hK)))
        refine planD_nil ?_
        have hus := mused_ok HP6.out.map
        have hru := rused_ok HP6.out.ref (by omega)
        rw [used_N HP6.out.map.l1 (by omega) HP6.out.good.2.2] at hus
        obtain ⟨u, hu⟩ : ∃ u, cnt (hasB now') N = u := ⟨_, rfl⟩
        rw [hu] at hus hru
        have Hus := Lib.hid (And.intro hus hru)
        clear hus hru hu
        go_wp2_with fail
        refine Hus.out.1.mono ?_
        rintro e w9 ⟨rfl, rfl⟩
        dsimp only
        go_wp2_with fail
        refine Hus.out.2.mono ?_
        rintro e w9 ⟨rfl, rfl⟩
        dsimp only
        clear Hus
        go_wp2_with fail
        exact ⟨⟨k + 1, _, _, _, _, _, _, _, _, _, by omega, rfl, rfl, rfl, by go_num, HP6⟩, by simp [intOf]; omega⟩
      · have q0 : (kd : Int) % 4 = 2 := by omega
        have q1 : (kd : Int).tmod 4 = 2 := by rw [Int.tmod_eq_emod_of_nonneg (by omega)]; omega
        clear h4
        rcases Int.lt_or_le B 0 with hneg | hpos
        · skip
          go_wp2_with (first | ((with_reducible apply wpl_load_mid xb (xo + k * 2) [.int .u8 kd, .int .i64 B]); exact rfl; exact hro; exact Try.underlying44; exact rfl; exact sizeSop; try (simp only [Act.put, List.setIfInBounds_toArray, List.set_cons_zero, List.set_cons_succ])) | ((with_reducible apply wpl_store_new); exact rfl; exact rfl; exact sizeSop; exact rfl; exact rfl; try (simp only [Act.put, List.setIfInBounds_toArray, List.set_cons_zero, List.set_cons_succ])))
          try rw [Hob.out.2.2.1]
          generalize wr.alloc (.cells #[.int .u8 kd, .int .i64 B] 44) = w4 at *
          clear hro
          have e1 : decide (B ≥ 0) = false := by simp; omega
          have e2 : decide (0 ≤ B) = false := by simp; omega
          have hM : hasM N now B = false := by simp [hasM]; omega
          have hh := mhas_ok (HP4.out.step ((Upd.refl (fun _ => False) w4).drew)).map (by omega) B
          rw [hM] at hh
          have Hh := Lib.hid hh
          clear hh hM
          have HS : w4.drew.cell? ⟨ab, 1, none⟩ = some (.int .i64 B) ∧ w4.drew.cell? ⟨rb, 0, none⟩ = some (.slice (some ⟨nb, 0, none⟩) N nc) := ⟨Hob.out.2.1.cell 1, HP4.out.ref.cells.cell 0⟩
          refine wp_region_planD (fun u => u.cell? ⟨ab, 1, none⟩ = some (.int .i64 B) ∧ u.cell? ⟨rb, 0, none⟩ = some (.slice (some ⟨nb, 0, none⟩) N nc)) 24 [(0, true), (1, true), (2, true), (4, true), (5, true), (6, true), (3, false), (7, true), (8, true), (9, true), (10, true), (11, true), (12, true), (13, true), (14, true), (15, true), (16, true), (17, true), (18, true), (19, true), (20, true), (21, true), (22, true), (23, true)] (by kernel_rfl) (by kernel_rfl) (fun d _ _ _ _ h => by cases d <;> exact h) HS ?_
          iterate 6 (first | (apply planD_held rfl rfl rfl (by simp) HS; (intro w' hS K hK; go_simp; exact hK)) | (apply planD_wanted rfl rfl rfl (by simp) HS; (intro w' hS K hK; go_simp; exact hK)))
          refine planD_op rfl rfl (fun K hK => ?_)
          go_simp
          refine Hh.out.mono ?_
          rintro e w5 ⟨rfl, rfl⟩
          dsimp only
          refine hK _ _ _ (fun u h => h) (fun _ => HS) ?_
          clear hK
          try (simp only [Act.put, List.setIfInBounds_toArray, List.set_cons_zero, List.set_cons_succ])
          iterate 1 (first | (apply planD_held rfl rfl rfl (by simp) HS; (intro w' hS K hK; go_simp; exact hK)) | (apply planD_wanted rfl rfl rfl (by simp) HS; (intro w' hS K hK; go_simp; exact hK)))
          iterate 4 (refine planD_skipd rfl rfl (by kernel_rfl) ?_; simp only [Act.put, List.setIfInBounds_toArray, List.set_cons_zero, List.set_cons_succ])
          iterate 2 (first | (apply planD_held rfl rfl rfl (by simp) HS; (intro w' hS K hK; go_simp; exact hK)) | (apply planD_wanted rfl rfl rfl (by simp) HS; (intro w' hS K hK; go_simp; exact hK)))
          iterate 8 (refine planD_skipd rfl rfl (by kernel_rfl) ?_; simp only [Act.put, List.setIfInBounds_toArray, List.set_cons_zero, List.set_cons_succ])
          iterate 2 (first | (apply planD_held rfl rfl rfl (by simp) HS; (intro w' hS K hK; go_simp; exact hK)) | (apply planD_wanted rfl rfl rfl (by simp) HS; (intro w' hS K hK; go_simp; exact hK)))
          refine planD_nil ?_
          have HP6 := Lib.hid (HP4.out.step ((Upd.refl (fun _ => False) w4).drew))
          clear HS HP4 Hh
          have hus := mused_ok HP6.out.map
          have hru := rused_ok HP6.out.ref (by omega)
          rw [used_N HP6.out.map.l1 (by omega) HP6.out.good.2.2] at hus
          obtain ⟨u, hu⟩ : ∃ u, cnt (hasB now) N = u := ⟨_, rfl⟩
          rw [hu] at hus hru
          have Hus := Lib.hid (And.intro hus hru)
          clear hus hru hu
          go_wp2_with fail
          refine Hus.out.1.mono ?_
          rintro e w9 ⟨rfl, rfl⟩
          dsimp only
          go_wp2_with fail
          refine Hus.out.2.mono ?_
          rintro e w9 ⟨rfl, rfl⟩
          dsimp only
          clear Hus
          go_wp2_with fail
          exact ⟨⟨k + 1, _, _, _, _, _, _, _, _, _, by omega, rfl, rfl, rfl, by go_num, HP6⟩, by simp [intOf]; omega⟩
        obtain ⟨j, rfl⟩ : ∃ j : Nat, B = j := ⟨B.toNat, by omega⟩
        rcases Nat.lt_or_ge j N with hjN | hjN
        · skip
          go_wp2_with (first | ((with_reducible apply wpl_load_mid xb (xo + k * 2) [.int .u8 kd, .int .i64 (j : Int)]); exact rfl; exact hro; exact Try.underlying44; exact rfl; exact sizeSop; try (simp only [Act.put, List.setIfInBounds_toArray, List.set_cons_zero, List.set_cons_succ])) | ((with_reducible apply wpl_store_new); exact rfl; exact rfl; exact sizeSop; exact rfl; exact rfl; try (simp only [Act.put, List.setIfInBounds_toArray, List.set_cons_zero, List.set_cons_succ])))
          try rw [Hob.out.2.2.1]
          generalize wr.alloc (.cells #[.int .u8 kd, .int .i64 (j : Int)] 44) = w4 at *
          clear hro
          have e1 : decide ((j : Int) ≥ 0) = true := by simp
          have e2 : decide ((j : Int) < (N : Int)) = true := by simp; omega
          have hjI : (j : Int) < (N : Int) := by omega
          have hM : hasM N now (j : Int) = hasB now j := by simp [hasM]; omega
          obtain ⟨v, hv⟩ : ∃ v, hasB now j = v := ⟨_, rfl⟩
          rw [hv] at hM
          have d0 := HP4.out.ref.nowc j hjN
          rw [hv] at d0
          clear hv
          have hh := mhas_ok (HP4.out.step ((Upd.refl (fun _ => False) w4).drew)).map (by omega) (j : Int)
          rw [hM] at hh
          have Hh := Lib.hid hh
          clear hh hM
          have HS : w4.drew.cell? ⟨ab, 1, none⟩ = some (.int .i64 (j : Int)) ∧ w4.drew.cell? ⟨rb, 0, none⟩ = some (.slice (some ⟨nb, 0, none⟩) N nc) ∧ w4.drew.cell? ⟨nb, j, none⟩ = some (.bool v) := ⟨Hob.out.2.1.cell 1, HP4.out.ref.cells.cell 0, d0⟩
          refine wp_region_planD (fun u => u.cell? ⟨ab, 1, none⟩ = some (.int .i64 (j : Int)) ∧ u.cell? ⟨rb, 0, none⟩ = some (.slice (some ⟨nb, 0, none⟩) N nc) ∧ u.cell? ⟨nb, j, none⟩ = some (.bool v)) 24 [(0, true), (1, true), (2, true), (4, true), (5, true), (6, true), (3, false), (7, true), (8, true), (9, true), (10, true), (11, true), (12, true), (13, true), (14, true), (15, true), (16, true), (17, true), (18, true), (19, true), (20, true), (21, true), (22, true), (23, true)] (by kernel_rfl) (by kernel_rfl) (fun d _ _ _ _ h => by cases d <;> exact h) HS ?_
          iterate 6 (first | (apply planD_held rfl rfl rfl (by simp) HS; (intro w' hS K hK; go_simp; exact hK)) | (apply planD_wanted rfl rfl rfl (by simp) HS; (intro w' hS K hK; go_simp; exact hK)))
          refine planD_op rfl rfl (fun K hK => ?_)
          go_simp
          refine Hh.out.mono ?_
          rintro e w5 ⟨rfl, rfl⟩
          dsimp only
          refine hK _ _ _ (fun u h => h) (fun _ => HS) ?_
          clear hK
          try (simp only [Act.put, List.setIfInBounds_toArray, List.set_cons_zero, List.set_cons_succ])
          iterate 17 (first | (apply planD_held rfl rfl rfl (by simp) HS; (intro w' hS K hK; go_simp; exact hK)) | (apply planD_wanted rfl rfl rfl (by simp) HS; (intro w' hS K hK; go_simp; exact hK)))
          refine planD_nil ?_
          have HP6 := Lib.hid (HP4.out.step ((Upd.refl (fun _ => False) w4).drew))
          clear HS HP4 Hh
          have hus := mused_ok HP6.out.map
          have hru := rused_ok HP6.out.ref (by omega)
          rw [used_N HP6.out.map.l1 (by omega) HP6.out.good.2.2] at hus
          obtain ⟨u, hu⟩ : ∃ u, cnt (hasB now) N = u := ⟨_, rfl⟩
          rw [hu] at hus hru
          have Hus := Lib.hid (And.intro hus hru)
          clear hus hru hu d0
          go_wp2_with fail
          refine Hus.out.1.mono ?_
          rintro e w9 ⟨rfl, rfl⟩
          dsimp only
          go_wp2_with fail
          refine Hus.out.2.mono ?_
          rintro e w9 ⟨rfl, rfl⟩
          dsimp only
          clear Hus
          go_wp2_with fail
          exact ⟨⟨k + 1, _, _, _, _, _, _, _, _, _, by omega, rfl, rfl, rfl, by go_num, HP6⟩, by simp [intOf]; omega⟩
        · skip
          go_wp2_with (first | ((with_reducible apply wpl_load_mid xb (xo + k * 2) [.int .u8 kd, .int .i64 (j : Int)]); exact rfl; exact hro; exact Try.underlying44; exact rfl; exact sizeSop; try (simp only [Act.put, List.setIfInBounds_toArray, List.set_cons_zero, List.set_cons_succ])) | ((with_reducible apply wpl_store_new); exact rfl; exact rfl; exact sizeSop; exact rfl; exact rfl; try (simp only [Act.put, List.setIfInBounds_toArray, List.set_cons_zero, List.set_cons_succ])))
          try rw [Hob.out.2.2.1]
          generalize wr.alloc (.cells #[.int .u8 kd, .int .i64 (j : Int)] 44) = w4 at *
          clear hro
          have e1 : decide ((j : Int) ≥ 0) = true := by simp
          have e2 : decide ((j : Int) < (N : Int)) = false := by simp; omega
          have e3 : decide (j < N) = false := by simp; omega
          have hM : hasM N now (j : Int) = false := by simp [hasM]; omega
          have hh := mhas_ok (HP4.out.step ((Upd.refl (fun _ => False) w4).drew)).map (by omega) (j : Int)
          rw [hM] at hh
          have Hh := Lib.hid hh
          clear hh hM
          have HS : w4.drew.cell? ⟨ab, 1, none⟩ = some (.int .i64 (j : Int)) ∧ w4.drew.cell? ⟨rb, 0, none⟩ = some (.slice (some ⟨nb, 0, none⟩) N nc) := ⟨Hob.out.2.1.cell 1, HP4.out.ref.cells.cell 0⟩
          refine wp_region_planD (fun u => u.cell? ⟨ab, 1, none⟩ = some (.int .i64 (j : Int)) ∧ u.cell? ⟨rb, 0, none⟩ = some (.slice (some ⟨nb, 0, none⟩) N nc)) 24 [(0, true), (1, true), (2, true), (4, true), (5, true), (6, true), (3, false), (7, true), (8, true), (9, true), (10, true), (11, true), (12, true), (13, true), (14, true), (15, true), (16, true), (17, true), (18, true), (19, true), (20, true), (21, true), (22, true), (23, true)] (by kernel_rfl) (by kernel_rfl) (fun d _ _ _ _ h => by cases d <;> exact h) HS ?_
          iterate 6 (first | (apply planD_held rfl rfl rfl (by simp) HS; (intro w' hS K hK; go_simp; exact hK)) | (apply planD_wanted rfl rfl rfl (by simp) HS; (intro w' hS K hK; go_simp; exact hK)))
          refine planD_op rfl rfl (fun K hK => ?_)
          go_simp
          refine Hh.out.mono ?_
          rintro e w5 ⟨rfl, rfl⟩
          dsimp only
          refine hK _ _ _ (fun u h => h) (fun _ => HS) ?_
          clear hK
          try (simp only [Act.put, List.setIfInBounds_toArray, List.set_cons_zero, List.set_cons_succ])
          iterate 7 (first | (apply planD_held rfl rfl rfl (by simp) HS; (intro w' hS K hK; go_simp; exact hK)) | (apply planD_wanted rfl rfl rfl (by simp) HS; (intro w' hS K hK; go_simp; exact hK)))
          iterate 8 (refine planD_skipd rfl rfl (by kernel_rfl) ?_; simp only [Act.put, List.setIfInBounds_toArray, List.set_cons_zero, List.set_cons_succ])
          iterate 2 (first | (apply planD_held rfl rfl rfl (by simp) HS; (intro w' hS K hK; go_simp; exact hK)) | (apply planD_wanted rfl rfl rfl (by simp) HS; (intro w' hS K hK; go_simp; exact hK)))
          refine planD_nil ?_
          have HP6 := Lib.hid (HP4.out.step ((Upd.refl (fun _ => False) w4).drew))
          clear HS HP4 Hh
          have hus := mused_ok HP6.out.map
          have hru := rused_ok HP6.out.ref (by omega)
          rw [used_N HP6.out.map.l1 (by omega) HP6.out.good.2.2] at hus
          obtain ⟨u, hu⟩ : ∃ u, cnt (hasB now) N = u := ⟨_, rfl⟩
          rw [hu] at hus hru
          have Hus := Lib.hid (And.intro hus hru)
          clear hus hru hu
          go_wp2_with fail
          refine Hus.out.1.mono ?_
          rintro e w9 ⟨rfl, rfl⟩
          dsimp only
          go_wp2_with fail
          refine Hus.out.2.mono ?_
          rintro e w9 ⟨rfl, rfl⟩
          dsimp only
          clear Hus
          go_wp2_with fail
          exact ⟨⟨k + 1, _, _, _, _, _, _, _, _, _, by omega, rfl, rfl, rfl, by go_num, HP6⟩, by simp [intOf]; omega⟩
      · have q0 : (kd : Int) % 4 = 3 := by omega
        have q1 : (kd : Int).tmod 4 = 3 := by rw [Int.tmod_eq_emod_of_nonneg (by omega)]; omega
        clear h4
        go_wp2_with (first | ((with_reducible apply wpl_load_mid xb (xo + k * 2) [.int .u8 kd, .int .i64 B]); exact rfl; exact hro; exact Try.underlying44; exact rfl; exact sizeSop; try (simp only [Act.put, List.setIfInBounds_toArray, List.set_cons_zero, List.set_cons_succ])) | ((with_reducible apply wpl_store_new); exact rfl; exact rfl; exact sizeSop; exact rfl; exact rfl; try (simp only [Act.put, List.setIfInBounds_toArray, List.set_cons_zero, List.set_cons_succ])))
        try rw [Hob.out.2.2.1]
        generalize wr.alloc (.cells #[.int .u8 kd, .int .i64 B] 44) = w4 at *
        clear hro
        refine (store_ok HP4.out.tx (by omega) HP4.out.map).mono ?_
        rintro e w5 ⟨rfl, hT5, hu5⟩
        dsimp only
        rw [pad_id HP4.out.map.l1] at hT5
        have HP5 := Lib.hid (HP4.out.stored hT5 hu5)
        clear hT5 hu5 HP4
        go_wp2_with fail
        refine (txread_dirty HP5.out.tx 0 (by decide) (by omega) now (look_putB _ _ _) HP5.out.map.l1).mono ?_
        rintro e w6 ⟨g, rfl, hg, hcg, hu6⟩
        dsimp only
        have HP6 := Lib.hid (HP5.out.step hu6)
        have hse : Sees w6 1 (.slice (some ⟨g, 0, none⟩) 512 512) now.length (bvs now) := by
          have h1 := Sees.at (w := w6) (size := 1) (n := 512) (c := 512) (xs := bvs now) (b := g) (off := 0) (by rw [bvs_length, HP5.out.map.l1]) (by decide) hcg.range
          rw [HP5.out.map.l1]
          exact h1
        clear hg hcg hu6 HP5
        go_wp2_with fail
        have HS : Sees w6.drew 1 (.slice (some ⟨g, 0, none⟩) 512 512) now.length (bvs now) := hse.upd ((Upd.refl (fun _ => False) w6).drew) (fun _ _ _ h => h)
        refine wp_region_planD (fun u => Sees u 1 (.slice (some ⟨g, 0, none⟩) 512 512) now.length (bvs now)) 9 [(0, true), (1, true), (2, true), (3, true), (4, true), (5, true), (6, false), (7, true), (8, true)] (by kernel_rfl) (by kernel_rfl) (fun d _ _ _ _ h => by cases d <;> exact h) HS ?_
        iterate 4 (first | (apply planD_held rfl rfl rfl (by simp) HS; (intro w' hS K hK; go_simp; exact hK)) | (apply planD_wanted rfl rfl rfl (by simp) HS; (intro w' hS K hK; go_simp; exact hK)))
        (apply planD_wanted rfl rfl rfl (by simp) HS; (intro w' hS K hK; exact gives_bytes_stringG 5 _ now Try.underlying51 Try.underlying5 Try.underlying9 rfl hS hK))
        try (simp only [Act.put, List.setIfInBounds_toArray, List.set_cons_zero, List.set_cons_succ])
        iterate 1 (first | (apply planD_held rfl rfl rfl (by simp) HS; (intro w' hS K hK; go_simp; exact hK)) | (apply planD_wanted rfl rfl rfl (by simp) HS; (intro w' hS K hK; go_simp; exact hK)))
        refine planD_op rfl rfl (fun K hK => ?_)
        go_simp
        have HP7 := Lib.hid (HP6.out.step ((Upd.refl (fun _ => False) w6).drew))
        refine (rbytes_ok HP7.out.ref (by omega) now HP7.out.map.l1 (fun c _ => rfl) HP7.out.good.2.2).mono ?_
        rintro e w7 ⟨rfl, hu7⟩
        dsimp only
        have HS7 := HS.upd hu7 (fun _ _ _ h => h)
        refine hK _ _ _ (fun u h => h) (fun _ => HS7) ?_
        clear hK
        try (simp only [Act.put, List.setIfInBounds_toArray, List.set_cons_zero, List.set_cons_succ])
        iterate 2 (first | (apply planD_held rfl rfl rfl (by simp) HS7; (intro w' hS K hK; go_simp; exact hK)) | (apply planD_wanted rfl rfl rfl (by simp) HS7; (intro w' hS K hK; go_simp; exact hK)))
        refine planD_nil ?_
        have HP8 := Lib.hid (HP7.out.step hu7)
        clear hu7 HS HS7 HP7 HP6 hse
        go_wp2_with fail
        refine (spload_ok HP8.out.tx (by omega) now (look_putB _ _ _) HP8.out.map.l1 N hN2 (by omega)).mono ?_
        rintro e w8 ⟨p, r, rfl, hp⟩
        obtain ⟨_, m2, rfl, rfl, hm, hM, hu8⟩ := Or.resolve_right hp (fun h => h.1 HP8.out.good)
        dsimp only
        have H8 := Lib.hid (And.intro hm (And.intro hM hu8))
        clear hp hm hM hu8
        go_wp2_with fail
        refine (ragain_ok (HP8.out.ref.upd H8.out.2.2 (fun _ _ h => h)) (by omega) (by omega)).mono ?_
        rintro e w9 ⟨rb2, rfl, hA⟩
        dsimp only
        obtain ⟨nb2, ob2, nc2, oc2, hA⟩ := hA
        have HP6 := Lib.hid (HP8.out.again H8.out.2.1 H8.out.1 H8.out.2.2 hA)
        clear hA H8 HP8
        have hus := mused_ok HP6.out.map
        have hru := rused_ok HP6.out.ref (by omega)
        rw [used_N HP6.out.map.l1 (by omega) HP6.out.good.2.2] at hus
        obtain ⟨u, hu⟩ : ∃ u, cnt (hasB now) N = u := ⟨_, rfl⟩
        rw [hu] at hus hru
        have Hus := Lib.hid (And.intro hus hru)
        clear hus hru hu
        go_wp2_with fail
        refine Hus.out.1.mono ?_
        rintro e w9 ⟨rfl, rfl⟩
        dsimp only
        go_wp2_with fail
        refine Hus.out.2.mono ?_
        rintro e w9 ⟨rfl, rfl⟩
        dsimp only
        clear Hus
        go_wp2_with fail
        exact ⟨⟨k + 1, _, _, _, _, _, _, _, _, _, by omega, rfl, rfl, rfl, by go_num, HP6⟩, by simp [intOf]; omega⟩
    · obtain rfl : k = M := by omega
      clear hlt
      go_wp2_with fail
      go_ret
      exact ⟨rfl, HP.out.upd.below0⟩
end Go.Proofs.Ytndhcimepgcfaaa

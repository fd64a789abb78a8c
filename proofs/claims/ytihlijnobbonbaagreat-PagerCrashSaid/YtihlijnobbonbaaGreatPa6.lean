/- Package pager: Sync; Begin of one that is dead or busy; Make. -/
import Derived.Test.YtihlijnobbonbaaGreatPa5
namespace Go.Proofs.YtihlijnobbonbaaGreat
open Go Go.RowKit
set_option linter.unusedSimpArgs false
set_option linter.unusedVariables false
set_option maxRecDepth 100000

/-- What a pager's Sync leaves. -/
def PSyn (w : World) (pb db lb fb skip N T : Nat) (ot : Option Addr) (L : LSt) (D : DSt) (cs : List Img) (F : Nat → Prop) (r : Int) (w' : World) : Prop :=
  ∃ (L' : LSt) (D' : DSt) (F' : Nat → Prop) (es' : Img), PgAt w' pb db lb fb skip ot (decide (r ≠ 0)) L' D' es' F' ∧ Fut w w' (ownP pb fb F) (ownP pb fb F') ∧
    ((r = 0 ∧ PInv L' D' skip N T cs es' ∧ L'.synced = cs.length ∧ (D.fuel < 0 → D'.fuel = D.fuel)) ∨
     (r = 10 ∧ D'.dead = true ∧ SafeP D' skip N cs L'.synced ∧ L'.synced = L.synced ∧ 0 ≤ D.fuel))
set_option maxHeartbeats 4000000 in
theorem ppsync_ok {w : World} {pb db lb fb skip N T : Nat} {ot : Option Addr} {L : LSt} {D : DSt} {es : Img} {cs : List Img} {F : Nat → Prop} (h : PgAt w pb db lb fb skip ot false L D es F) (hi : PInv L D skip N T cs es) (hsk : skip ≤ 4096) :
    Calls Tryz.prog 22 #[.pointer (some ⟨pb, 0, none⟩)] w fun e w' => ∃ r, e = .returned (.int .i64 r) ∧ PSyn w pb db lb fb skip N T ot L D cs F r w' := by
  obtain ⟨sy, hsy⟩ : ∃ sy, L.synced = sy := ⟨_, rfl⟩
  obtain ⟨la, hla⟩ : ∃ la, cs.length = la := ⟨_, rfl⟩
  have hlast : L.last = la := by rw [hi.inv.last, List.length_map, hla]
  have hwl : D.waits.length < 99999999990 := by have := hi.wl; have := hi.inv.ok.used; have := hi.n; omega
  have H := Lib.hid (And.intro h (And.intro hi (And.intro hsy (And.intro hla (And.intro hlast hwl)))))
  have c6 := h.pg.cell 6
  have c1 := h.pg.cell 1
  simp only [pgD, List.getElem?_cons_zero, List.getElem?_cons_succ] at c6 c1
  have hu := (Upd.refl (fun _ => False) w).drew
  have h1 := h.upd hu (fun _ _ h => h)
  have hS : Hid (Calls Tryz.prog 51 #[.pointer (some ⟨lb, 0, none⟩)] w.drew fun e w' => e = .returned (.int .i64 (sy : Nat)) ∧ w.drew = w') := by
    obtain ⟨lv, G, h0, h2, h3, _⟩ := h1.wal
    have h9 := synced_ok9 h2
    rw [hsy] at h9
    exact h9
  have hL : Hid (Calls Tryz.prog 40 #[.pointer (some ⟨lb, 0, none⟩)] w.drew fun e w' => e = .returned (.int .i64 (la : Nat)) ∧ w.drew = w') := by
    obtain ⟨lv, G, h0, h2, h3, _⟩ := h1.wal
    have h9 := last_ok9 h2
    rw [hlast] at h9
    exact h9
  have hdd : Hid (Calls Tryz.prog 36 #[.pointer (some ⟨db, 0, none⟩)] w.drew fun e w' => e = .returned (.bool false) ∧ w.drew = w') := by
    obtain ⟨G, hG, _⟩ := h1.wal.disk
    have h9 := dead_disk hG
    rw [hi.inv.live] at h9
    exact h9
  have hsyn := sync_ok h1.wal hwl
  have hps := psync hi.pre
  obtain ⟨r1, hr1⟩ : ∃ r1, (L.sync D).2.2 = r1 := ⟨_, rfl⟩
  obtain ⟨L1, hL1⟩ : ∃ L1, (L.sync D).1 = L1 := ⟨_, rfl⟩
  obtain ⟨D1, hD1⟩ : ∃ D1, (L.sync D).2.1 = D1 := ⟨_, rfl⟩
  rw [hr1, hL1, hD1] at hps hsyn
  have Hsyn := Lib.hid (And.intro hsyn hps)
  have H1 := Lib.hid (And.intro h1 hu)
  have HS : w.drew.cell? ⟨pb, 0, none⟩ = some (.pointer (some ⟨db, 0, none⟩)) ∧ w.drew.cell? ⟨pb, 1, none⟩ = some (.pointer (some ⟨lb, 0, none⟩)) := ⟨h1.pg.cell 0, h1.pg.cell 1⟩
  clear h hi hsy hla hlast hwl hu h1 hsyn hps hr1 hL1 hD1
  by_cases hq : sy = la
  · subst hq
    go_enter Tryz.func22, Tryz.ntmps22
    go_wp2_with fail
    refine wp_region_planD (fun u => u.cell? ⟨pb, 0, none⟩ = some (.pointer (some ⟨db, 0, none⟩)) ∧ u.cell? ⟨pb, 1, none⟩ = some (.pointer (some ⟨lb, 0, none⟩))) 20 [(0, true), (1, true), (2, true), (3, true), (5, true), (6, true), (7, true), (8, true), (4, false), (9, false), (10, true), (11, true), (12, true), (13, true), (14, true), (15, true), (16, false), (17, true), (18, true), (19, true)] (by kernel_rfl) (by kernel_rfl) (fun d _ _ _ _ h => by cases d <;> exact h) HS ?_
    iterate 8 (first | (apply planD_held rfl rfl rfl (by simp) HS; (intro w' hS K hK; go_simp; exact hK)) | (apply planD_wanted rfl rfl rfl (by simp) HS; (intro w' hS K hK; go_simp; exact hK)))
    refine planD_op rfl rfl (fun K hK => ?_)
    go_simp
    refine hS.out.mono ?_
    rintro e w2 ⟨rfl, rfl⟩
    dsimp only
    refine hK _ _ _ (fun u h => h) (fun _ => HS) ?_
    clear hK
    try (simp only [Act.put, List.setIfInBounds_toArray, List.set_cons_zero, List.set_cons_succ])
    refine planD_op rfl rfl (fun K hK => ?_)
    go_simp
    refine hL.out.mono ?_
    rintro e w2 ⟨rfl, rfl⟩
    dsimp only
    refine hK _ _ _ (fun u h => h) (fun _ => HS) ?_
    clear hK
    try (simp only [Act.put, List.setIfInBounds_toArray, List.set_cons_zero, List.set_cons_succ])
    iterate 6 (first | (apply planD_held rfl rfl rfl (by simp) HS; (intro w' hS K hK; go_simp; exact hK)) | (apply planD_wanted rfl rfl rfl (by simp) HS; (intro w' hS K hK; go_simp; exact hK)))
    refine planD_op rfl rfl (fun K hK => ?_)
    go_simp
    refine hdd.out.mono ?_
    rintro e w2 ⟨rfl, rfl⟩
    dsimp only
    refine hK _ _ _ (fun u h => h) (fun _ => HS) ?_
    clear hK
    try (simp only [Act.put, List.setIfInBounds_toArray, List.set_cons_zero, List.set_cons_succ])
    iterate 3 (first | (apply planD_held rfl rfl rfl (by simp) HS; (intro w' hS K hK; go_simp; exact hK)) | (apply planD_wanted rfl rfl rfl (by simp) HS; (intro w' hS K hK; go_simp; exact hK)))
    refine planD_nil ?_
    go_wp2_with fail
    go_ret
    exact ⟨0, rfl, L, D, F, es, H1.out.1, Fut.quiet _ H1.out.2, .inl ⟨rfl, H.out.2.1, by rw [H.out.2.2.1, H.out.2.2.2.1], fun _ => rfl⟩⟩
  · have hqI : ((sy : Int) == (la : Int)) = false := by simp; omega
    have hqN : (sy == la) = false := by simp; omega
    go_enter Tryz.func22, Tryz.ntmps22
    go_wp2_with fail
    refine wp_region_planD (fun u => u.cell? ⟨pb, 0, none⟩ = some (.pointer (some ⟨db, 0, none⟩)) ∧ u.cell? ⟨pb, 1, none⟩ = some (.pointer (some ⟨lb, 0, none⟩))) 20 [(0, true), (1, true), (2, true), (3, true), (5, true), (6, true), (7, true), (8, true), (4, false), (9, false), (10, true), (11, true), (12, true), (13, true), (14, true), (15, true), (16, false), (17, true), (18, true), (19, true)] (by kernel_rfl) (by kernel_rfl) (fun d _ _ _ _ h => by cases d <;> exact h) HS ?_
    iterate 8 (first | (apply planD_held rfl rfl rfl (by simp) HS; (intro w' hS K hK; go_simp; exact hK)) | (apply planD_wanted rfl rfl rfl (by simp) HS; (intro w' hS K hK; go_simp; exact hK)))
    refine planD_op rfl rfl (fun K hK => ?_)
    go_simp
    refine hS.out.mono ?_
    rintro e w2 ⟨rfl, rfl⟩
    dsimp only
    refine hK _ _ _ (fun u h => h) (fun _ => HS) ?_
    clear hK
    try (simp only [Act.put, List.setIfInBounds_toArray, List.set_cons_zero, List.set_cons_succ])
    refine planD_op rfl rfl (fun K hK => ?_)
    go_simp
    refine hL.out.mono ?_
    rintro e w2 ⟨rfl, rfl⟩
    dsimp only
    refine hK _ _ _ (fun u h => h) (fun _ => HS) ?_
    clear hK
    try (simp only [Act.put, List.setIfInBounds_toArray, List.set_cons_zero, List.set_cons_succ])
    iterate 2 (first | (apply planD_held rfl rfl rfl (by simp) HS; (intro w' hS K hK; go_simp; exact hK)) | (apply planD_wanted rfl rfl rfl (by simp) HS; (intro w' hS K hK; go_simp; exact hK)))
    iterate 4 (refine planD_skipd rfl rfl (by kernel_rfl) ?_; simp only [Act.put, List.setIfInBounds_toArray, List.set_cons_zero, List.set_cons_succ])
    refine planD_not rfl rfl (by kernel_rfl) HS ?_
    simp only [Act.put, List.setIfInBounds_toArray, List.set_cons_zero, List.set_cons_succ]
    refine planD_skipd rfl rfl (by kernel_rfl) ?_
    simp only [Act.put, List.setIfInBounds_toArray, List.set_cons_zero, List.set_cons_succ]
    iterate 2 (first | (apply planD_held rfl rfl rfl (by simp) HS; (intro w' hS K hK; go_simp; exact hK)) | (apply planD_wanted rfl rfl rfl (by simp) HS; (intro w' hS K hK; go_simp; exact hK)))
    refine planD_nil ?_
    have c11 : w.drew.cell? ⟨pb, 1, none⟩ = some (.pointer (some ⟨lb, 0, none⟩)) := HS.2
    clear HS hS hL hdd
    go_wp2_with fail
    refine Hsyn.out.1.mono ?_
    rintro e w3 ⟨rfl, hw3⟩
    dsimp only
    have H3 : Hid (∃ F3, PgAt w3 pb db lb fb skip ot false L1 D1 es F3 ∧ Fut w w3 (ownP pb fb F) (ownP pb fb F3)) := by
      obtain ⟨F3, g1, g2⟩ := H1.out.1.step hw3
      exact ⟨F3, g1, (Fut.quiet _ H1.out.2).trans g2⟩
    obtain ⟨F3, H3⟩ := H3.out
    have H3 := Lib.hid H3
    have Hps := Lib.hid Hsyn.out.2
    clear hw3 Hsyn
    rcases Hps.out with ⟨rfl, hp⟩ | ⟨rfl, hp⟩
    · have HP := Lib.hid hp
      clear hp
      go_wp2_with fail
      refine (pfail_ok H3.out.1 0 (.inl rfl)).mono ?_
      rintro e w4 ⟨rfl, g1, g2⟩
      dsimp only
      have H4 := Lib.hid (And.intro g1 g2)
      clear g1 g2
      go_wp2_with fail
      go_ret
      refine ⟨0, rfl, L1, D1, F3, es, H4.out.1, H3.out.2.trans ⟨H4.out.2.mono (fun q _ hq => .inl hq), fun q hq => .inl hq⟩, .inl ⟨rfl, HP.out.2.1 H.out.2.1.home, by rw [HP.out.2.2.1], HP.out.2.2.2.2⟩⟩
    · have HP := Lib.hid hp
      clear hp
      go_wp2_with fail
      refine (pfail10 H3.out.1).mono ?_
      rintro e w4 ⟨rfl, g1, g2⟩
      dsimp only
      have H4 := Lib.hid (And.intro g1 g2)
      clear g1 g2
      go_wp2_with fail
      go_ret
      refine ⟨10, rfl, L1, D1, F3, es, H4.out.1, H3.out.2.trans H4.out.2, .inr ⟨rfl, HP.out.2.1, ?_, by rw [HP.out.1], HP.out.2.2.2⟩⟩
      rw [HP.out.1]
      exact HP.out.2.2.1
/-- Begin of one that is dead, or busy. -/
theorem pbegin_dead {w : World} {pb db lb fb skip : Nat} {ot : Option Addr} {L : LSt} {D : DSt} {es : Img} {F : Nat → Prop} (h : PgAt w pb db lb fb skip ot true L D es F) :
    Calls Tryz.prog 13 #[.pointer (some ⟨pb, 0, none⟩)] w fun e w' => e = .returned (.tuple #[.pointer none, .int .i64 10]) ∧ w = w' := by
  have c6 := h.pg.cell 6
  simp only [pgD, List.getElem?_cons_zero, List.getElem?_cons_succ] at c6
  clear h
  go_enter Tryz.func13, Tryz.ntmps13
  go_wp2_with fail
  go_ret2
  exact ⟨rfl, rfl⟩
theorem pbegin_busy {w : World} {pb db lb fb skip : Nat} {x : Addr} {L : LSt} {D : DSt} {es : Img} {F : Nat → Prop} (h : PgAt w pb db lb fb skip (some x) false L D es F) :
    Calls Tryz.prog 13 #[.pointer (some ⟨pb, 0, none⟩)] w fun e w' => e = .returned (.tuple #[.pointer none, .int .i64 6]) ∧ w = w' := by
  have c6 := h.pg.cell 6
  have c5 := h.pg.cell 5
  simp only [pgD, List.getElem?_cons_zero, List.getElem?_cons_succ] at c5 c6
  clear h
  go_enter Tryz.func13, Tryz.ntmps13
  go_wp2_with fail
  go_ret2
  exact ⟨rfl, rfl⟩
end Go.Proofs.YtihlijnobbonbaaGreat

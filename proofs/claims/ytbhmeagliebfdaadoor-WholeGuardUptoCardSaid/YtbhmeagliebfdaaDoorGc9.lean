/- cond: Submitted. -/
import Derived.Test.YtbhmeagliebfdaaDoorGc8
namespace Go.Proofs.YtbhmeagliebfdaaDoor
open Go Go.RowKit
set_option linter.unusedSimpArgs false
set_option linter.unusedVariables false
set_option maxRecDepth 100000
/-- Tokens that were gathered. -/
def SbR (w : World) (ox : Option Addr) (on oc : Nat) (out : List By) (bnd : Nat) (wr : World) : Prop :=
  Mid wr 1 (.slice ox on oc) on (strsV out) ∧ Whole wr 1 (.slice ox on oc) ∧ (∀ q, (Value.slice ox on oc).ownBlock = some q → w.heap.size ≤ q) ∧ Upd (fun _ => False) w wr ∧ out.length = on ∧ on ≤ bnd
theorem SbR.upd {w wr w' : World} {ox : Option Addr} {on oc : Nat} {out : List By} {bnd : Nat} (h : SbR w ox on oc out bnd wr) (hu : Upd (fun _ => False) wr w') : SbR w ox on oc out bnd w' :=
  ⟨h.1.upd hu (fun _ _ h => h), h.2.1.upd hu (fun _ _ h => h) h.1.lt, h.2.2.1, h.2.2.2.1.trans hu, h.2.2.2.2⟩
theorem SbR.mono {w wr : World} {ox : Option Addr} {on oc : Nat} {out : List By} {b b' : Nat} (h : SbR w ox on oc out b wr) (hb : b ≤ b') : SbR w ox on oc out b' wr :=
  ⟨h.1, h.2.1, h.2.2.1, h.2.2.2.1, h.2.2.2.2.1, Nat.le_trans h.2.2.2.2.2 hb⟩
def nConds (rs : List GrR) : Nat := (rs.map fun r => r.g.conds.length).sum
theorem nConds_take (rs : List GrR) (i : Nat) (hi : i < rs.length) : nConds (rs.take (i + 1)) = nConds (rs.take i) + rs[i].g.conds.length := by
  rw [nConds, nConds, List.take_succ_eq_append_getElem hi, List.map_append, List.sum_append]; simp
theorem nConds_le (rs : List GrR) (i : Nat) : nConds (rs.take i) ≤ nConds rs := by
  have : nConds rs = nConds (rs.take i) + nConds (rs.drop i) := by
    rw [nConds, nConds, nConds, ← List.sum_append, ← List.map_append, List.take_append_drop]
  omega
theorem foldl_take {α β : Type} (f : β → α → β) (b : β) (l : List α) (i : Nat) (hi : i < l.length) : (l.take (i + 1)).foldl f b = f ((l.take i).foldl f b) l[i] := by
  rw [List.take_succ_eq_append_getElem hi, List.foldl_append]; rfl
set_option maxHeartbeats 8000000 in
theorem subm_ok {w : World} {rs : List GrR} {gx : Option Addr} {gn gc : Nat} (hg : GroupsAt w gx gn gc rs) (htag : ∀ r ∈ rs, r.g.tag.length ≤ 100000000) (hnc : nConds rs ≤ 1000000000) {self : List By} {fs : List FctR} {y : Option Addr} {m d : Nat} {x : Option Addr} {n c : Nat} (h : HIn w self fs y m d x n c) :
    Calls Tryd.prog 11 #[.slice gx gn gc, .slice y m d, .slice x n c] w fun e w' =>
      ∃ (ox : Option Addr) (on oc : Nat), e = .returned (.slice ox on oc) ∧ Sees w' 1 (.slice ox on oc) on (strsV (submP (rs.map (·.g)) self (fs.map (·.f)))) ∧ Upd (fun _ => False) w w' := by
  have hl := hg.len
  have hgI : (gn : Int) ≤ 9223372036854775807 := by have := hg.1.2.1; unfold maxLen at this; omega
  obtain ⟨F, hF⟩ : ∃ F, addG self (fs.map (·.f)) = F := ⟨_, rfl⟩
  have hP : submP (rs.map (·.g)) self (fs.map (·.f)) = rs.foldl (fun o r => F o r.g) [] := by rw [submP, hF, List.foldl_map]
  have hFd : ∀ o g, F o g = if holdsP g (ofP g self (fs.map (·.f))) = true then g.conds.foldl addT o else o := fun o g => by rw [← hF]; rfl
  have H := Lib.hid (And.intro hg (And.intro htag (And.intro hnc (And.intro h (And.intro hl (And.intro hP hFd))))))
  clear hg htag hnc h hl hP hFd hF
  go_enter Tryd.func11, Tryd.ntmps11
  go_wp2_with fail
  go_loopw [7, 14] (fun ov iv wr => ∃ (i : Nat) (ox : Option Addr) (on oc : Nat), i ≤ gn ∧ ov = .slice ox on oc ∧ iv = .int .i64 i ∧ Hid (SbR w ox on oc ((rs.take i).foldl (fun o r => F o r.g) []) (nConds (rs.take i)) wr)) (fun _ iv _ => gn - (intOf iv).toNat)
  case atStart => exact ⟨0, none, 0, 0, Nat.zero_le _, rfl, rfl, Lib.hid ⟨Mid.nil _ _, Whole.nil _ _, (fun q hq => by cases hq), Upd.refl _ _, rfl, Nat.zero_le _⟩⟩
  case round =>
    obtain ⟨i, ox, on, oc, hi, rfl, rfl, HR⟩ := hrel
    by_cases hlt : i < gn
    · have hltI : (i : Int) < (gn : Int) := by omega
      have hil : i < rs.length := by rw [H.out.2.2.2.2.1]; exact hlt
      have huw := HR.out.2.2.2.1
      obtain ⟨g, o, rfl, hrg, hgr⟩ := (H.out.1.upd huw).at i hil
      have t1 := foldl_take (fun o (r : GrR) => F o r.g) [] rs i hil
      have t2 := nConds_take rs i hil
      have t3 := nConds_le rs (i + 1)
      have hmem : rs[i] ∈ rs := List.getElem_mem hil
      obtain ⟨⟨gg, rx, rn, rc⟩, hr⟩ : ∃ r, rs[i] = r := ⟨_, rfl⟩
      rw [hr] at hrg hgr t2 hmem
      simp only [hr] at t1
      rw [H.out.2.2.2.2.2.2] at t1
      have hal : Upd (fun _ => False) wr (wr.alloc (.cells (grV ⟨gg, rx, rn, rc⟩).toArray 42)) := (Upd.refl _ wr).alloc _
      have hcs := CellsA.new wr 42 (grV ⟨gg, rx, rn, rc⟩)
      have h1k := one_ok ⟨gg, rx, rn, rc⟩ (H.out.2.2.2.1.upd (huw.trans hal.drew)) (hgr.upd hal.drew) (H.out.2.1 _ hmem)
      obtain ⟨B, hB⟩ : ∃ B, holdsP gg (ofP gg self (fs.map (·.f))) = B := ⟨_, rfl⟩
      rw [hB] at h1k t1
      obtain ⟨out0, ho0⟩ : ∃ o, (rs.take i).foldl (fun o (r : GrR) => F o r.g) [] = o := ⟨_, rfl⟩
      rw [ho0] at t1
      have hSb := HR.out
      rw [ho0] at hSb
      obtain ⟨b0, hb0⟩ : ∃ b, nConds (rs.take i) = b := ⟨_, rfl⟩
      rw [hb0] at hSb t2
      have H2 := Lib.hid (And.intro h1k (And.intro t1 (And.intro t2 (And.intro t3 (And.intro hal (And.intro hcs (And.intro (H.out.1.2 _ hmem) hSb)))))))
      have hrn : (wr.alloc (.cells (grV ⟨gg, rx, rn, rc⟩).toArray 42)).rangeAt wr.heap.size 0 (grV ⟨gg, rx, rn, rc⟩) := hcs.range
      clear h1k t1 t2 t3 hal hcs hSb hmem hr hgr hB ho0 hb0 HR huw
      simp only [grV] at hrg hrn H2
      go_wp2_with (first | ((with_reducible apply wpl_load_mid g (o + i * 3) [.bool gg.tagged, .string (bs gg.tag), .slice rx rn rc]); exact rfl; exact hrg; exact Tryd.underlying42; exact rfl; exact sizeGr; try (simp only [Act.put, List.setIfInBounds_toArray, List.set_cons_zero, List.set_cons_succ])) | ((with_reducible apply wpl_store_new); exact rfl; exact rfl; exact sizeGr; exact rfl; exact rfl; try (simp only [Act.put, List.setIfInBounds_toArray, List.set_cons_zero, List.set_cons_succ])))
      obtain ⟨w1, hw1⟩ : ∃ w1, wr.alloc (.cells #[.bool gg.tagged, .string (bs gg.tag), .slice rx rn rc] 42) = w1 := ⟨_, rfl⟩
      rw [hw1] at hrn H2 ⊢
      have HS : w1.drew.rangeAt wr.heap.size 0 [.bool gg.tagged, .string (bs gg.tag), .slice rx rn rc] := hrn
      clear hrn hrg
      refine wp_region_planD (fun u => u.rangeAt wr.heap.size 0 [.bool gg.tagged, .string (bs gg.tag), .slice rx rn rc]) 7 [(0, true), (1, true), (2, true), (3, true), (4, false), (5, false), (6, true)] (by kernel_rfl) (by kernel_rfl) (fun d _ _ _ _ h => by cases d <;> exact h) HS ?_
      apply planD_held rfl rfl rfl (by simp) HS
      · intro w' hS K hK
        exact gives_load_mid wr.heap.size 0 rfl [.bool gg.tagged, .string (bs gg.tag), .slice rx rn rc] _ hS Tryd.underlying42 rfl sizeGr hK
      try (simp only [Act.put, List.setIfInBounds_toArray, List.set_cons_zero, List.set_cons_succ])
      apply planD_held rfl rfl rfl (by simp) HS
      · intro w' hS K hK
        exact gives_load_mid wr.heap.size 0 rfl [.bool gg.tagged, .string (bs gg.tag), .slice rx rn rc] _ hS Tryd.underlying42 rfl sizeGr hK
      try (simp only [Act.put, List.setIfInBounds_toArray, List.set_cons_zero, List.set_cons_succ])
      iterate 2 (first | (apply planD_held rfl rfl rfl (by simp) HS; (intro w' hS K hK; go_simp; exact hK)) | (apply planD_wanted rfl rfl rfl (by simp) HS; (intro w' hS K hK; go_simp; exact hK)))
      refine planD_op rfl rfl (fun KK hK => ?_)
      go_simp
      refine H2.out.1.mono ?_
      rintro e w2 ⟨fr, rfl, hu2, hh⟩
      dsimp only
      refine hK _ _ _ (fun u h => h) (fun _ => hu2.range HS (fun h => h)) ?_
      clear hK
      try (simp only [Act.put, List.setIfInBounds_toArray, List.set_cons_zero, List.set_cons_succ])
      refine planD_op rfl rfl (fun KK hK => ?_)
      go_simp
      refine (hh w2 (Upd.refl _ _)).mono ?_
      rintro e w3 ⟨rfl, hu3⟩
      dsimp only
      have HS3 : w3.rangeAt wr.heap.size 0 [.bool gg.tagged, .string (bs gg.tag), .slice rx rn rc] := (hu2.trans hu3).range HS (fun h => h)
      refine hK _ _ _ (fun u h => h) (fun _ => HS3) ?_
      have HU : Hid (Upd (fun _ => False) wr w3) := Lib.hid ((H2.out.2.2.2.2.1.drew.trans hu2).trans hu3)
      clear hK HS hh hu2 hu3
      try (simp only [Act.put, List.setIfInBounds_toArray, List.set_cons_zero, List.set_cons_succ])
      iterate 1 (first | (apply planD_held rfl rfl rfl (by simp) HS3; (intro w' hS K hK; go_simp; exact hK)) | (apply planD_wanted rfl rfl rfl (by simp) HS3; (intro w' hS K hK; go_simp; exact hK)))
      refine planD_nil ?_
      have hc2 : w3.cell? ⟨wr.heap.size, 2, none⟩ = some (.slice rx rn rc) := HS3 2 _ rfl
      cases B
      · have HJ : Hid (SbR w ox on oc ((rs.take (i + 1)).foldl (fun o r => F o r.g) []) (nConds (rs.take (i + 1))) w3) := Lib.hid (by
          rw [H2.out.2.1, H2.out.2.2.1, if_neg (by decide)]
          exact (H2.out.2.2.2.2.2.2.2.upd HU.out).mono (Nat.le_add_right _ _))
        clear H2 HU HS3 hc2
        go_wp2_with fail
        exact ⟨⟨i + 1, ox, on, oc, by omega, rfl, by go_num, HJ⟩, by simp [intOf] <;> omega⟩
      · have hrl := H2.out.2.2.2.2.2.2.1.len
        dsimp only at hrl
        have hrI : (rn : Int) ≤ 9223372036854775807 := by have := H2.out.2.2.2.2.2.2.1.2.1; unfold maxLen at this; dsimp only at this; omega
        have HQ0 := Lib.hid (H2.out.2.2.2.2.2.2.2.upd HU.out)
        go_wp2_with fail
        go_loopw [7, 28] (fun ov jv wq => ∃ (j : Nat) (qx : Option Addr) (qn qc : Nat), j ≤ rn ∧ ov = .slice qx qn qc ∧ jv = .int .i64 j ∧ Hid (SbR w qx qn qc ((gg.conds.take j).foldl addT out0) (b0 + j) wq)) (fun _ jv _ => rn - (intOf jv).toNat)
        case atStart => exact ⟨0, ox, on, oc, Nat.zero_le _, rfl, rfl, HQ0⟩
        case round =>
          obtain ⟨j, qx, qn, qc, hj, rfl, rfl, HQ⟩ := hrel
          clear HQ0
          by_cases hlt2 : j < rn
          · have hltJ : (j : Int) < (rn : Int) := by omega
            have hjl : j < gg.conds.length := by rw [hrl]; exact hlt2
            obtain ⟨g2, o2, hx2, hrg2⟩ := GrOk.at (H2.out.2.2.2.2.2.2.1.upd HQ.out.2.2.2.1) j hjl
            dsimp only at hx2 hrg2
            subst hx2
            have hst := foldl_take addT out0 gg.conds j hjl
            have hqn : qn ≤ 999999999 := by have := HQ.out.2.2.2.2.2; have := H2.out.2.2.1; have := H2.out.2.2.2.1; have := H.out.2.2.1; omega
            obtain ⟨⟨nt, tok, et⟩, hc⟩ : ∃ c, gg.conds[j] = c := ⟨_, rfl⟩
            rw [hc] at hst hrg2
            obtain ⟨outj, hoj⟩ : ∃ l, (gg.conds.take j).foldl addT out0 = l := ⟨_, rfl⟩
            have hSq := HQ.out
            rw [hoj] at hst hSq
            simp only [cndV] at hrg2
            have hal3 : Upd (fun _ => False) wr (wr.alloc (.cells #[.bool nt, .string (bs tok), .string (bs et)] 44)) := (Upd.refl _ wr).alloc _
            have hcs3 := CellsA.new wr 44 [.bool nt, .string (bs tok), .string (bs et)]
            have hc0 := hcs3.cell 0
            have hc1 := hcs3.cell 1
            simp only [List.getElem?_cons_zero, List.getElem?_cons_succ] at hc0 hc1
            have hha := has_ok ((hSq.upd hal3).1.sees) tok
            have n1 := bs_nil_iff tok
            obtain ⟨S, hS⟩ : ∃ S, bs tok = S := ⟨_, rfl⟩
            rw [hS] at hrg2 hc0 hc1 hha n1 hal3
            have H3 := Lib.hid (And.intro hha (And.intro hal3 (And.intro hSq (And.intro hst (And.intro hS hqn)))))
            have hqI : (qn : Int) ≤ 999999999 := by omega
            clear hha hal3 hSq hst hS hqn hcs3 hc hoj HQ hjl
            by_cases ht0 : tok = []
            · rw [decide_eq_true ht0] at n1
              have HJ : Hid (SbR w qx qn qc ((gg.conds.take (j + 1)).foldl addT out0) (b0 + (j + 1)) (wr.alloc (.cells #[.bool nt, .string S, .string (bs et)] 44))) := Lib.hid (by
                rw [H3.out.2.2.2.1, addT, if_neg (fun h => h.1 ht0)]
                exact (H3.out.2.2.1.upd H3.out.2.1).mono (by omega))
              clear ht0 H3
              go_wp2_with (first | ((with_reducible apply wpl_load_mid g2 (o2 + j * 3) [.bool nt, .string S, .string (bs et)]); exact rfl; exact hrg2; exact Tryd.underlying44; exact rfl; exact sizeCnd; try (simp only [Act.put, List.setIfInBounds_toArray, List.set_cons_zero, List.set_cons_succ])) | ((with_reducible apply wpl_store_new); exact rfl; exact rfl; exact sizeCnd; exact rfl; exact rfl; try (simp only [Act.put, List.setIfInBounds_toArray, List.set_cons_zero, List.set_cons_succ])))
              exact ⟨⟨j + 1, qx, qn, qc, by omega, rfl, by go_num, HJ⟩, by simp [intOf] <;> omega⟩
            rw [decide_eq_false ht0] at n1
            cases nt
            rotate_left
            · have HJ : Hid (SbR w qx qn qc ((gg.conds.take (j + 1)).foldl addT out0) (b0 + (j + 1)) (wr.alloc (.cells #[.bool true, .string S, .string (bs et)] 44))) := Lib.hid (by
                rw [H3.out.2.2.2.1, addT, if_neg (fun h => by cases h.2.1)]
                exact (H3.out.2.2.1.upd H3.out.2.1).mono (by omega))
              clear ht0 H3
              go_wp2_with (first | ((with_reducible apply wpl_load_mid g2 (o2 + j * 3) [.bool true, .string S, .string (bs et)]); exact rfl; exact hrg2; exact Tryd.underlying44; exact rfl; exact sizeCnd; try (simp only [Act.put, List.setIfInBounds_toArray, List.set_cons_zero, List.set_cons_succ])) | ((with_reducible apply wpl_store_new); exact rfl; exact rfl; exact sizeCnd; exact rfl; exact rfl; try (simp only [Act.put, List.setIfInBounds_toArray, List.set_cons_zero, List.set_cons_succ])))
              exact ⟨⟨j + 1, qx, qn, qc, by omega, rfl, by go_num, HJ⟩, by simp [intOf] <;> omega⟩
            by_cases hin : tok ∈ outj
            · have HJ : Hid (SbR w qx qn qc ((gg.conds.take (j + 1)).foldl addT out0) (b0 + (j + 1)) (wr.alloc (.cells #[.bool false, .string S, .string (bs et)] 44))) := Lib.hid (by
                rw [H3.out.2.2.2.1, addT, if_neg (fun h => h.2.2 hin)]
                exact (H3.out.2.2.1.upd H3.out.2.1).mono (by omega))
              have H4 := Lib.hid H3.out.1
              rw [decide_eq_true hin] at H4
              clear ht0 H3 hin
              go_wp2_with (first | ((with_reducible apply wpl_load_mid g2 (o2 + j * 3) [.bool false, .string S, .string (bs et)]); exact rfl; exact hrg2; exact Tryd.underlying44; exact rfl; exact sizeCnd; try (simp only [Act.put, List.setIfInBounds_toArray, List.set_cons_zero, List.set_cons_succ])) | ((with_reducible apply wpl_store_new); exact rfl; exact rfl; exact sizeCnd; exact rfl; exact rfl; try (simp only [Act.put, List.setIfInBounds_toArray, List.set_cons_zero, List.set_cons_succ])))
              refine H4.out.mono ?_
              rintro e w5 ⟨rfl, rfl⟩
              dsimp only
              go_wp2_with fail
              exact ⟨⟨j + 1, qx, qn, qc, by omega, rfl, by go_num, HJ⟩, by simp [intOf] <;> omega⟩
            · have hadd : (gg.conds.take (j + 1)).foldl addT out0 = outj ++ [tok] := by
                rw [H3.out.2.2.2.1, addT, if_pos ⟨ht0, rfl, hin⟩]
              have H4 := Lib.hid (And.intro H3.out.1 (And.intro H3.out.2.1 (And.intro (H3.out.2.2.1.upd H3.out.2.1) (And.intro hadd H3.out.2.2.2.2.1))))
              rw [decide_eq_false hin] at H4
              clear ht0 H3 hin hadd
              go_wp2_with (first | ((with_reducible apply wpl_load_mid g2 (o2 + j * 3) [.bool false, .string S, .string (bs et)]); exact rfl; exact hrg2; exact Tryd.underlying44; exact rfl; exact sizeCnd; try (simp only [Act.put, List.setIfInBounds_toArray, List.set_cons_zero, List.set_cons_succ])) | ((with_reducible apply wpl_store_new); exact rfl; exact rfl; exact sizeCnd; exact rfl; exact rfl; try (simp only [Act.put, List.setIfInBounds_toArray, List.set_cons_zero, List.set_cons_succ])))
              refine H4.out.1.mono ?_
              rintro e w5 ⟨rfl, hw5⟩
              dsimp only
              rw [← hw5] at H4 hc0 hc1
              clear hw5
              go_wp2_with (at_builtin; refine wpl_append_whole 9 1 16 (.string .empty) (.slice qx qn qc) qn (strsV outj) 1 [.string S] ?c1 ?c2 ?c3 ?c4 ?c5 ?c6 ?c7 ?c8 ?c9 ?c10 ?_)
              try case c1 => exact Tryd.underlying23
              try case c2 => exact infoStr
              try case c3 => rfl
              try case c4 => rfl
              case c5 => exact H4.out.2.2.1.1.upd ((Upd.refl (fun _ => False) w5).alloc _) (fun _ _ h => h)
              case c6 => exact H4.out.2.2.1.2.1.upd ((Upd.refl (fun _ => False) w5).alloc _) (fun _ _ h => h) H4.out.2.2.1.1.lt
              case c7 => exact Sees.at rfl (by decide) (rangeAt_of_row (heap_alloc_new w5 (.cells ([.string S] : List Value).toArray 9)) rfl)
              try case c8 =>
                intro u hu
                rw [List.mem_singleton] at hu
                subst hu
                rfl
              try case c9 => unfold maxLen; omega
              try case c10 => omega
              intro x' c' w7 hm7 hu7 hb7 hW7
              try (simp only [Act.put, List.setIfInBounds_toArray, List.set_cons_zero, List.set_cons_succ])
              have HJ : Hid (SbR w x' (qn + 1) c' ((gg.conds.take (j + 1)).foldl addT out0) (b0 + (j + 1)) w7) := Lib.hid (by
                obtain ⟨-, -, ⟨k1, k2, k3, k4, k5, k6⟩, k7, k8⟩ := H4.out
                have hux : Upd (fun q => (Value.slice qx qn qc).ownBlock = some q) w5 w7 := (((Upd.refl (fun _ => False) w5).alloc _).mono (fun _ _ h => h.elim)).trans hu7
                have hz := k4.size
                refine ⟨by rw [k7, strsV_append, show strsV [tok] = [.string S] by rw [← k8]; rfl]; exact hm7, hW7, fun q hq => ?_, k4.then hux (fun q hq => .inr (k3 q hq)), by rw [k7, List.length_append, k5]; rfl, by omega⟩
                rcases hb7 with e | e
                · exact k3 q (e.symm.trans hq)
                · have e2 : q = _ := Option.some.inj (hq.symm.trans e)
                  rw [e2]
                  simp
                  omega)
              clear hm7 hu7 hb7 hW7 H4
              go_wp2_with fail
              exact ⟨⟨j + 1, x', qn + 1, c', by omega, by simp, by go_num, HJ⟩, by simp [intOf] <;> omega⟩
          · obtain rfl : j = rn := by omega
            have HJ : Hid (SbR w qx qn qc ((rs.take (i + 1)).foldl (fun o r => F o r.g) []) (nConds (rs.take (i + 1))) wr) := Lib.hid (by
              have hq := HQ.out
              rw [List.take_of_length_le (by rw [hrl]; exact Nat.le_refl _)] at hq
              rw [H2.out.2.1, H2.out.2.2.1, if_pos (by trivial)]
              try dsimp only
              rw [hrl]
              exact hq)
            clear H2 HQ HU HS3 hc2
            go_wp2_with fail
            exact ⟨⟨i + 1, qx, qn, qc, by omega, rfl, by go_num, HJ⟩, by simp [intOf] <;> omega⟩
    · obtain rfl : i = gn := by omega
      have hs := HR.out
      rw [List.take_of_length_le (by rw [H.out.2.2.2.2.1]; exact Nat.le_refl _)] at hs
      have hres : Hid (Sees wr 1 (.slice ox on oc) on (strsV (submP (rs.map (·.g)) self (fs.map (·.f)))) ∧ Upd (fun _ => False) w wr) := Lib.hid ⟨by rw [H.out.2.2.2.2.2.1]; exact hs.1.sees, hs.2.2.2.1⟩
      clear hs HR
      go_wp2_with fail
      go_ret
      exact ⟨ox, on, oc, rfl, hres.out.1, hres.out.2⟩
end Go.Proofs.YtbhmeagliebfdaaDoor

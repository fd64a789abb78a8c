/- uri: Parse. -/
import Derived.Test.YtbhmeagliebfdaaDoorGu8
namespace Go.Proofs.YtbhmeagliebfdaaDoor
open Go Go.RowKit
set_option linter.unusedSimpArgs false
set_option linter.unusedVariables false
set_option maxRecDepth 100000
theorem infoStr : (Tryd.prog.info? 9).map (fun i => (i.zero, i.size, i.bytes)) = some (some (.string .empty), 1, 16) := by kernel_rfl
theorem split_cells (l : By) : (Lib.splitB (bs [47]) 0 (Lib.countB (bs l) (bs [47])) (bs l)).map Value.string = strsV (Lib.split l [47]) := by
  have h := Lib.splitB_data (bs [47]) 0 (Lib.countB (bs l) (bs [47])) (bs l)
  rw [bs_data, bs_data] at h
  have hc : Lib.countB (bs l) (bs [47]) = Lib.count l [47] := by
    show Lib.count (bs l).data.toList (bs [47]).data.toList = _
    rw [bs_data, bs_data]
  rw [strsV, Lib.split, ← hc, ← h, List.map_map]
  refine List.map_congr_left fun s _ => ?_
  show Value.string s = Value.string (bs s.data.toList)
  rw [bs_of]
theorem split_ok {w : World} (l : By) (hl : l.length ≤ 1000000000) (hG : Glob w) : Calls Tryd.prog 52 #[.string (bs l), .string (bs [47])] w fun e w' => ∃ (g n : Nat), e = .returned (.slice (some ⟨g, 0, none⟩) n n) ∧ Sees w' 1 (.slice (some ⟨g, 0, none⟩) n n) n (strsV (Lib.split l [47])) ∧ n ≤ 1000000001 ∧ Upd (fun _ => False) w w' := by
  obtain ⟨_, m, hm⟩ := hG
  refine (Sh.strings_Split (bs l) (bs [47]) m w (by rw [bs_size]; omega) hm (by rw [bs_size]; decide)).mono ?_
  rintro e w' ⟨rfl, rfl⟩
  have hle := Lib.countB_le (bs [47]) (by rw [bs_size]; decide) (bs l).size (bs l) (Nat.le_refl _)
  rw [bs_size] at hle
  have hcl := split_cells l
  obtain ⟨k, hk⟩ : ∃ k, Lib.countB (bs l) (bs [47]) = k := ⟨_, rfl⟩
  rw [hk] at hcl hle
  rw [hk, hcl]
  have hn : (strsV (Lib.split l [47])).length = (k + 1) * 1 := by
    rw [← hcl, List.length_map, Lib.splitB_all (bs [47]) (by rw [bs_size]; decide) 0 k (bs l) hk]
    omega
  exact ⟨w.heap.size, k + 1, rfl, Sees.at hn (by unfold maxLen; omega) (rangeAt_of_row (heap_alloc_new w _) (by simp)), by omega, (Upd.refl _ w).alloc _⟩
theorem splitK_mem (sep : By) : ∀ (k : Nat) (l : By), ∀ p ∈ Lib.splitK sep 0 k l, p.length ≤ l.length
  | 0, l, p, hp => by
    rw [Lib.splitK, List.mem_singleton] at hp
    rw [hp]; exact Nat.le_refl _
  | k + 1, l, p, hp => by
    rw [Lib.splitK] at hp
    split at hp
    · rw [List.mem_singleton] at hp
      rw [hp]; exact Nat.le_refl _
    · rcases List.mem_cons.1 hp with rfl | h
      · rw [List.length_take]; omega
      · have := splitK_mem sep k _ p h
        rw [List.length_drop] at this; omega
/-- What Parse answers. -/
def PathR (w : World) (t : By) (e : Ending) (w' : World) : Prop :=
  ∃ (x : Option Addr) (n c er : Nat) (d : Bool) (p : List By), e = .returned (.tuple #[.slice x n c, .bool d, .int .i64 (er : Nat)]) ∧ Sees w' 1 (.slice x n c) n (strsV p) ∧ ((er = 0 ∧ uriP t = some p) ∨ (er ≠ 0 ∧ uriP t = none)) ∧ Upd (fun _ => False) w w'
theorem PathR.fail {w w' : World} {t : By} (er : Nat) (d : Bool) (he : er ≠ 0) (h : uriP t = none) (hu : Upd (fun _ => False) w w') : PathR w t (.returned (.tuple #[.slice none 0 0, .bool d, .int .i64 (er : Nat)])) w' :=
  ⟨none, 0, 0, er, d, [], rfl, Sees.zero _ _ _ _, .inr ⟨he, h⟩, hu⟩
theorem foldP_none_of {P : List By} {path : List By} (i : Nat) (hi : i < P.length) (h : ∀ x, decodeP P[i] = some x → 64 < x.length ∨ stepP path x = none) : foldP (P.drop i) path = none := by
  rw [List.drop_eq_getElem_cons hi, foldP]
  cases hd : decodeP P[i] with
  | none => rfl
  | some x =>
    simp only []
    split
    · rfl
    · rcases h x hd with h | h
      · omega
      · rw [h]
theorem foldP_next {P path path' : List By} {x : By} (i : Nat) (hi : i < P.length) (hd : decodeP P[i] = some x) (hl : x.length ≤ 64) (hs : stepP path x = some path') : foldP (P.drop i) path = foldP (P.drop (i + 1)) path' := by
  rw [List.drop_eq_getElem_cons hi, foldP, hd]
  simp only []
  rw [if_neg (by omega), hs]
/-- In the middle of Parse. -/
def FldR (w : World) (P : List By) (g N i : Nat) (px : Option Addr) (pn pc : Nat) (wr : World) : Prop :=
  ∃ path : List By, Upd (fun _ => False) w wr ∧ Sees wr 1 (.slice (some ⟨g, 0, none⟩) N N) N (strsV P) ∧ Mid wr 1 (.slice px pn pc) pn (strsV path) ∧ Whole wr 1 (.slice px pn pc) ∧
    (∀ q, (Value.slice px pn pc).ownBlock = some q → w.heap.size ≤ q ∧ q ≠ g) ∧ foldP P [] = foldP (P.drop i) path ∧ pn ≤ i ∧ path.length = pn
theorem FldR.fail {w : World} {P : List By} {g N i : Nat} {px : Option Addr} {pn pc : Nat} {wr : World} (h : FldR w P g N i px pn pc wr) (hi : i < P.length) (hf : ∀ path x : List By, path.length = pn → ∀ y, decodeP P[i] = some y → 64 < y.length ∨ stepP path y = none) : foldP P [] = none := by
  obtain ⟨path, _, _, _, _, _, h1, _, h2⟩ := h
  rw [h1]
  exact foldP_none_of i hi (fun y hy => hf path [] h2 y hy)
set_option maxHeartbeats 1000000 in
theorem parse_ok {w : World} (t : By) (ht : t.length ≤ 100000000) (hG : Glob w) : Calls Tryd.prog 36 #[.string (bs t)] w fun e w' => PathR w t e w' := by
  have hlo := local_ok t (by omega) w
  obtain ⟨T, hT⟩ : ∃ T, bs t = T := ⟨_, rfl⟩
  rw [hT] at hlo ⊢
  have H := Lib.hid (And.intro hlo (And.intro hG ht))
  clear hlo hG ht hT
  go_enter Tryd.func36, Tryd.ntmps36
  go_wp2_with fail
  refine H.out.1.mono ?_
  rintro e w1 ⟨⟨s, ok, rfl, hcase⟩, rfl⟩
  dsimp only
  rcases hcase with ⟨rfl, hl⟩ | ⟨rfl, hl⟩
  · have hsl := local_len hl
    have hpl := plain_ok s (by have := H.out.2.2; unfold maxLen; omega) w1
    have hhp := hasPrefix_ok s [47] w1
    have hup : uriP t = if plainP s = true ∧ Lib.hasPrefix s [47] = true then
      (match foldP (Lib.split (s.drop 1) [47]) [] with
       | none => none
       | some path => if 12 < path.length then none else some path)
      else none := by rw [uriP, hl]; rfl
    have hss := bs_size s
    obtain ⟨S, hS⟩ : ∃ S, bs s = S := ⟨_, rfl⟩
    rw [hS] at hpl hhp hss
    rw [hS]
    cases hpb : plainP s
    · rw [hpb] at hpl hup
      rw [if_neg (fun h => by cases h.1)] at hup
      have HP := Lib.hid (And.intro hpl hup)
      clear hpl hup hhp hl hsl hS hss hpb
      go_wp2_with fail
      refine HP.out.1.mono ?_
      rintro e w1 ⟨rfl, rfl⟩
      dsimp only
      go_wp2_with fail
      refine bodyPost_ret (results_tmp3 (fn := Tryd.f36) rfl _ _ _) rfl ?_
      exact PathR.fail 20 false (by decide) HP.out.2 (Upd.refl _ _)
    cases hpx : Lib.hasPrefix s [47]
    · rw [hpb] at hpl hup
      rw [hpx] at hhp hup
      rw [if_neg (fun h => by cases h.2)] at hup
      have HP := Lib.hid (And.intro hpl (And.intro hhp hup))
      clear hpl hup hhp hl hsl hS hss hpb hpx
      go_wp2_with fail
      refine HP.out.1.mono ?_
      rintro e w1 ⟨rfl, rfl⟩
      dsimp only
      go_wp2_with fail
      refine HP.out.2.1.mono ?_
      rintro e w1 ⟨rfl, rfl⟩
      dsimp only
      go_wp2_with fail
      refine bodyPost_ret (results_tmp3 (fn := Tryd.f36) rfl _ _ _) rfl ?_
      exact PathR.fail 20 false (by decide) HP.out.2.2 (Upd.refl _ _)
    · rw [hpb] at hpl
      rw [hpx] at hhp
      rw [if_pos ⟨hpb, hpx⟩] at hup
      have hs0 : 0 < s.length := by
        cases s with
        | nil => simp [Lib.hasPrefix] at hpx
        | cons c r => simp
      have hS1 : (1 : Int) ≤ (S.size : Int) := by omega
      have hsd : (s.drop 1).length ≤ 1000000000 := by rw [List.length_drop]; have := H.out.2.2; omega
      have hex : S.extract 1 S.size = bs (s.drop 1) := by rw [hss, ← hS]; exact bs_extract s 1 _ rfl
      have hPm : ∀ p ∈ Lib.split (s.drop 1) [47], p.length ≤ 1000000000 := fun p hp => Nat.le_trans (splitK_mem _ _ _ p hp) hsd
      have hsp := split_ok (w := w1) (s.drop 1) hsd H.out.2.1
      obtain ⟨P, hP⟩ : ∃ P, Lib.split (s.drop 1) [47] = P := ⟨_, rfl⟩
      rw [hP] at hsp hup hPm
      have HPm := Lib.hid hPm
      rw [← hex] at hsp
      have HP := Lib.hid (And.intro hpl (And.intro hhp (And.intro hup hsp)))
      have hSI : (S.size : Int) ≤ 1000000000 := by have := H.out.2.2; omega
      clear hpl hup hhp hl hsl hS hss hpb hpx hsp hex hP hs0 hsd hPm
      go_wp2_with fail
      refine HP.out.1.mono ?_
      rintro e w1 ⟨rfl, rfl⟩
      dsimp only
      go_wp2_with fail
      refine HP.out.2.1.mono ?_
      rintro e w1 ⟨rfl, rfl⟩
      dsimp only
      go_wp2_with fail
      refine HP.out.2.2.2.mono ?_
      rintro e w2 ⟨g, N, rfl, hse, hN, hu⟩
      dsimp only
      have HR0 : Hid (FldR w1 P g N 0 none 0 0 w2) := Lib.hid ⟨[], hu, hse, Mid.nil _ _, Whole.nil _ _, (fun q hq => by cases hq), by simp, Nat.le_refl _, rfl⟩
      have hNI : (N : Int) ≤ 1000000001 := by omega
      have hPl : Hid (P.length = N) := Lib.hid (sees_len hse)
      have HU := Lib.hid HP.out.2.2.1
      clear hse hu HP hN
      go_wp2_with fail
      go_loopw [7, 8, 34] (fun pv dv iv wr => ∃ (i pn pc : Nat) (px : Option Addr) (d : Bool), i ≤ N ∧ pv = .slice px pn pc ∧ dv = .bool d ∧ iv = .int .i64 i ∧ Hid (FldR w1 P g N i px pn pc wr)) (fun _ _ iv _ => N - (intOf iv).toNat)
      case atStart => exact ⟨0, 0, 0, none, false, Nat.zero_le _, rfl, rfl, rfl, HR0⟩
      case round =>
        obtain ⟨i, pn, pc, px, d, hi, rfl, rfl, rfl, HR⟩ := hrel
        clear HR0
        by_cases hlt : i < N
        · have hltI : (i : Int) < (N : Int) := by omega
          have hil : i < P.length := by rw [hPl.out]; exact hlt
          obtain ⟨path, k1, k2, k3, k4, k5, k6, k7, k8⟩ := HR.out
          obtain ⟨g', o', e', c1⟩ := sees_one k2 i hlt (strsV_at P i hil)
          cases e'
          have hmem : P[i] ∈ P := List.getElem_mem hil
          have hdo := decode_ok (w := wr) P[i] (HPm.out _ hmem) (H.out.2.1.upd k1)
          obtain ⟨X, hX⟩ : ∃ X, bs P[i] = X := ⟨_, rfl⟩
          rw [hX, Nat.zero_add] at c1
          rw [hX] at hdo
          have hpnI : (pn : Int) ≤ (i : Int) := by omega
          have HD := Lib.hid (And.intro hdo hil)
          clear hX hmem hdo k1 k2 k3 k4 k5 k6 k7 k8
          go_wp2_with fail
          refine HD.out.1.mono ?_
          rintro e w3 ⟨⟨x, ok, rfl, hcase⟩, hu3⟩
          dsimp only
          rcases hcase with ⟨rfl, hdx⟩ | ⟨rfl, hdx⟩
          · have hxs := bs_size x
            have n1 := bs_nil_iff x
            have n2 := bs_beq x [46]
            have n3 := bs_beq x [46, 46]
            obtain ⟨Y, hY⟩ : ∃ Y, bs x = Y := ⟨_, rfl⟩
            rw [hY] at hxs n1 n2 n3 ⊢
            have HW := Lib.hid ((show Upd (fun _ => False) w1 wr from (let ⟨_, h, _⟩ := HR.out; h)).trans hu3)
            have HX := Lib.hid (And.intro hdx (And.intro hxs hY))
            have Hu3 := Lib.hid hu3
            clear hdx hxs hY hu3 c1
            by_cases hxl : 64 < x.length
            · have hno : foldP P [] = none := HR.out.fail HD.out.2 (fun _ _ _ y hy => by rw [HX.out.1] at hy; cases hy; exact .inl hxl)
              have hup : Hid (uriP t = none) := Lib.hid (by rw [HU.out, hno])
              have hYI : (64 : Int) < (Y.size : Int) := by have := HX.out.2.1; omega
              clear hno n1 n2 n3
              go_wp2_with fail
              refine bodyPost_ret (results_tmp3 (fn := Tryd.f36) rfl _ _ _) rfl ?_
              exact PathR.fail 5 false (by decide) hup.out HW.out
            have hYI : ¬ ((64 : Int) < (Y.size : Int)) := by have := HX.out.2.1; omega
            have HN : Hid (∀ path path', stepP path x = some path' → foldP (P.drop i) path = foldP (P.drop (i + 1)) path') := Lib.hid fun path path' h => foldP_next i HD.out.2 HX.out.1 (by omega) h
            by_cases b1 : x = []
            · rw [decide_eq_true b1] at n1
              have HJ : Hid (FldR w1 P g N (i + 1) px pn pc w3) := Lib.hid (by
                obtain ⟨path, k1, k2, k3, k4, k5, k6, k7, k8⟩ := HR.out
                exact ⟨path, HW.out, Sees.upd Hu3.out k2 (fun _ _ _ h => h), k3.upd Hu3.out (fun _ _ h => h), k4.upd Hu3.out (fun _ _ h => h) k3.lt, k5, by rw [k6]; exact HN.out _ _ (by rw [stepP, if_pos (.inl b1)]), by omega, k8⟩)
              clear n2 n3 HN HD HX HR
              go_wp2_with fail
              exact ⟨⟨i + 1, pn, pc, px, true, by omega, rfl, rfl, by go_num, HJ⟩, by simp [intOf] <;> omega⟩
            rw [decide_eq_false b1] at n1
            by_cases b2 : x = [46]
            · rw [decide_eq_true b2] at n2
              have HJ : Hid (FldR w1 P g N (i + 1) px pn pc w3) := Lib.hid (by
                obtain ⟨path, k1, k2, k3, k4, k5, k6, k7, k8⟩ := HR.out
                exact ⟨path, HW.out, Sees.upd Hu3.out k2 (fun _ _ _ h => h), k3.upd Hu3.out (fun _ _ h => h), k4.upd Hu3.out (fun _ _ h => h) k3.lt, k5, by rw [k6]; exact HN.out _ _ (by rw [stepP, if_pos (.inr b2)]), by omega, k8⟩)
              clear n3 HN HD HX HR
              go_wp2_with fail
              exact ⟨⟨i + 1, pn, pc, px, true, by omega, rfl, rfl, by go_num, HJ⟩, by simp [intOf] <;> omega⟩
            rw [decide_eq_false b2] at n2
            by_cases b3 : x = [46, 46]
            · rw [decide_eq_true b3] at n3
              by_cases hp0 : pn = 0
              · have hno : foldP P [] = none := HR.out.fail HD.out.2 (fun path _ hpl y hy => by
                  rw [HX.out.1] at hy; cases hy
                  refine .inr ?_
                  have : path = [] := List.eq_nil_of_length_eq_zero (by omega)
                  rw [this, b3]; rfl)
                have hup : Hid (uriP t = none) := Lib.hid (by rw [HU.out, hno])
                subst hp0
                clear hno HN HD HX HR
                go_wp2_with fail
                refine bodyPost_ret (results_tmp3 (fn := Tryd.f36) rfl _ _ _) rfl ?_
                exact PathR.fail 20 false (by decide) hup.out HW.out
              · obtain ⟨k, hk⟩ : ∃ k, pn = k + 1 := ⟨pn - 1, by omega⟩
                have hpk : (pn : Int) - 1 = (k : Int) := by omega
                have hpz : ((pn : Int) == 0) = false := beq_eq_false_iff_ne.2 (by omega)
                obtain ⟨path, k1, k2, k3, k4, k5, k6, k7, k8⟩ := HR.out
                obtain ⟨gp, op, hpx, hpc⟩ : ∃ gp op, px = some ⟨gp, op, none⟩ ∧ pn ≤ pc := by
                  obtain ⟨_, ⟨e, e2⟩ | ⟨g2, o2, cap, e, e1, _⟩⟩ := k3
                  · omega
                  · cases e; exact ⟨_, _, rfl, e1⟩
                subst hpx
                have hkc : (k : Int) ≤ (pc : Int) := by omega
                have hcut := (k3.upd Hu3.out (fun _ _ h => h)).cut (k4.upd Hu3.out (fun _ _ h => h) k3.lt) (m := k) (by omega)
                have hdl : (strsV path).take (k * 1) = strsV path.dropLast := by
                  rw [strsV, strsV, ← List.map_take, List.dropLast_eq_take, k8, hk]; simp
                rw [hdl] at hcut
                have HJ : Hid (FldR w1 P g N (i + 1) (some ⟨gp, op, none⟩) k pc w3) := Lib.hid ⟨path.dropLast, HW.out, Sees.upd Hu3.out k2 (fun _ _ _ h => h), hcut.1, hcut.2, k5, by rw [k6]; exact HN.out _ _ (by rw [stepP, if_neg (fun h => h.elim b1 b2), if_pos b3, if_neg (fun h => by rw [h] at k8; simp at k8; omega)]), by omega, by rw [List.length_dropLast]; omega⟩
                clear HN HD HX HR k1 k2 k3 k4 k5 k6 k7 k8 hcut hdl hk hpc
                go_wp2_with fail
                exact ⟨⟨i + 1, k, pc, _, true, by omega, rfl, rfl, by go_num, HJ⟩, by simp [intOf] <;> omega⟩
            rw [decide_eq_false b3] at n3
            obtain ⟨path, k1, k2, k3, k4, k5, k6, k7, k8⟩ := HR.out
            have hst : stepP path x = some (path ++ [x]) := by rw [stepP, if_neg (fun h => h.elim b1 b2), if_neg b3]
            have HM := Lib.hid (And.intro (Sees.upd Hu3.out k2 (fun _ _ _ h => h)) (And.intro (k3.upd Hu3.out (fun _ _ h => h)) (And.intro (k4.upd Hu3.out (fun _ _ h => h) k3.lt) (And.intro k5 (And.intro (k6.trans (HN.out _ _ hst)) (And.intro k7 k8))))))
            have hpn31 : (pn : Int) ≤ 1000000001 := by omega
            clear k1 k2 k3 k4 k5 k6 k7 k8 hst HN HD HR b1 b2 b3
            go_wp2_with (at_builtin; refine wpl_append_whole 9 1 16 (.string .empty) (.slice px pn pc) pn (strsV path) 1 [.string Y] ?c1 ?c2 ?c3 ?c4 ?c5 ?c6 ?c7 ?c8 ?c9 ?c10 ?_)
            case c2 =>
              obtain ⟨a, ha, hz, h1, h2⟩ := info_parts infoStr
              exact ⟨a, ha, hz, h1, h2⟩
            case c5 => exact HM.out.2.1.upd ((Upd.refl (fun _ => False) w3).alloc _) (fun _ _ h => h)
            case c6 => exact HM.out.2.2.1.upd ((Upd.refl (fun _ => False) w3).alloc _) (fun _ _ h => h) HM.out.2.1.lt
            case c7 => exact Sees.at rfl (by decide) (rangeAt_of_row (heap_alloc_new w3 (.cells ([.string Y] : List Value).toArray 9)) rfl)
            case c8 => rfl
            case c9 => unfold maxLen; omega
            case c10 => omega
            intro x' c' w4 hm4 hu4 hb4 hW4
            try (simp only [Act.put, List.setIfInBounds_toArray, List.set_cons_zero, List.set_cons_succ])
            have hu34 : Upd (fun q => (Value.slice px pn pc).ownBlock = some q) w3 w4 := (((Upd.refl (fun _ => False) w3).alloc _).mono (fun _ _ h => h.elim)).trans hu4
            have HJ : Hid (FldR w1 P g N (i + 1) x' (pn + 1) c' w4) := Lib.hid ⟨path ++ [x], HW.out.then hu34 (fun q hq => .inr (HM.out.2.2.2.1 q hq).1), Sees.upd hu34 HM.out.1 (fun q hq _ hq2 => (HM.out.2.2.2.1 q hq2).2 (by cases hq; rfl)), by rw [strsV_append, show strsV [x] = [.string Y] by rw [strsV, List.map_cons, HX.out.2.2]; rfl]; exact hm4, hW4, (fun q hq => by
              rcases hb4 with e | e
              · exact HM.out.2.2.2.1 q (e.symm.trans hq)
              · have e2 : q = _ := Option.some.inj (hq.symm.trans e)
                rw [e2]
                have hz3 := HW.out.size
                obtain ⟨_, _, y, dd, ey, hcc⟩ := HM.out.1
                cases ey
                have hgl : g < w3.heap.size := by
                  have hn : 0 < N := by omega
                  obtain ⟨b0, o0, eb, hr0⟩ := hcc hn
                  cases eb
                  have hP0 : 0 < P.length := by rw [hPl.out]; exact hn
                  exact World.block_lt_of_cell? _ _ (hr0 0 _ (strsV_at P 0 hP0))
                exact ⟨by omega, by omega⟩), HM.out.2.2.2.2.1, by have := HM.out.2.2.2.2.2.1; omega, by rw [List.length_append, HM.out.2.2.2.2.2.2]; rfl⟩
            clear hm4 hu4 hb4 hW4 hu34 HM HX n1 n2 n3
            go_wp2_with fail
            exact ⟨⟨i + 1, pn + 1, c', x', false, by omega, rfl, rfl, by go_num, HJ⟩, by simp [intOf] <;> omega⟩
          · have hno : foldP P [] = none := HR.out.fail HD.out.2 (fun _ _ _ y hy => by rw [hdx] at hy; cases hy)
            have hup : Hid (uriP t = none) := Lib.hid (by rw [HU.out, hno])
            have HW := Lib.hid ((show Upd (fun _ => False) w1 wr from (let ⟨_, h, _⟩ := HR.out; h)).trans hu3)
            clear hno hdx hu3 HR HD c1
            go_wp2_with fail
            refine bodyPost_ret (results_tmp3 (fn := Tryd.f36) rfl _ _ _) rfl ?_
            exact PathR.fail 20 false (by decide) hup.out HW.out
        · obtain rfl : i = N := by omega
          obtain ⟨path, k1, k2, k3, k4, k5, k6, k7, k8⟩ := HR.out
          have hdn : P.drop i = [] := List.drop_eq_nil_of_le (by rw [hPl.out]; exact Nat.le_refl _)
          rw [hdn, foldP] at k6
          have hup : uriP t = if 12 < pn then none else some path := by rw [HU.out, k6]; simp only [k8]
          have hpnI : (pn : Int) ≤ (i : Int) := by omega
          have HF := Lib.hid (And.intro hup (And.intro k1 k3))
          clear hup k1 k2 k3 k4 k5 k6 k7 k8 HR hdn
          by_cases hpn : 12 < pn
          · have hpI : (12 : Int) < (pn : Int) := by omega
            go_wp2_with fail
            refine bodyPost_ret (results_tmp3 (fn := Tryd.f36) rfl _ _ _) rfl ?_
            exact PathR.fail 5 false (by decide) (by rw [HF.out.1, if_pos hpn]) HF.out.2.1
          · have hpI : ¬ ((12 : Int) < (pn : Int)) := by omega
            go_wp2_with fail
            refine bodyPost_ret (results_tmp3 (fn := Tryd.f36) rfl _ _ _) rfl ?_
            exact ⟨px, pn, pc, 0, d, path, rfl, HF.out.2.2.sees, .inl ⟨rfl, by rw [HF.out.1, if_neg hpn]⟩, HF.out.2.1⟩
  · have hup : uriP t = none := by rw [uriP, hl]
    have HP := Lib.hid hup
    clear hup hl
    go_wp2_with fail
    refine bodyPost_ret (results_tmp3 (fn := Tryd.f36) rfl _ _ _) rfl ?_
    exact PathR.fail 20 false (by decide) HP.out (Upd.refl _ _)
end Go.Proofs.YtbhmeagliebfdaaDoor

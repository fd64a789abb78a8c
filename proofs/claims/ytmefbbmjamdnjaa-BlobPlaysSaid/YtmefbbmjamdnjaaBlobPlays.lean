/- BlobPlays: the walk. -/
import Derived.Test.YtmefbbmjamdnjaaBb19
import Derived.Deep.CutBlock
import Derived.Deep.DeepCutAuto
namespace Go.Proofs.Ytmefbbmjamdnjaa
open Go Go.RowKit
set_option linter.unusedSimpArgs false
set_option linter.unusedVariables false
set_option maxRecDepth 100000

set_option maxHeartbeats 16000000 in
theorem blobPlays_walk (blocks : Nat) (hbl : blocks ≤ 255) (xa : Option Addr) (xc : Nat) (l : List BOp) (w : World) (hW : BopsAt w xa xc l) :
    Calls Try.prog 4 #[.int .u8 blocks, .slice xa l.length xc] w fun e w' => e = .returned (.bool true) ∧ Below w.heap.size w w' := by
  obtain ⟨M, hmm⟩ : ∃ M, l.length = M := ⟨_, rfl⟩
  have hbI : (blocks : Int) ≤ 255 := by omega
  have H := Lib.hid (And.intro hW hmm)
  rw [hmm]
  have hmw : IntKind.i64.wrap (blocks : Int) = (blocks : Int) := by rw [IntKind.wrap_i64]; omega
  clear hW hmm hbl
  go_enter Try.func4, Try.ntmps4
  go_wp2_with fail
  refine (fixed_ok w).mono ?_
  rintro e w1 ⟨rfl, hu1⟩
  dsimp only
  have HU1 := Lib.hid hu1
  clear hu1
  by_cases hbig : 60 < M
  · have hbg : (60 : Int) < (M : Int) := by omega
    go_wp2_with fail
    refine (fixed_ok w1).mono ?_
    rintro e w2 ⟨rfl, hu2⟩
    dsimp only
    have HU2 := Lib.hid (HU1.out.trans hu2)
    clear hu2
    go_wp2_with fail
    go_ret
    exact ⟨rfl, HU2.out.below0⟩
  · have hbg : (M : Int) ≤ 60 := by omega
    go_wp2_with fail
    have hm3 : (3 : Int) * (blocks : Int) = ((3 * blocks : Nat) : Int) := by omega
    try simp only [hm3]
    obtain ⟨most, hmo⟩ : ∃ most, 3 * blocks = most := ⟨_, rfl⟩
    have hmoB : most ≤ 765 := by omega
    try rw [hmo] at hm3
    try simp only [hmo]
    refine (newmem_ok most (by omega) w1 _ rfl).mono ?_
    rintro e w2 ⟨mb, K, rfl, hM, hu2, hK⟩
    dsimp only
    have H2 : Hid (PlX w most mb none 0 0 0 w2) := PlX.new (HU1.out.trans hu2) hM (fun q hq => Nat.le_trans HU1.out.size (hK q hq))
    have hmoI : (most : Int) ≤ 765 := by omega
    clear hM hu2 hK HU1 hm3 hmo hmw hmoB hbI
    go_wp2_with fail
    go_loopw [7, 8] (fun av iv wr => ∃ (k n d : Nat) (y : Option Addr), k ≤ M ∧ av = .slice y n d ∧ iv = .int .i64 k ∧ Hid (PlX w most mb y n d k wr)) (fun _ iv _ => M - (intOf iv).toNat)
    case atStart => exact ⟨0, 0, 0, none, Nat.zero_le _, rfl, rfl, H2⟩
    case round =>
      clear H2
      obtain ⟨k, n, d, y, hk, rfl, rfl, HR⟩ := hrel
      by_cases hlt : k < M
      · have hltI : (k : Int) < (M : Int) := by omega
        have hjl : k < l.length := by rw [H.out.2]; exact hlt
        have hk60 : k ≤ 60 := by omega
        obtain ⟨o, ho⟩ : ∃ o, l[k] = o := ⟨_, rfl⟩
        have hol : o ∈ l := ho ▸ List.getElem_mem _
        obtain ⟨xg, xo, rfl, hr⟩ := bop_at H.out.1.1 k hjl
        rw [ho] at hr
        have hro : wr.rangeAt xg (xo + k * 5) (bopV o) := HR.out.upd.range hr (fun h => h)
        have Hok := Lib.hid (And.intro (H.out.1.2.1 o hol) hk60)
        have hal : Upd (fun _ => False) wr (wr.alloc (.cells #[.int .u8 o.kind, .string o.data, .int .i64 o.i, .int .i64 o.fr, .int .i64 o.n] 38)) := (Upd.refl _ wr).alloc _
        have hcs := CellsA.new wr 38 [.int .u8 o.kind, .string o.data, .int .i64 o.i, .int .i64 o.fr, .int .i64 o.n]
        have HT : Hid (PlX w most mb y n d k (wr.alloc (.cells #[.int .u8 o.kind, .string o.data, .int .i64 o.i, .int .i64 o.fr, .int .i64 o.n] 38))) := HR.out.quiet hal
        have HC : Hid (CellsA (wr.alloc (.cells #[.int .u8 o.kind, .string o.data, .int .i64 o.i, .int .i64 o.fr, .int .i64 o.n] 38)) wr.heap.size 38 [.int .u8 o.kind, .string o.data, .int .i64 o.i, .int .i64 o.fr, .int .i64 o.n]) := hcs
        have hc0 := hcs.cell 0
        have hc1 := hcs.cell 1
        have hc2 := hcs.cell 2
        have hc3 := hcs.cell 3
        have hc4 := hcs.cell 4
        simp only [List.getElem?_cons_zero, List.getElem?_cons_succ] at hc0 hc1 hc2 hc3 hc4
        rw [bopV] at hro
        clear hr hol ho hal hcs HR hjl
        obtain ⟨m, hm⟩ : ∃ m, o.kind % 4 = m := ⟨_, rfl⟩
        have hkI : (o.kind : Int) ≤ 255 := by have := Hok.out.1.kind; omega
        have q0 : (o.kind : Int) % 4 = (m : Int) := by omega
        have q1 : (o.kind : Int).tmod 4 = (m : Int) := by rw [Int.tmod_eq_emod_of_nonneg (by omega)]; exact q0
        have hm4 : m < 4 := by omega
        have hn60 : n ≤ 60 := by have := HT.out.le; omega
        clear hm
        by_cases hkk : 0 < n ∧ 0 ≤ o.i
        · obtain ⟨hn0, hi0⟩ := hkk
          obtain ⟨j, hj⟩ : ∃ j, (o.i % (n : Int)).toNat = j := ⟨_, rfl⟩
          have hjm : o.i % (n : Int) = (j : Int) := by have := Int.emod_nonneg o.i (b := (n : Int)) (by omega); omega
          have hjn : j < n := by have := Int.emod_lt_of_pos o.i (b := (n : Int)) (by omega); omega
          have hjt : o.i.tmod (n : Int) = (j : Int) := by rw [Int.tmod_eq_emod_of_nonneg hi0]; exact hjm
          have hn0I : (0 : Int) < (n : Int) := by omega
          clear hj
          go_upto_block 2 with (first | ((with_reducible apply wpl_load_mid xg (xo + k * 5) [.int .u8 o.kind, .string o.data, .int .i64 o.i, .int .i64 o.fr, .int .i64 o.n]); exact rfl; exact hro; exact Try.underlying38; exact rfl; exact sizeBop; try (simp only [Act.put, List.setIfInBounds_toArray, List.set_cons_zero, List.set_cons_succ])) | ((with_reducible apply wpl_store_new); exact rfl; exact rfl; exact sizeBop; exact rfl; exact rfl; try (simp only [Act.put, List.setIfInBounds_toArray, List.set_cons_zero, List.set_cons_succ])))
          generalize wr.alloc (.cells #[.int .u8 o.kind, .string o.data, .int .i64 o.i, .int .i64 o.fr, .int .i64 o.n] 38) = w9 at *
          generalize wr.heap.size = ob at *
          rcases (by omega : m = 0 ∨ m = 1 ∨ m = 2 ∨ m = 3) with h0 | h1 | h2 | h3
          · obtain rfl : m = 0 := h0
            go_wp2_with fail
            refine (text_okI o.data Hok.out.1.data o.n w9).mono ?_
            rintro e wa ⟨t, rfl, hu⟩
            dsimp only
            have HA : Hid (PlX w most mb y n d k wa) := HT.out.quiet hu
            clear hu hc0 hc1 hc2 hc3 hc4 HT HC hro
            go_wp2_with fail
            refine (HA.out.put (by omega) t).mono ?_
            rintro e wb ⟨y', n', d', rfl, hb⟩
            dsimp only
            have HB := Lib.hid hb
            clear hb HA
            go_wp2_with fail
            exact ⟨⟨k + 1, n', d', y', by omega, rfl, by go_num, HB⟩, by simp [intOf]; omega⟩
          · obtain rfl : m = 1 := h1
            obtain ⟨g, oo, hd, rfl, hnd, hdm, c1, hfr⟩ := HT.out.free (by omega) j hjn
            have hjI : (j : Int) < (n : Int) := by omega
            have HP := Lib.hid hfr
            clear hfr HT HC hro
            go_wp2_with fail
            refine HP.out.mono ?_
            rintro e wa ⟨rfl, l1, l2, hl1, hl2, ho1, ho2, hD⟩
            dsimp only
            have HD := Lib.hid hD
            have HL := Lib.hid (And.intro hl1 (And.intro hl2 (And.intro ho1 ho2)))
            clear hD hl1 hl2 ho1 ho2 HP c1 hc0 hc1 hc2 hc3 hc4
            have hjm : j ≤ 60 := by omega
            go_wp2_with ((with_reducible apply wpl_append_mid 43 2 24 _ (.slice none 0 0) 0 [] j l1))
            · exact Try.underlying36
            · exact infoHeld
            · rfl
            · rfl
            · exact Mid.nil _ _
            · exact Sees.at HL.out.1 (by unfold maxLen at *; omega) (by obtain ⟨_, _, _, _, _, _, _, _, _, h, _⟩ := HD.out; exact h)
            · exact HL.out.2.2.1
            · unfold maxLen; omega
            · omega
            intro x' c' wb hm5 hu5 hb5
            simp only [Nat.zero_add, List.nil_append] at hm5 hu5 hb5 ⊢
            try (simp only [Act.put, List.setIfInBounds_toArray, List.set_cons_zero, List.set_cons_succ])
            have hub : Upd (fun q => wa.heap.size ≤ q) wa wb := hu5.mono (fun q _ h => by cases h)
            have hob : ∀ q, (Value.slice x' j c').ownBlock = some q → wa.heap.size ≤ q := fun q hq => by
              rcases hb5 with e | e
              · rw [e] at hq; cases hq
              · rw [e] at hq; cases hq; exact Nat.le_refl _
            have Hb := Lib.hid (And.intro hm5 (And.intro hub hob))
            have hl2 : wb.rangeAt g (oo + (j + 1) * 2) l2 := by
              obtain ⟨_, _, _, _, hM, _, _, _, _, _, h, _⟩ := HD.out
              by_cases hz : l2 = []
              · rw [hz]; intro i v hv; simp at hv
              · have hgw : g < wa.heap.size := by
                  obtain ⟨v, hv⟩ : ∃ v, l2[0]? = some v := ⟨_, List.getElem?_eq_getElem (List.length_pos_iff.2 hz)⟩
                  exact World.block_lt_of_cell? _ _ (h 0 v hv)
                exact Hb.out.2.1.range h (Nat.not_le.2 hgw)
            clear hm5 hu5 hb5 hub hob
            have hdd : d = j + 1 ∨ ∃ d', d = j + 1 + (d' + 1) := by
              rcases Nat.lt_or_ge (j + 1) d with h | h
              · exact .inr ⟨d - j - 2, by omega⟩
              · exact .inl (by omega)
            rcases hdd with rfl | ⟨d', rfl⟩
            · have hn1 : n - (j + 1) = 0 := by omega
              go_wp2_with ((with_reducible apply wpl_append_mid 43 2 24 _ (.slice x' j c') j l1 (n - (j + 1)) l2))
              · exact Try.underlying36
              · exact infoHeld
              · rfl
              · rfl
              · exact Hb.out.1
              · rw [show l2 = [] from List.eq_nil_of_length_eq_zero (by rw [HL.out.2.1, hn1]), hn1]; exact Sees.zero _ _ _ _
              · exact HL.out.2.2.2
              · unfold maxLen; omega
              · omega
              intro x2 c2 wc hm6 hu6 hb6
              try (simp only [Act.put, List.setIfInBounds_toArray, List.set_cons_zero, List.set_cons_succ])
              have HF : Hid (PlX w most mb x2 (j + (n - (j + 1))) c2 (k + 1) wc) := Lib.hid (HD.out.done hjn (Hb.out.2.1.then hu6 (fun q hq => .inl (Hb.out.2.2 q hq))) hm6 (fun q hq => by
                rcases hb6 with e | e
                · exact Hb.out.2.2 q (e.symm.trans hq)
                · have e2 : q = _ := Option.some.inj (hq.symm.trans e)
                  rw [e2]; exact Hb.out.2.1.size) (by omega))
              clear hm6 hu6 hb6 Hb HD HL
              go_wp2_with fail
              exact ⟨⟨k + 1, j + (n - (j + 1)), c2, x2, by omega, rfl, by go_num, HF⟩, by simp [intOf]; omega⟩
            · have hl2 : wb.rangeAt g (oo + (j + 1) * 2) l2 := hl2
              go_wp2_with ((with_reducible apply wpl_append_mid 43 2 24 _ (.slice x' j c') j l1 (n - (j + 1)) l2))
              · exact Try.underlying36
              · exact infoHeld
              · rfl
              · rfl
              · exact Hb.out.1
              · exact Sees.at HL.out.2.1 (by unfold maxLen at *; omega) hl2
              · exact HL.out.2.2.2
              · unfold maxLen; omega
              · omega
              intro x2 c2 wc hm6 hu6 hb6
              try (simp only [Act.put, List.setIfInBounds_toArray, List.set_cons_zero, List.set_cons_succ])
              have HF : Hid (PlX w most mb x2 (j + (n - (j + 1))) c2 (k + 1) wc) := Lib.hid (HD.out.done hjn (Hb.out.2.1.then hu6 (fun q hq => .inl (Hb.out.2.2 q hq))) hm6 (fun q hq => by
                rcases hb6 with e | e
                · exact Hb.out.2.2 q (e.symm.trans hq)
                · have e2 : q = _ := Option.some.inj (hq.symm.trans e)
                  rw [e2]; exact Hb.out.2.1.size) (by omega))
              clear hm6 hu6 hb6 Hb HD HL
              go_wp2_with fail
              exact ⟨⟨k + 1, j + (n - (j + 1)), c2, x2, by omega, rfl, by go_num, HF⟩, by simp [intOf]; omega⟩
          · obtain rfl : m = 2 := h2
            obtain ⟨g, oo, hd, s, rfl, c1, c2, hgl, hhd, hss, hput, hread⟩ := HT.out.at (by omega) j hjn
            have hjI : (j : Int) < (n : Int) := by omega
            have HP := Lib.hid hput
            clear hput hread HT HC hro c1
            go_wp2_with fail
            refine HP.out.mono ?_
            rintro e wb ⟨y', n', d', rfl, hb⟩
            dsimp only
            have HB := Lib.hid hb
            clear hb HP c2 hc0 hc1 hc2 hc3 hc4
            go_wp2_with fail
            exact ⟨⟨k + 1, n', d', y', by omega, rfl, by go_num, HB⟩, by simp [intOf]; omega⟩
          · obtain rfl : m = 3 := h3
            obtain ⟨g, oo, hd, s, rfl, c1, c2, hgl, hhd, hss, hput, hread⟩ := HT.out.at (by omega) j hjn
            have hjI : (j : Int) < (n : Int) := by omega
            have HRd := Lib.hid (And.intro hread (And.intro hhd hss))
            have HC2 : Hid (∀ wX, Upd (fun _ => False) w9 wX → wX.cell? ⟨g, oo + j * 2 + 1, none⟩ = some (.string s)) := Lib.hid fun wX hu => (hu.cell (a := ⟨g, oo + j * 2 + 1, none⟩) hgl (fun h => h)).trans c2
            have hsI : (s.size : Int) ≤ 49152 := by omega
            clear hput hread hro c2 hhd hss hgl
            by_cases hneg : o.fr < 0 ∨ o.n < 0
            · have HS : w9.cell? ⟨g, oo + j * 2, none⟩ = some (.int .i64 (hd : Nat)) ∧ w9.cell? ⟨ob, 3, none⟩ = some (.int .i64 o.fr) ∧ w9.cell? ⟨ob, 4, none⟩ = some (.int .i64 o.n) := ⟨c1, hc3, hc4⟩
              go_wp2_with fail
              refine wp_region_planD (fun u => u.cell? ⟨g, oo + j * 2, none⟩ = some (.int .i64 (hd : Nat)) ∧ u.cell? ⟨ob, 3, none⟩ = some (.int .i64 o.fr) ∧ u.cell? ⟨ob, 4, none⟩ = some (.int .i64 o.n)) 17 [(0, true), (1, true), (2, true), (3, true), (4, true), (5, true), (6, true), (7, true), (8, true), (9, true), (10, true), (11, false), (12, true), (13, true), (14, true), (15, true), (16, true)] (by kernel_rfl) (by kernel_rfl) (fun d _ _ _ _ h => by cases d <;> exact h) HS ?_
              iterate 11 (first | (apply planD_held rfl rfl rfl (by simp) HS; (intro w' hS K hK; go_simp; exact hK)) | (apply planD_wanted rfl rfl rfl (by simp) HS; (intro w' hS K hK; go_simp; exact hK)))
              refine planD_op rfl rfl (fun K hK => ?_)
              go_simp
              refine (readat_neg hd HRd.out.2.1 o.fr o.n hneg).mono ?_
              rintro e wa ⟨rfl, rfl⟩
              dsimp only
              refine hK _ _ _ (fun u h => h) (fun _ => HS) ?_
              clear hK
              try (simp only [Act.put, List.setIfInBounds_toArray, List.set_cons_zero, List.set_cons_succ])
              iterate 5 (first | (apply planD_held rfl rfl rfl (by simp) HS; (intro w' hS K hK; go_simp; exact hK)) | (apply planD_wanted rfl rfl rfl (by simp) HS; (intro w' hS K hK; go_simp; exact hK)))
              refine planD_nil ?_
              have HF : Hid (PlX w most mb (some ⟨g, oo, none⟩) n d (k + 1) w9.drew) := Lib.hid ((HT.out.quiet (Upd.refl (fun _ => False) w9).drew).mono (by omega))
              have hd0 : w9.drew.cell? ⟨ob, 0, none⟩ = some (.int .u8 o.kind) := hc0
              have hd3 : w9.drew.cell? ⟨ob, 3, none⟩ = some (.int .i64 o.fr) := hc3
              have hd4 : w9.drew.cell? ⟨ob, 4, none⟩ = some (.int .i64 o.n) := hc4
              clear HS HRd HC2 HT HC hc0 hc1 hc2 hc3 hc4 c1
              generalize w9.drew = wa at *
              by_cases hf0 : o.fr < 0
              · clear hneg
                go_wp2_with fail
                exact ⟨⟨k + 1, n, d, _, by omega, rfl, by go_num, HF⟩, by simp [intOf]; omega⟩
              · have hn1 : o.n < 0 := hneg.resolve_left hf0
                clear hneg
                go_wp2_with fail
                exact ⟨⟨k + 1, n, d, _, by omega, rfl, by go_num, HF⟩, by simp [intOf]; omega⟩
            · have hf9 : o.fr ≤ 9223372036854775807 := Hok.out.1.fhi
              have hn9 : o.n ≤ 9223372036854775807 := Hok.out.1.nhi
              obtain ⟨f, hf⟩ : ∃ f : Nat, o.fr = (f : Int) := ⟨o.fr.toNat, by omega⟩
              obtain ⟨t, ht⟩ : ∃ t : Nat, o.n = (t : Int) := ⟨o.n.toNat, by omega⟩
              rw [hf] at hc3 hf9
              rw [ht] at hc4 hn9
              have HCX : Hid (∀ wX, Upd (fun _ => False) w9 wX → wX.cell? ⟨ob, 0, none⟩ = some (.int .u8 o.kind) ∧ wX.cell? ⟨ob, 3, none⟩ = some (.int .i64 (f : Int)) ∧ wX.cell? ⟨ob, 4, none⟩ = some (.int .i64 (t : Int))) := Lib.hid fun wX hu => ⟨(HC.out.upd hu (fun h => h)).cell 0, by rw [← hf]; exact (HC.out.upd hu (fun h => h)).cell 3, by rw [← ht]; exact (HC.out.upd hu (fun h => h)).cell 4⟩
              clear hneg HC
              have HS : w9.cell? ⟨g, oo + j * 2, none⟩ = some (.int .i64 (hd : Nat)) ∧ w9.cell? ⟨ob, 3, none⟩ = some (.int .i64 (f : Int)) ∧ w9.cell? ⟨ob, 4, none⟩ = some (.int .i64 (t : Int)) := ⟨c1, hc3, hc4⟩
              clear hf ht
              go_wp2_with fail
              refine wp_region_planD (fun u => u.cell? ⟨g, oo + j * 2, none⟩ = some (.int .i64 (hd : Nat)) ∧ u.cell? ⟨ob, 3, none⟩ = some (.int .i64 (f : Int)) ∧ u.cell? ⟨ob, 4, none⟩ = some (.int .i64 (t : Int))) 17 [(0, true), (1, true), (2, true), (3, true), (4, true), (5, true), (6, true), (7, true), (8, true), (9, true), (10, true), (11, false), (12, true), (13, true), (14, true), (15, true), (16, true)] (by kernel_rfl) (by kernel_rfl) (fun d _ _ _ _ h => by cases d <;> exact h) HS ?_
              iterate 11 (first | (apply planD_held rfl rfl rfl (by simp) HS; (intro w' hS K hK; go_simp; exact hK)) | (apply planD_wanted rfl rfl rfl (by simp) HS; (intro w' hS K hK; go_simp; exact hK)))
              refine planD_op rfl rfl (fun K hK => ?_)
              go_simp
              refine (HRd.out.1 w9.drew (Upd.refl _ w9).drew f t (by omega) (by omega)).mono ?_
              rintro e wa ⟨rfl, hu⟩
              dsimp only
              have HU : Hid (Upd (fun _ => False) w9 wa) := Lib.hid (((Upd.refl (fun _ => False) w9).drew).trans hu)
              have HT2 : Hid (PlX w most mb (some ⟨g, oo, none⟩) n d (k + 1) wa.drew) := Lib.hid ((HT.out.quiet HU.out.drew).mono (by omega))
              have hcx := HCX.out wa HU.out
              have c1a : wa.cell? ⟨g, oo + j * 2, none⟩ = some (.int .i64 (hd : Nat)) := (HU.out.cell (a := ⟨g, oo + j * 2, none⟩) (World.block_lt_of_cell? _ _ c1) (fun h => h)).trans c1
              refine hK _ _ _ (fun u h => h) (fun _ => ⟨c1a, hcx.2⟩) ?_
              clear hK
              have HS : wa.cell? ⟨g, oo + j * 2, none⟩ = some (.int .i64 (hd : Nat)) ∧ wa.cell? ⟨ob, 3, none⟩ = some (.int .i64 (f : Int)) ∧ wa.cell? ⟨ob, 4, none⟩ = some (.int .i64 (t : Int)) := ⟨c1a, hcx.2⟩
              try (simp only [Act.put, List.setIfInBounds_toArray, List.set_cons_zero, List.set_cons_succ])
              iterate 5 (first | (apply planD_held rfl rfl rfl (by simp) HS; (intro w' hS K hK; go_simp; exact hK)) | (apply planD_wanted rfl rfl rfl (by simp) HS; (intro w' hS K hK; go_simp; exact hK)))
              refine planD_nil ?_
              clear HS c1a c1 hc0 hc1 hc2 hc3 hc4 HT hu
              obtain ⟨hd0, hd3, hd4⟩ := hcx
              have hd2 := HC2.out wa HU.out
              have hp := part_ok s HRd.out.2.2 f t (by omega) (by omega) wa.drew
              obtain ⟨S1, hS1⟩ : ∃ S1 : ByteArray, (⟨((s.data.toList.drop f).take t).toArray⟩ : ByteArray) = S1 := ⟨_, rfl⟩
              rw [hS1] at hp ⊢
              have Hp := Lib.hid hp
              clear hp hS1 HRd HC2
              go_wp2_with fail
              have HS : wa.cell? ⟨g, oo + j * 2 + 1, none⟩ = some (.string s) ∧ wa.cell? ⟨ob, 3, none⟩ = some (.int .i64 (f : Int)) ∧ wa.cell? ⟨ob, 4, none⟩ = some (.int .i64 (t : Int)) := ⟨hd2, hd3, hd4⟩
              refine wp_region_planD (fun u => u.cell? ⟨g, oo + j * 2 + 1, none⟩ = some (.string s) ∧ u.cell? ⟨ob, 3, none⟩ = some (.int .i64 (f : Int)) ∧ u.cell? ⟨ob, 4, none⟩ = some (.int .i64 (t : Int))) 17 [(0, true), (1, true), (2, true), (3, true), (4, true), (5, true), (6, true), (7, true), (8, true), (9, true), (10, true), (11, true), (12, true), (13, false), (14, true), (15, true), (16, true)] (by kernel_rfl) (by kernel_rfl) (fun d _ _ _ _ h => by cases d <;> exact h) HS ?_
              iterate 13 (first | (apply planD_held rfl rfl rfl (by simp) HS; (intro w' hS K hK; go_simp; exact hK)) | (apply planD_wanted rfl rfl rfl (by simp) HS; (intro w' hS K hK; go_simp; exact hK)))
              refine planD_op rfl rfl (fun K hK => ?_)
              go_simp
              refine Hp.out.mono ?_
              rintro e wb ⟨rfl, rfl⟩
              dsimp only
              refine hK _ _ _ (fun u h => h) (fun _ => HS) ?_
              clear hK
              try (simp only [Act.put, List.setIfInBounds_toArray, List.set_cons_zero, List.set_cons_succ])
              iterate 3 (first | (apply planD_held rfl rfl rfl (by simp) HS; (intro w' hS K hK; go_simp; exact hK)) | (apply planD_wanted rfl rfl rfl (by simp) HS; (intro w' hS K hK; go_simp; exact hK)))
              refine planD_nil ?_
              clear HS Hp hd0 hd2 hd3 hd4 HU HCX
              generalize wa.drew = wb at *
              go_wp2_with fail
              exact ⟨⟨k + 1, n, d, _, by omega, rfl, by go_num, HT2⟩, by simp [intOf]; omega⟩
        · by_cases hn0 : 0 < n
          · have hi0 : o.i < 0 := by
              rcases Int.lt_or_le o.i 0 with h | h
              · exact h
              · exact absurd ⟨hn0, h⟩ hkk
            have hn0I : (0 : Int) < (n : Int) := by omega
            go_upto_block 2 with (first | ((with_reducible apply wpl_load_mid xg (xo + k * 5) [.int .u8 o.kind, .string o.data, .int .i64 o.i, .int .i64 o.fr, .int .i64 o.n]); exact rfl; exact hro; exact Try.underlying38; exact rfl; exact sizeBop; try (simp only [Act.put, List.setIfInBounds_toArray, List.set_cons_zero, List.set_cons_succ])) | ((with_reducible apply wpl_store_new); exact rfl; exact rfl; exact sizeBop; exact rfl; exact rfl; try (simp only [Act.put, List.setIfInBounds_toArray, List.set_cons_zero, List.set_cons_succ])))
            generalize wr.alloc (.cells #[.int .u8 o.kind, .string o.data, .int .i64 o.i, .int .i64 o.fr, .int .i64 o.n] 38) = w9 at *
            generalize wr.heap.size = ob at *
            rcases (by omega : m = 0 ∨ m = 1 ∨ m = 2 ∨ m = 3) with h0 | h0 | h0 | h0
            · obtain rfl : m = 0 := h0
              go_wp2_with fail
              refine (text_okI o.data Hok.out.1.data o.n w9).mono ?_
              rintro e wa ⟨t, rfl, hu⟩
              dsimp only
              have HA : Hid (PlX w most mb y n d k wa) := HT.out.quiet hu
              clear hu hc0 hc1 hc2 hc3 hc4 HT HC hro
              go_wp2_with fail
              refine (HA.out.put (by omega) t).mono ?_
              rintro e wb ⟨y', n', d', rfl, hb⟩
              dsimp only
              have HB := Lib.hid hb
              clear hb HA
              go_wp2_with fail
              exact ⟨⟨k + 1, n', d', y', by omega, rfl, by go_num, HB⟩, by simp [intOf]; omega⟩
            · obtain rfl : m = 1 := h0
              go_wp2_with fail
              refine (text_okI o.data Hok.out.1.data o.n w9).mono ?_
              rintro e wa ⟨t, rfl, hu⟩
              dsimp only
              have HA : Hid (PlX w most mb y n d k wa) := HT.out.quiet hu
              clear hu hc0 hc1 hc2 hc3 hc4 HT HC hro
              go_wp2_with fail
              refine (HA.out.put (by omega) t).mono ?_
              rintro e wb ⟨y', n', d', rfl, hb⟩
              dsimp only
              have HB := Lib.hid hb
              clear hb HA
              go_wp2_with fail
              exact ⟨⟨k + 1, n', d', y', by omega, rfl, by go_num, HB⟩, by simp [intOf]; omega⟩
            · obtain rfl : m = 2 := h0
              go_wp2_with fail
              refine (text_okI o.data Hok.out.1.data o.n w9).mono ?_
              rintro e wa ⟨t, rfl, hu⟩
              dsimp only
              have HA : Hid (PlX w most mb y n d k wa) := HT.out.quiet hu
              clear hu hc0 hc1 hc2 hc3 hc4 HT HC hro
              go_wp2_with fail
              refine (HA.out.put (by omega) t).mono ?_
              rintro e wb ⟨y', n', d', rfl, hb⟩
              dsimp only
              have HB := Lib.hid hb
              clear hb HA
              go_wp2_with fail
              exact ⟨⟨k + 1, n', d', y', by omega, rfl, by go_num, HB⟩, by simp [intOf]; omega⟩
            · obtain rfl : m = 3 := h0
              go_wp2_with fail
              refine (text_okI o.data Hok.out.1.data o.n w9).mono ?_
              rintro e wa ⟨t, rfl, hu⟩
              dsimp only
              have HA : Hid (PlX w most mb y n d k wa) := HT.out.quiet hu
              clear hu hc0 hc1 hc2 hc3 hc4 HT HC hro
              go_wp2_with fail
              refine (HA.out.put (by omega) t).mono ?_
              rintro e wb ⟨y', n', d', rfl, hb⟩
              dsimp only
              have HB := Lib.hid hb
              clear hb HA
              go_wp2_with fail
              exact ⟨⟨k + 1, n', d', y', by omega, rfl, by go_num, HB⟩, by simp [intOf]; omega⟩
          · obtain rfl : n = 0 := by omega
            go_upto_block 2 with (first | ((with_reducible apply wpl_load_mid xg (xo + k * 5) [.int .u8 o.kind, .string o.data, .int .i64 o.i, .int .i64 o.fr, .int .i64 o.n]); exact rfl; exact hro; exact Try.underlying38; exact rfl; exact sizeBop; try (simp only [Act.put, List.setIfInBounds_toArray, List.set_cons_zero, List.set_cons_succ])) | ((with_reducible apply wpl_store_new); exact rfl; exact rfl; exact sizeBop; exact rfl; exact rfl; try (simp only [Act.put, List.setIfInBounds_toArray, List.set_cons_zero, List.set_cons_succ])))
            generalize wr.alloc (.cells #[.int .u8 o.kind, .string o.data, .int .i64 o.i, .int .i64 o.fr, .int .i64 o.n] 38) = w9 at *
            generalize wr.heap.size = ob at *
            rcases (by omega : m = 0 ∨ m = 1 ∨ m = 2 ∨ m = 3) with h0 | h0 | h0 | h0
            · obtain rfl : m = 0 := h0
              go_wp2_with fail
              refine (text_okI o.data Hok.out.1.data o.n w9).mono ?_
              rintro e wa ⟨t, rfl, hu⟩
              dsimp only
              have HA : Hid (PlX w most mb y 0 d k wa) := HT.out.quiet hu
              clear hu hc0 hc1 hc2 hc3 hc4 HT HC hro
              go_wp2_with fail
              refine (HA.out.put (by omega) t).mono ?_
              rintro e wb ⟨y', n', d', rfl, hb⟩
              dsimp only
              have HB := Lib.hid hb
              clear hb HA
              go_wp2_with fail
              exact ⟨⟨k + 1, n', d', y', by omega, rfl, by go_num, HB⟩, by simp [intOf]; omega⟩
            · obtain rfl : m = 1 := h0
              go_wp2_with fail
              refine (text_okI o.data Hok.out.1.data o.n w9).mono ?_
              rintro e wa ⟨t, rfl, hu⟩
              dsimp only
              have HA : Hid (PlX w most mb y 0 d k wa) := HT.out.quiet hu
              clear hu hc0 hc1 hc2 hc3 hc4 HT HC hro
              go_wp2_with fail
              refine (HA.out.put (by omega) t).mono ?_
              rintro e wb ⟨y', n', d', rfl, hb⟩
              dsimp only
              have HB := Lib.hid hb
              clear hb HA
              go_wp2_with fail
              exact ⟨⟨k + 1, n', d', y', by omega, rfl, by go_num, HB⟩, by simp [intOf]; omega⟩
            · obtain rfl : m = 2 := h0
              go_wp2_with fail
              refine (text_okI o.data Hok.out.1.data o.n w9).mono ?_
              rintro e wa ⟨t, rfl, hu⟩
              dsimp only
              have HA : Hid (PlX w most mb y 0 d k wa) := HT.out.quiet hu
              clear hu hc0 hc1 hc2 hc3 hc4 HT HC hro
              go_wp2_with fail
              refine (HA.out.put (by omega) t).mono ?_
              rintro e wb ⟨y', n', d', rfl, hb⟩
              dsimp only
              have HB := Lib.hid hb
              clear hb HA
              go_wp2_with fail
              exact ⟨⟨k + 1, n', d', y', by omega, rfl, by go_num, HB⟩, by simp [intOf]; omega⟩
            · obtain rfl : m = 3 := h0
              go_wp2_with fail
              refine (text_okI o.data Hok.out.1.data o.n w9).mono ?_
              rintro e wa ⟨t, rfl, hu⟩
              dsimp only
              have HA : Hid (PlX w most mb y 0 d k wa) := HT.out.quiet hu
              clear hu hc0 hc1 hc2 hc3 hc4 HT HC hro
              go_wp2_with fail
              refine (HA.out.put (by omega) t).mono ?_
              rintro e wb ⟨y', n', d', rfl, hb⟩
              dsimp only
              have HB := Lib.hid hb
              clear hb HA
              go_wp2_with fail
              exact ⟨⟨k + 1, n', d', y', by omega, rfl, by go_num, HB⟩, by simp [intOf]; omega⟩
      · obtain rfl : k = M := by omega
        go_wp2_with fail
        refine (HR.out.whole (by omega)).mono ?_
        rintro e w3 ⟨rfl, hu⟩
        dsimp only
        have HF := Lib.hid (HR.out.upd.trans hu)
        clear hu
        go_wp2_with fail
        go_ret
        exact ⟨rfl, HF.out.below0⟩
end Go.Proofs.Ytmefbbmjamdnjaa

/- Crash, whatever waits. -/
import Derived.Test.YtihlijnobbonbaaGreatPa12
namespace Go.Proofs.YtihlijnobbonbaaGreat
open Go Go.RowKit
set_option linter.unusedSimpArgs false
set_option linter.unusedVariables false
set_option maxRecDepth 100000
set_option maxHeartbeats 2000000 in
theorem crash_core2 (b sb sc : Nat) (xa : Option Addr) (xc : Nat) (S : List Bytes) (W : List (Nat × Bytes)) (f : Int) (dd : Bool) (ka : Option Addr) (kc : Nat) (keep : List Bool) (cur : List Value) (w1 : World) (hb1 : w1.heap[b]? = some (.cells #[.slice (some ⟨sb, 0, none⟩) S.length sc, .slice xa W.length xc, .int .i64 f, .bool dd] 89 (0, 0)))
    (hwv1 : w1.ownsRow 0 116 513 (.slice xa W.length xc) W.length (waitsV W)) (hc1 : w1.heap[sb]? = some (.cells cur.toArray 114 (0, 0))) (hl : cur.length = sc * 512) (ht : cur.take (S.length * 512) = secsV S) (hsc : S.length ≤ sc)
    (hS : ∀ x ∈ S, x.length = 512) (hW : ∀ p ∈ W, p.1 < S.length ∧ p.2.length = 512) (hbs : b ≠ sb) (hwb : ∀ x, xa = some x → x.block ≠ b ∧ x.block ≠ sb) (hm : W.length ≤ 9223372036854775807)
    (hke : Sees w1 1 (.slice ka keep.length kc) keep.length (boolsV keep)) (hkb : ∀ x, ka = some x → 0 < keep.length → x.block ≠ b ∧ x.block ≠ sb) :
    Calls Tryz.prog 32 #[.pointer (some ⟨b, 0, none⟩), .slice ka keep.length kc] w1 fun e w' => e = .returned (.tuple #[]) ∧
      SecsR w1 b (.cells #[.slice (some ⟨sb, 0, none⟩) S.length sc, .slice none 0 0, .int .i64 (-1), .bool false] 89 (0, 0)) sb sc (done S (kept W keep)) w' := by
  obtain ⟨c0, c1, c2, c3⟩ := four hb1
  have hm2 : (W.length : Int) ≤ 9223372036854775807 := by omega
  have HW := Lib.hid hW
  have HS := Lib.hid hS
  have Ht := Lib.hid ht
  have Hl := Lib.hid hl
  have Hke := Lib.hid hke
  clear hm hW hS ht hl hke
  go_enter Tryz.func32, Tryz.ntmps32
  go_wp2_with fail
  go_loopw [13] (fun v wr => ∃ k : Nat, k ≤ W.length ∧ v = .int .i64 k ∧ SecsR w1 b (.cells #[.slice (some ⟨sb, 0, none⟩) S.length sc, .slice xa W.length xc, .int .i64 f, .bool dd] 89 (0, 0)) sb sc (done S (kept (W.take k) keep)) wr)
    (fun v _ => W.length - (intOf v).toNat)
  case atStart => exact ⟨0, Nat.zero_le _, rfl, Upd.refl _ _, hb1, cur, hc1, Hl.out, Ht.out⟩
  case round =>
    obtain ⟨k, hk, rfl, hR⟩ := hrel
    have hRb := hR.2.1
    obtain ⟨r0, r1, r2, r3⟩ := four hRb
    clear c0 c1 c2 c3
    by_cases hlt : k < W.length
    · obtain ⟨g, rfl⟩ : ∃ g, xa = some ⟨g, 0, none⟩ := by
        rcases hwv1.2 with ⟨_, h0⟩ | ⟨g, _, _, h, _⟩
        · omega
        · cases h; exact ⟨g, rfl⟩
      have hgb := hwb _ rfl
      obtain ⟨i, d, hWk⟩ : ∃ i d, W[k] = (i, d) := ⟨_, _, rfl⟩
      have hdt := kept_take W keep k hlt
      have hpc := waits_piece (fun p hp => (HW.out p hp).2) k hlt
      have hp := HW.out W[k] (List.getElem_mem hlt)
      rw [hWk] at hdt hpc hp
      have hwvr := hR.1.row hwv1 (fun j hj e => by cases hj; rcases e with e | e; exact hgb.1 e; exact hgb.2 e)
      have hrg := row_range hwvr hpc
      have hlt' : (k : Int) < (W.length : Int) := by omega
      have hq1 := hp.1
      have hq1' : (i : Int) < (S.length : Int) := by have := hp.1; omega
      have Hq2 : Hid (d.length = 512) := hp.2
      have Hpl : Hid ((waitV (i, d)).length = 513) := waitV_length hp.2
      have Hdt := Lib.hid hdt
      clear hp hdt hpc hWk
      -- is it kept?
      have hkeep : (k < keep.length ∧ ∃ kb ko, ka = some ⟨kb, ko, none⟩ ∧ wr.cell? ⟨kb, ko + k, none⟩ = some (.bool (keep.getD k false))) ∨ (¬ k < keep.length ∧ keep.getD k false = false) := by
        by_cases h : k < keep.length
        · refine .inl ⟨h, ?_⟩
          obtain ⟨_, _, xo, _, e, hce⟩ := Hke.out
          obtain ⟨kb, ko, rfl, hr⟩ := hce (by omega)
          · cases e
            refine ⟨kb, ko, rfl, hR.1.cell_some (hr k (.bool (keep.getD k false)) (by simp [boolsV, List.getD, h])) ?_⟩
            have := hkb _ rfl (by omega)
            intro e; rcases e with e | e
            · exact this.1 e
            · exact this.2 e
        · exact .inr ⟨h, by simp [List.getD, List.getElem?_eq_none (Nat.le_of_not_lt h)]⟩
      have hXR : SecsR w1 b (.cells #[.slice (some ⟨sb, 0, none⟩) S.length sc, .slice (some ⟨g, 0, none⟩) W.length xc, .int .i64 f, .bool dd] 89 (0, 0)) sb sc (done S (kept (W.take k) keep)) (wr.alloc (.cells (waitV (i, d)).toArray 116)) := by
        obtain ⟨q1, q2, cu, q3, q4⟩ := hR
        exact ⟨q1.alloc _, alloc_heap q2 _, cu, alloc_heap q3 _, q4⟩
      have hXn := heap_alloc_new wr (.cells (waitV (i, d)).toArray 116)
      have HXR := Lib.hid hXR
      have HXn := Lib.hid hXn
      clear hXR hXn hR hRb
      rcases hkeep with ⟨hkl, kb, ko, rfl, hkc⟩ | ⟨hkl, hkd⟩
      · have hkl' : (k : Int) < (keep.length : Int) := by omega
        generalize hkv : keep.getD k false = kv at hkc
        have hkN : kb < wr.heap.size := World.block_lt_of_cell? _ _ hkc
        cases kv with
        | false =>
          have Hkv := Lib.hid hkv
          clear hkv
          go_wp2_with (first | ((with_reducible apply wpl_load_mid g (k * 513) (waitV (i, d))); exact rfl; exact hrg; exact Tryz.underlying116; exact rfl; (rw [Hpl.out]; exact sizeW); simp only [Act.put, List.setIfInBounds_toArray, List.set_cons_zero, List.set_cons_succ]) | ((with_reducible apply wpl_store_new); exact rfl; exact rfl; (rw [List.size_toArray, Hpl.out]; exact sizeW); exact Tryz.zeroCells116_size.trans (by rw [List.size_toArray, Hpl.out]); exact waitV_all _ _; simp only [Act.put, List.setIfInBounds_toArray, List.set_cons_zero, List.set_cons_succ]))
          have e : kept (W.take (k + 1)) keep = kept (W.take k) keep := by rw [Hdt.out, Hkv.out]; simp
          exact ⟨⟨k + 1, by omega, by go_num, by rw [e]; exact HXR.out⟩, by simp [intOf]; omega⟩
        | true =>
          have Hkv := Lib.hid hkv
          clear hkv
          go_wp2_with (first | ((with_reducible apply wpl_load_mid g (k * 513) (waitV (i, d))); exact rfl; exact hrg; exact Tryz.underlying116; exact rfl; (rw [Hpl.out]; exact sizeW); simp only [Act.put, List.setIfInBounds_toArray, List.set_cons_zero, List.set_cons_succ]) | ((with_reducible apply wpl_store_new); exact rfl; exact rfl; (rw [List.size_toArray, Hpl.out]; exact sizeW); exact Tryz.zeroCells116_size.trans (by rw [List.size_toArray, Hpl.out]); exact waitV_all _ _; simp only [Act.put, List.setIfInBounds_toArray, List.set_cons_zero, List.set_cons_succ]))
          have hXR := HXR.out
          have hXn := HXn.out
          generalize hX : wr.alloc (.cells (waitV (i, d)).toArray 116) = X at *
          generalize hN : wr.heap.size = N at *
          clear hX hN r0 r1 r2 r3 hrg hwvr HXR HXn hkc hkN
          obtain ⟨x0, x1, x2, x3⟩ := four hXR.2.1
          have hr0 : X.rangeAt N 0 (waitV (i, d)) := rangeAt_of_row hXn (by simp)
          have hr1 : X.rangeAt N 1 (bvs d) := rangeAt_of_row hXn (by simp [waitV])
          have hc0 : X.cell? ⟨N, 0, none⟩ = some (.int .i64 i) := rangeAt.cell hr0 0 rfl
          have HS2 : X.drew.cell? ⟨b, 0, none⟩ = some (.slice (some ⟨sb, 0, none⟩) S.length sc) ∧ X.drew.cell? ⟨N, 0, none⟩ = some (.int .i64 i) ∧ X.drew.rangeAt N 1 (bvs d) := ⟨x0, hc0, hr1⟩
          refine wp_region_plan (fun w' => w'.cell? ⟨b, 0, none⟩ = some (.slice (some ⟨sb, 0, none⟩) S.length sc) ∧ w'.cell? ⟨N, 0, none⟩ = some (.int .i64 i) ∧ w'.rangeAt N 1 (bvs d)) 9 [(0, true), (1, true), (2, true), (3, true), (4, true), (5, true), (6, true), (7, true), (8, true), (9, false)] (by kernel_rfl) (by kernel_rfl) (fun d _ _ _ _ h => by cases d <;> exact h) HS2 ?_
          iterate 7 (apply plan_held rfl rfl rfl (by simp) HS2; (intro w' hS K hK; go_simp; exact hK))
          apply plan_held rfl rfl rfl (by simp) HS2
          · intro w' hS K hK
            exact gives_load_mid N 1 rfl _ _ hS.2.2 Tryz.underlying114 rfl (by rw [bvs_length, Hq2.out]; exact sizeK) hK
          simp only [Act.put, List.setIfInBounds_toArray, List.set_cons_zero, List.set_cons_succ]
          (apply plan_held rfl rfl rfl (by simp) HS2; (intro w' hS K hK; go_simp; exact hK))
          refine plan_op rfl rfl (fun K hK => ?_)
          obtain ⟨q1, q2, cu, q3, q4, q5⟩ := id hXR
          have hdl : (done S (kept (W.take k) keep)).length = S.length := done_length _ _
          refine wp_store_mid' sb (i * 512) (bvs d) rfl rfl (there_of_row q3 (by rw [bvs_length, Hq2.out, List.size_toArray, q4]; omega)) (by rw [bvs_length, Hq2.out]; exact sizeK) (bvs_one d) ?_
          refine hK _ _ (fun h => absurd rfl h) ?_
          refine plan_nil ?_
          simp only [Act.put, List.setIfInBounds_toArray, List.set_cons_zero, List.set_cons_succ]
          have hSR := hXR.drew.store hbs (by rw [hdl]; exact hsc) (done_ok HS.out (fun p hp => (HW.out p (List.mem_of_mem_take (kept_mem p hp))).2)) i (by rw [hdl]; exact hq1) d Hq2.out
          have e : done S (kept (W.take (k + 1)) keep) = (done S (kept (W.take k) keep)).set i d := by rw [Hdt.out, Hkv.out, done_append]; rfl
          rw [← e] at hSR
          have HSR := Lib.hid hSR
          clear hSR hXR q1 q2 q3 q4 q5 e
          go_wp2_with fail
          exact ⟨⟨k + 1, by omega, by go_num, HSR.out⟩, by simp [intOf]; omega⟩
      · have hkl' : (keep.length : Int) ≤ (k : Int) := by omega
        have Hkv := Lib.hid hkd
        clear hkd
        go_wp2_with (first | ((with_reducible apply wpl_load_mid g (k * 513) (waitV (i, d))); exact rfl; exact hrg; exact Tryz.underlying116; exact rfl; (rw [Hpl.out]; exact sizeW); simp only [Act.put, List.setIfInBounds_toArray, List.set_cons_zero, List.set_cons_succ]) | ((with_reducible apply wpl_store_new); exact rfl; exact rfl; (rw [List.size_toArray, Hpl.out]; exact sizeW); exact Tryz.zeroCells116_size.trans (by rw [List.size_toArray, Hpl.out]); exact waitV_all _ _; simp only [Act.put, List.setIfInBounds_toArray, List.set_cons_zero, List.set_cons_succ]))
        have e : kept (W.take (k + 1)) keep = kept (W.take k) keep := by rw [Hdt.out, Hkv.out]; simp
        exact ⟨⟨k + 1, by omega, by go_num, by rw [e]; exact HXR.out⟩, by simp [intOf]; omega⟩
    · obtain rfl : k = W.length := by omega
      have fr1 := unfrozen hRb 1
      have fr2 := unfrozen hRb 2
      have fr3 := unfrozen hRb 3
      rw [List.take_length] at hR
      have HR := Lib.hid hR
      clear hR
      go_wp2_with fail
      go_end0
      obtain ⟨q1, q2, cu, q3, q4, q5⟩ := HR.out
      rw [done_length] at q5
      refine ⟨rfl, ?_, ?_, cu, ?_, q4, by rw [done_length]; exact q5⟩
      · exact ((q1.setCell _ (.inl (.inl rfl))).setCell _ (.inl (.inl rfl))).setCell _ (.inl (.inl rfl))
      · rw [stored (stored (stored q2 1 _) 2 _) 3 _]; rfl
      · rw [heap_setCell_other _ _ _ _ (fun e => hbs e.symm), heap_setCell_other _ _ _ _ (fun e => hbs e.symm), heap_setCell_other _ _ _ _ (fun e => hbs e.symm)]; exact q3
theorem crash_disk2 {w : World} {b : Nat} {D : DSt} {F : Nat → Prop} (hD : DiskAt w b D F) (ka : Option Addr) (kc : Nat) (keep : List Bool) (hke : Sees w 1 (.slice ka keep.length kc) keep.length (boolsV keep)) (hkF : ∀ x, ka = some x → 0 < keep.length → ¬ F x.block) :
    Calls Tryz.prog 32 #[.pointer (some ⟨b, 0, none⟩), .slice ka keep.length kc] w fun e w' => e = .returned (.tuple #[]) ∧ DiskAt w' b (D.crash keep) F ∧ Upd F w w' := by
  obtain ⟨hOk, hFb, hFlt, sb, sc, scur, wv, hb, hs, hwv, hFs, hbs, hFw⟩ := id hD
  have hm : D.waits.length ≤ 9223372036854775807 := (sees_of_row hwv).2.1
  obtain ⟨xa, xc, rfl⟩ := (sees_of_row hwv).shape
  refine (crash_core2 b sb sc xa xc D.secs D.waits D.fuel D.dead ka kc keep scur.toList w hb hwv (by simpa using hs.1) (by simpa using hs.2.2.2.1) hs.2.2.2.2 hs.2.1 hOk.secs hOk.waits hbs (fun x hx => by subst hx; exact (hFw _ rfl).2) hm hke
    (fun x hx h0 => ⟨fun e => hkF x hx h0 (by rw [e]; exact hFb), fun e => hkF x hx h0 (by rw [e]; exact hFs)⟩)).mono ?_
  rintro e' w' ⟨rfl, h⟩
  exact ⟨rfl, DiskAt.of_secs hFlt hFb hFs hbs hs.2.2.1 (by rw [done_length]; exact hs.2.1) (by rw [done_length]; exact hOk.one) (by rw [done_length]; exact hOk.most) (done_ok hOk.secs (fun p hp => (hOk.waits p (kept_mem p hp)).2))
    (by omega) (by omega) rfl _ (done_length _ _).symm h⟩
end Go.Proofs.YtihlijnobbonbaaGreat

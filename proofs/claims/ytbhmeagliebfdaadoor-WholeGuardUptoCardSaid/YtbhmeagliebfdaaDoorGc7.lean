/- cond: holds. -/
import Derived.Test.YtbhmeagliebfdaaDoorGc6
namespace Go.Proofs.YtbhmeagliebfdaaDoor
open Go Go.RowKit
set_option linter.unusedSimpArgs false
set_option linter.unusedVariables false
set_option maxRecDepth 100000
theorem GrOk.len {w : World} {r : GrR} (h : GrOk w r) : r.g.conds.length = r.n := by
  have h1 := h.1
  rw [flat_length cndV 3 r.g.conds (fun _ _ => rfl)] at h1
  omega
theorem GrOk.upd {w w' : World} {r : GrR} (h : GrOk w r) (hu : Upd (fun _ => False) w w') : GrOk w' r := Sees.upd hu h (fun _ _ _ h => h)
theorem GrOk.at {w : World} {r : GrR} (h : GrOk w r) (i : Nat) (hi : i < r.g.conds.length) : ∃ g o, r.x = some ⟨g, o, none⟩ ∧ w.rangeAt g (o + i * 3) (cndV r.g.conds[i]) := by
  have hl := h.len
  have h0 : 0 < r.n := by omega
  obtain ⟨_, _, y, d, e, hc⟩ := h
  obtain ⟨g, o, hy, hr⟩ := hc h0
  obtain ⟨gg, x, n, c⟩ := r
  subst hy
  cases e
  exact ⟨g, o, rfl, rangeAt.sub (w := w) (b := g) (off := o) hr (i * 3) (flat_piece cndV 3 gg.conds i hi (fun _ _ => rfl))⟩
theorem all_take {α : Type} (f : α → Bool) (l : List α) (i : Nat) (hi : i < l.length) : (l.take (i + 1)).all f = ((l.take i).all f && f l[i]) := by
  rw [List.take_succ_eq_append_getElem hi, List.all_append]; simp
set_option maxHeartbeats 4000000 in
theorem holds_ok {w : World} (r : GrR) (fr : FctR) (hr : GrOk w r) (hf : FctOk w fr) (he : fr.f.etag = []) :
    Calls Tryd.prog 24 #[.agg (grV r).toArray, .agg (fctV fr).toArray] w fun e w' => e = .returned (.bool (holdsP r.g fr.f)) ∧ Upd (fun _ => False) w w' := by
  have hln := hr.len
  obtain ⟨gr, xg, n, cg⟩ := r
  obtain ⟨ft, xp, cp, xt, ct⟩ := fr
  simp only at hln he
  have hnI : (n : Int) ≤ 9223372036854775807 := by have := hr.2.1; unfold maxLen at this; simp only at this; omega
  obtain ⟨m, hm⟩ : ∃ m, ft.path.length = m := ⟨_, rfl⟩
  obtain ⟨k, hk⟩ : ∃ k, ft.toks.length = k := ⟨_, rfl⟩
  have hto : Sees w 1 (.slice xt k ct) k (strsV ft.toks) := by have := hf.2; simp only [hk] at this; exact this
  simp only [grV, fctV, hm, hk, he, show bs [] = ⟨#[]⟩ from rfl]
  have hal : Upd (fun _ => False) w ((w.alloc (.cells #[.bool gr.tagged, .string (bs gr.tag), .slice xg n cg] 42)).alloc (.cells #[.slice xp m cp, .string ⟨#[]⟩, .slice xt k ct] 31)) := ((Upd.refl _ w).alloc _).alloc _
  have hcg : CellsA ((w.alloc (.cells #[.bool gr.tagged, .string (bs gr.tag), .slice xg n cg] 42)).alloc (.cells #[.slice xp m cp, .string ⟨#[]⟩, .slice xt k ct] 31)) w.heap.size 42 [.bool gr.tagged, .string (bs gr.tag), .slice xg n cg] := alloc_heap (CellsA.new w 42 [.bool gr.tagged, .string (bs gr.tag), .slice xg n cg]) _
  have hcf : CellsA ((w.alloc (.cells #[.bool gr.tagged, .string (bs gr.tag), .slice xg n cg] 42)).alloc (.cells #[.slice xp m cp, .string ⟨#[]⟩, .slice xt k ct] 31)) (w.heap.size + 1) 31 [.slice xp m cp, .string ⟨#[]⟩, .slice xt k ct] := by
    have := CellsA.new (w.alloc (.cells #[.bool gr.tagged, .string (bs gr.tag), .slice xg n cg] 42)) 31 [.slice xp m cp, .string ⟨#[]⟩, .slice xt k ct]
    simpa using this
  have hg2 := hcg.cell 2
  simp only [List.getElem?_cons_zero, List.getElem?_cons_succ] at hg2
  generalize bs gr.tag = TG at hal hcg hcf hg2 ⊢
  have hP : holdsP gr ft = gr.conds.all fun c => isP c ft != c.not := rfl
  have H := Lib.hid (And.intro hal (And.intro hr (And.intro hto (And.intro hcf (And.intro hln (And.intro hP he))))))
  clear hal hr hto hcf hln hcg hf hk hm hP he
  go_enter Tryd.func24, Tryd.ntmps24
  go_wp2_with fail
  go_loopw [11] (fun iv wr => ∃ (i : Nat), i ≤ n ∧ iv = .int .i64 i ∧ Hid (Upd (fun _ => False) ((w.alloc (.cells #[.bool gr.tagged, .string TG, .slice xg n cg] 42)).alloc (.cells #[.slice xp m cp, .string ⟨#[]⟩, .slice xt k ct] 31)) wr ∧ ((gr.conds.take i).all fun c => isP c ft != c.not) = true)) (fun iv _ => n - (intOf iv).toNat)
  case atStart => exact ⟨0, Nat.zero_le _, rfl, Lib.hid ⟨Upd.refl _ _, by simp⟩⟩
  case round =>
    obtain ⟨i, hi, rfl, HR⟩ := hrel
    by_cases hlt : i < n
    · have hltI : (i : Int) < (n : Int) := by omega
      have hil : i < gr.conds.length := by rw [H.out.2.2.2.2.1]; exact hlt
      obtain ⟨g, o, hxg, hrg⟩ := GrOk.at (H.out.2.1.upd (H.out.1.trans HR.out.1)) i hil
      simp only at hxg
      subst hxg
      have hta := all_take (fun c => isP c ft != c.not) gr.conds i hil
      rw [HR.out.2, Bool.true_and] at hta
      have hal2 : (gr.conds.all fun c => isP c ft != c.not) = (((gr.conds.take (i + 1)).all fun c => isP c ft != c.not) && ((gr.conds.drop (i + 1)).all fun c => isP c ft != c.not)) := by
        rw [← List.all_append, List.take_append_drop]
      obtain ⟨⟨nt, tok, et⟩, hc⟩ : ∃ c, gr.conds[i] = c := ⟨_, rfl⟩
      rw [hc] at hta
      simp only at hrg
      rw [hc] at hrg
      simp only [cndV] at hrg
      have hal3 : Upd (fun _ => False) wr (wr.alloc (.cells #[.bool nt, .string (bs tok), .string (bs et)] 44)) := (Upd.refl _ wr).alloc _
      have hcs := CellsA.new wr 44 [.bool nt, .string (bs tok), .string (bs et)]
      have hc0 := hcs.cell 0
      have hc1 := hcs.cell 1
      have hcfr := H.out.2.2.2.1.upd (HR.out.1.trans hal3) (fun h => h)
      have hf1 := hcfr.cell 1
      have hf2 := hcfr.cell 2
      simp only [List.getElem?_cons_zero, List.getElem?_cons_succ] at hc0 hc1 hf1 hf2
      have hha := has_ok (Sees.upd (H.out.1.trans (HR.out.1.trans hal3)) H.out.2.2.1 (fun _ _ _ h => h)) tok
      have n1 := bs_nil_iff tok
      have his : isP ⟨nt, tok, et⟩ ft = if tok ≠ [] then decide (tok ∈ ft.toks) else false := by
        unfold isP
        simp only [H.out.2.2.2.2.2.2]
        by_cases h : tok = [] <;> simp [h]
      obtain ⟨S, hS⟩ : ∃ S, bs tok = S := ⟨_, rfl⟩
      rw [hS] at hrg hc0 hc1 hha n1 hal3
      rw [hS] at hf1 hf2
      have hwu := HR.out.1.trans hal3
      have H2 := Lib.hid (And.intro hha (And.intro hwu (And.intro hta hal2)))
      have His := Lib.hid his
      clear hha hwu hta hal2 hal3 hcs hcfr hc his hS hil HR
      by_cases ht0 : tok = []
      · rw [decide_eq_true ht0] at n1
        have hcv : isP ⟨nt, tok, et⟩ ft = false := by rw [His.out, if_neg (by simpa using ht0)]
        cases nt
        · have hres : Hid (holdsP gr ft = false) := Lib.hid (by rw [H.out.2.2.2.2.2.1, H2.out.2.2.2, H2.out.2.2.1, hcv]; rfl)
          clear hcv ht0 His
          go_wp2_with (first | ((with_reducible apply wpl_load_mid g (o + i * 3) [.bool false, .string S, .string (bs et)]); exact rfl; exact hrg; exact Tryd.underlying44; exact rfl; exact sizeCnd; try (simp only [Act.put, List.setIfInBounds_toArray, List.set_cons_zero, List.set_cons_succ])) | ((with_reducible apply wpl_store_new); exact rfl; exact rfl; exact sizeCnd; exact rfl; exact rfl; try (simp only [Act.put, List.setIfInBounds_toArray, List.set_cons_zero, List.set_cons_succ])))
          go_ret
          exact ⟨by rw [hres.out]; rfl, H.out.1.trans H2.out.2.1⟩
        · have hres : Hid (((gr.conds.take (i + 1)).all fun c => isP c ft != c.not) = true) := Lib.hid (by rw [H2.out.2.2.1, hcv]; rfl)
          have HU := Lib.hid H2.out.2.1
          clear hcv ht0 His H2
          go_wp2_with (first | ((with_reducible apply wpl_load_mid g (o + i * 3) [.bool true, .string S, .string (bs et)]); exact rfl; exact hrg; exact Tryd.underlying44; exact rfl; exact sizeCnd; try (simp only [Act.put, List.setIfInBounds_toArray, List.set_cons_zero, List.set_cons_succ])) | ((with_reducible apply wpl_store_new); exact rfl; exact rfl; exact sizeCnd; exact rfl; exact rfl; try (simp only [Act.put, List.setIfInBounds_toArray, List.set_cons_zero, List.set_cons_succ])))
          exact ⟨⟨i + 1, by omega, by go_num, Lib.hid ⟨HU.out, hres.out⟩⟩, by simp [intOf] <;> omega⟩
      · rw [decide_eq_false ht0] at n1
        have hcv : isP ⟨nt, tok, et⟩ ft = decide (tok ∈ ft.toks) := by rw [His.out, if_pos ht0]
        obtain ⟨B, hB⟩ : ∃ B, decide (tok ∈ ft.toks) = B := ⟨_, rfl⟩
        rw [hB] at hcv H2
        have H3 := Lib.hid (And.intro H2.out.1 (And.intro H2.out.2.1 (And.intro H2.out.2.2 hcv)))
        clear hcv ht0 His H2 hB
        go_wp2_with (first | ((with_reducible apply wpl_load_mid g (o + i * 3) [.bool nt, .string S, .string (bs et)]); exact rfl; exact hrg; exact Tryd.underlying44; exact rfl; exact sizeCnd; try (simp only [Act.put, List.setIfInBounds_toArray, List.set_cons_zero, List.set_cons_succ])) | ((with_reducible apply wpl_store_new); exact rfl; exact rfl; exact sizeCnd; exact rfl; exact rfl; try (simp only [Act.put, List.setIfInBounds_toArray, List.set_cons_zero, List.set_cons_succ])))
        refine H3.out.1.mono ?_
        rintro e w3 ⟨rfl, rfl⟩
        dsimp only
        cases B <;> cases nt
        case false.false =>
          have hres : Hid (holdsP gr ft = false) := Lib.hid (by rw [H.out.2.2.2.2.2.1, H3.out.2.2.1.2, H3.out.2.2.1.1, H3.out.2.2.2]; rfl)
          go_wp2_with fail
          go_ret
          exact ⟨by rw [hres.out]; rfl, H.out.1.trans H3.out.2.1⟩
        case true.true =>
          have hres : Hid (holdsP gr ft = false) := Lib.hid (by rw [H.out.2.2.2.2.2.1, H3.out.2.2.1.2, H3.out.2.2.1.1, H3.out.2.2.2]; rfl)
          go_wp2_with fail
          go_ret
          exact ⟨by rw [hres.out]; rfl, H.out.1.trans H3.out.2.1⟩
        case false.true =>
          have hres : Hid (((gr.conds.take (i + 1)).all fun c => isP c ft != c.not) = true) := Lib.hid (by rw [H3.out.2.2.1.1, H3.out.2.2.2]; rfl)
          have HU := Lib.hid H3.out.2.1
          clear H3
          go_wp2_with fail
          exact ⟨⟨i + 1, by omega, by go_num, Lib.hid ⟨HU.out, hres.out⟩⟩, by simp [intOf] <;> omega⟩
        case true.false =>
          have hres : Hid (((gr.conds.take (i + 1)).all fun c => isP c ft != c.not) = true) := Lib.hid (by rw [H3.out.2.2.1.1, H3.out.2.2.2]; rfl)
          have HU := Lib.hid H3.out.2.1
          clear H3
          go_wp2_with fail
          exact ⟨⟨i + 1, by omega, by go_num, Lib.hid ⟨HU.out, hres.out⟩⟩, by simp [intOf] <;> omega⟩
    · obtain rfl : i = n := by omega
      have hres : Hid (holdsP gr ft = true) := Lib.hid (by
        have h := HR.out.2
        rw [List.take_of_length_le (by rw [H.out.2.2.2.2.1]; exact Nat.le_refl _)] at h
        rw [H.out.2.2.2.2.2.1, h])
      have HU := Lib.hid (H.out.1.trans HR.out.1)
      clear HR
      go_wp2_with fail
      go_ret
      exact ⟨by rw [hres.out]; rfl, HU.out⟩
end Go.Proofs.YtbhmeagliebfdaaDoor

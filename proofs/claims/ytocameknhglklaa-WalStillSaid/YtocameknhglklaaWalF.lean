/- docketlaw03.fixed and what it leans on. -/
import Derived.Test.YtocameknhglklaaWalP
namespace Go.Proofs.Ytocameknhglklaa
open Go.RowKit
set_option linter.unusedSimpArgs false
set_option linter.unusedVariables false
set_option maxRecDepth 100000

theorem make_inv {D : DSt} {fr n : Nat} (hOk : D.Ok) (h2 : 2 ≤ n) (hf : fr + n ≤ D.secs.length) (hd : D.dead = false) (hfu : D.fuel < 0) :
    (makeD D fr n).2 = 0 ∧ Inv (LSt.made fr n) (makeD D fr n).1 0 [] ∧ (makeD D fr n).1.fuel = D.fuel ∧ (makeD D fr n).1.waits = [] ∧ (makeD D fr n).1.secs.length = D.secs.length := by
  have hfl := DSt.flush_eq (D := D) hd (by omega)
  have hm : makeD D fr n = (((LSt.made fr n).mark D.flush.1).2.1, ((LSt.made fr n).mark D.flush.1).2.2) := by
    rw [makeD, if_pos (by rw [hfl])]
  rw [hm]
  have hb := burnt_neg hfu
  rcases mark_spec (LSt.made fr n) D.flush.1 (by rw [hfl]; exact hd) (by rw [hfl]; show fr < _; rw [done_length]; omega) with ⟨a1, a2, a3, a4, a5, a6⟩ | ⟨a1, a2, a3, a4, a5, a6⟩
  · have e1 : D.flush.1.fuel = D.fuel := by rw [hfl]; exact hb
    have e2 : D.flush.1.waits = [] := by rw [hfl]
    have e3 : D.flush.1.secs.length = D.secs.length := by rw [hfl]; exact done_length _ _
    rw [e2] at a4
    refine ⟨a1, made_inv (S := D.flush.1.secs) h2 (by rw [e3]; exact hf) (by rw [e3]; exact hOk.most) a3 a4 a5, (a6 (by rw [e1]; exact hfu)).trans e1, a5, ?_⟩
    rw [a4, List.length_set]
    exact e3
  · have e1 : D.flush.1.fuel = D.fuel := by rw [hfl]; exact hb
    rw [e1] at a6
    omega
theorem batch_eq (s : ByteArray) (t : ByteArray) : (s.toList == t.toList) = decide (s = t) := by
  have h : s.toList = t.toList ↔ s = t := by
    constructor
    · intro h
      rw [← strV_data s, ← strV_data t]
      have e : ∀ x : ByteArray, x.data.toList = x.toList := fun x => by
        have := strV_list x.data.toList
        rw [strV_data] at this
        exact this.symm
      rw [e, e, h]
    · rintro rfl; rfl
  by_cases hst : s = t
  · subst hst; simp
  · rw [decide_eq_false hst, beq_eq_false_iff_ne]
    exact fun h' => hst (h.1 h')
set_option maxHeartbeats 1000000 in
theorem same_ok (xa xb : Option Addr) (ca cb : Nat) (a b : Batch) (w : World) (ha : Sees w 1 (.slice xa a.length ca) a.length (strsV a)) (hb : Sees w 1 (.slice xb b.length cb) b.length (strsV b)) :
    Calls Try.prog 36 #[.slice xa a.length ca, .slice xb b.length cb] w fun e w' => e = .returned (.bool (decide (a = b))) ∧ Upd (fun _ => False) w w' := by
  have hm := ha.2.1
  have hlm : (a.length : Int) ≤ 9223372036854775807 := by unfold maxLen at hm; omega
  have hlb : (b.length : Int) ≤ 9223372036854775807 := by have := hb.2.1; unfold maxLen at this; omega
  have H := Lib.hid (And.intro ha hb)
  clear ha hb hm
  by_cases hl : a.length = b.length
  · have Hl := Lib.hid hl
    have q0 : (((a.length : Nat) : Int) != ((b.length : Nat) : Int)) = false := by rw [hl]; simp
    have q0' : (a.length != b.length) = false := by rw [hl]; simp
    clear hl
    go_enter Try.func36, Try.ntmps36
    go_wp2_with fail
    go_loopw [5] (fun i wr => ∃ k : Nat, k ≤ a.length ∧ i = .int .i64 k ∧ Hid (a.take k = b.take k ∧ Upd (fun _ => False) w wr)) (fun i _ => a.length - (intOf i).toNat)
    case atStart => exact ⟨0, Nat.zero_le _, rfl, ⟨rfl, Upd.refl _ _⟩⟩
    case round =>
      obtain ⟨k, hk, rfl, HR⟩ := hrel
      by_cases hlt : k < a.length
      · have hlt2 : (k : Int) < (a.length : Int) := by omega
        have hltb : k < b.length := by rw [← Hl.out]; exact hlt
        have hltb2 : (k : Int) < (b.length : Int) := by omega
        obtain ⟨r, hr⟩ : ∃ r, a[k] = r := ⟨_, rfl⟩
        obtain ⟨s, hs⟩ : ∃ s, b[k] = s := ⟨_, rfl⟩
        have hA := H.out.1.upd HR.out.2 (fun _ _ _ h => h)
        have hB := H.out.2.upd HR.out.2 (fun _ _ _ h => h)
        obtain ⟨_, _, xo, cc, e', hc⟩ := hA
        cases e'
        obtain ⟨g, off, rfl, hrr⟩ := hc (by omega)
        obtain ⟨_, _, xo, cc, e', hc'⟩ := hB
        cases e'
        obtain ⟨g', off', rfl, hrr'⟩ := hc' (by omega)
        have hcell : wr.drew.cell? ⟨g, off + k, none⟩ = some (.string r) := hrr k _ (by simp [strsV, hlt, hr])
        have hcell' : wr.drew.cell? ⟨g', off' + k, none⟩ = some (.string s) := hrr' k _ (by simp [strsV, hltb, hs])
        have Hrs := Lib.hid (And.intro hr hs)
        have hk0 : (0 : Int) ≤ (k : Int) := by omega
        have HS : wr.drew.cell? ⟨g, off + k, none⟩ = some (.string r) ∧ wr.drew.cell? ⟨g', off' + k, none⟩ = some (.string s) := ⟨hcell, hcell'⟩
        have heq := batch_eq r s
        clear hc hc' hrr hrr' hr hs hcell hcell'
        go_wp2_with fail
        refine wp_region_planD (fun w' => w'.cell? ⟨g, off + k, none⟩ = some (.string r) ∧ w'.cell? ⟨g', off' + k, none⟩ = some (.string s)) 9 [(0, true), (1, true), (2, true), (3, true), (4, true), (5, true), (6, true), (7, true), (8, true)] (by kernel_rfl) (by kernel_rfl) (fun d _ _ _ _ h => by cases d <;> exact h) HS ?_
        iterate 9 (apply planD_held rfl rfl rfl (by simp) HS; (intro w' hS K hK; go_simp; exact hK))
        refine planD_nil ?_
        clear HS
        by_cases hrs : r = s
        · have HR2 : Hid (a.take (k + 1) = b.take (k + 1) ∧ Upd (fun _ => False) w wr.drew) :=
            ⟨by rw [List.take_succ_eq_append_getElem hlt, List.take_succ_eq_append_getElem hltb, HR.out.1, Hrs.out.1, Hrs.out.2, hrs], HR.out.2.drew⟩
          simp only [hrs, decide_true, Bool.not_true]
          clear heq hrs
          go_wp2_with fail
          exact ⟨⟨k + 1, by omega, by go_num, HR2⟩, by simp [intOf]; omega⟩
        · simp only [hrs, decide_false, Bool.not_false]
          have hne : Hid (a ≠ b) := Lib.hid (fun e => hrs (by rw [← Hrs.out.1, ← Hrs.out.2]; simp [e]))
          clear heq hrs
          go_wp2_with fail
          go_ret
          exact ⟨by rw [decide_eq_false hne.out]; rfl, HR.out.2.drew⟩
      · obtain rfl : k = a.length := by omega
        have heq : Hid (a = b) := Lib.hid (by have := HR.out.1; rw [List.take_length, Hl.out, List.take_length] at this; exact this)
        clear hlt
        go_wp2_with fail
        go_ret
        exact ⟨by rw [decide_eq_true heq.out]; rfl, HR.out.2⟩
  · have hne : Hid (a ≠ b) := Lib.hid (fun e => hl (by rw [e]))
    have q0 : (((a.length : Nat) : Int) != ((b.length : Nat) : Int)) = true := by rw [bne_iff_ne]; omega
    have q0' : (a.length != b.length) = true := by rw [bne_iff_ne]; exact hl
    clear hl
    go_enter Try.func36, Try.ntmps36
    go_wp2_with fail
    go_ret
    exact ⟨by rw [decide_eq_false hne.out]; rfl, Upd.refl _ _⟩
end Go.Proofs.Ytocameknhglklaa

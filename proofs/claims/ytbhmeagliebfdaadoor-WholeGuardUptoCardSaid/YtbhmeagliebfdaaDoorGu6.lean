/- lock: Good. -/
import Derived.Test.YtbhmeagliebfdaaDoorGu5
namespace Go.Proofs.YtbhmeagliebfdaaDoor
open Go Go.RowKit
set_option linter.unusedSimpArgs false
set_option linter.unusedVariables false
set_option maxRecDepth 100000
def tokB (x : UInt8) : Bool := decide (33 ≤ x.toNat ∧ x.toNat ≤ 126 ∧ x ≠ 60 ∧ x ≠ 62)
set_option maxHeartbeats 2000000 in
theorem lgood_ok {w : World} (r : LkR) (h1 : r.l.tok.length ≤ maxLen) (h2 : ∀ s ∈ r.l.path, s.length ≤ maxLen) (h3 : r.l.owner.length ≤ maxLen) (hG : Glob w) (hr : Sees w 1 (.slice r.xp r.l.path.length r.cp) r.l.path.length (strsV r.l.path)) :
    Calls Tryd.prog 5 #[.agg (lkV r).toArray] w fun e w' => e = .returned (.bool (goodP r.l)) ∧ Upd (fun _ => False) w w' := by
  obtain ⟨l, xp, cp⟩ := r
  obtain ⟨tok, path, deep, excl, owner, til⟩ := l
  obtain ⟨m, hm⟩ : ∃ m, path.length = m := ⟨_, rfl⟩
  simp only [lkV, hm] at h1 h2 h3 hr ⊢
  have hsz := bs_size tok
  have hso := bs_size owner
  have htn := bs_nil_iff tok
  obtain ⟨S, hS⟩ : ∃ S, bs tok = S := ⟨_, rfl⟩
  obtain ⟨O, hO⟩ : ∃ O, bs owner = O := ⟨_, rfl⟩
  rw [hS] at hsz htn ⊢
  rw [hO] at hso ⊢
  obtain ⟨n, hn⟩ : ∃ n, S.size = n := ⟨_, rfl⟩
  obtain ⟨q, hq⟩ : ∃ q, O.size = q := ⟨_, rfl⟩
  have hnI : (n : Int) ≤ 9223372036854775807 := by unfold maxLen at h1; omega
  have hqI : (q : Int) ≤ 9223372036854775807 := by unfold maxLen at h3; omega
  have hg1 := CellsA.new w 28 [.string S, .slice xp m cp, .bool deep, .bool excl, .string O, .int .i64 til]
  have hu0 : Upd (fun _ => False) w (w.alloc (.cells #[.string S, .slice xp m cp, .bool deep, .bool excl, .string O, .int .i64 til] 28)) := (Upd.refl _ w).alloc _
  have hgd := good_ok (w := w.alloc (.cells #[.string S, .slice xp m cp, .bool deep, .bool excl, .string O, .int .i64 til] 28)) (Sees.upd hu0 hr (fun _ _ _ h => h)) h2 (hG.upd hu0)
  have hc0 := hg1.cell 0
  have hc1 := hg1.cell 1
  have hc4 := hg1.cell 4
  simp only [List.getElem?_cons_zero, List.getElem?_cons_succ] at hc0 hc1 hc4
  have H := Lib.hid (And.intro hS (And.intro hsz (And.intro hso (And.intro hu0 hgd))))
  have hne : S.toList.isEmpty = decide (n = 0) := by
    rw [htn]
    exact decide_eq_decide.2 ⟨fun e => by rw [e, hn] at hsz; exact hsz, fun e => List.eq_nil_of_length_eq_zero (by omega)⟩
  have Hq := Lib.hid hq
  clear hr hG h1 h2 h3 hsz hso htn hS hO hg1 hu0 hgd hm
  go_enter Tryd.func5, Tryd.ntmps5
  go_wp2_with fail
  generalize w.alloc (.cells #[.string S, .slice xp m cp, .bool deep, .bool excl, .string O, .int .i64 til] 28) = w1 at *
  generalize w.heap.size = b at *
  go_loopw [8] (fun iv wr => ∃ (i : Nat), i ≤ n ∧ iv = .int .i64 i ∧ Hid (wr = w1 ∧ (tok.take i).all tokB = true)) (fun iv _ => n - (intOf iv).toNat)
  case atStart => exact ⟨0, Nat.zero_le _, rfl, Lib.hid ⟨rfl, by simp⟩⟩
  case round =>
    obtain ⟨i, hi, rfl, HR⟩ := hrel
    obtain ⟨hwr, htk0⟩ := HR.out
    subst hwr
    by_cases hlt : i < n
    · have hltI : (i : Int) < (n : Int) := by omega
      have hil : i < tok.length := by have := H.out.2.1; omega
      have hiS : i < S.size := by rw [hn]; exact hlt
      obtain ⟨x, hx⟩ : ∃ x, S[i]'hiS = x := ⟨_, rfl⟩
      have hsx : tok[i] = x := by rw [← hx, get_bs H.out.1 i hiS hil]
      have htk : (tok.take (i + 1)).all tokB = ((tok.take i).all tokB && tokB x) := by
        rw [List.take_succ_eq_append_getElem hil, hsx, List.all_append]; simp
      have hbad : tokB x = false → goodP ⟨tok, path, deep, excl, owner, til⟩ = false := fun hb => by
        have h1 : tokP tok = false := by
          rw [tokP, show (tok.all fun c => decide (33 ≤ c.toNat ∧ c.toNat ≤ 126 ∧ c ≠ 60 ∧ c ≠ 62)) = false from List.all_eq_false.2 ⟨x, hsx ▸ List.getElem_mem hil, by show ¬ tokB x = true; rw [hb]; decide⟩]
          rfl
        unfold goodP
        show (tokP tok && pathP path && decide (owner.length ≤ 512)) = false
        rw [h1]; rfl
      obtain ⟨z, hz⟩ : ∃ z : Int, ((S[i]'hiS).toNat : Int) = z := ⟨_, rfl⟩
      have hxz : (x.toNat : Int) = z := by rw [← hx]; exact hz
      have h60 : x = 60 ↔ z = 60 := by
        rw [← hxz]
        constructor
        · intro e; rw [e]; rfl
        · intro e; exact UInt8.toNat_inj.1 (by show x.toNat = 60; omega)
      have h62 : x = 62 ↔ z = 62 := by
        rw [← hxz]
        constructor
        · intro e; rw [e]; rfl
        · intro e; exact UInt8.toNat_inj.1 (by show x.toNat = 62; omega)
      have htb : tokB x = decide (33 ≤ z ∧ z ≤ 126 ∧ z ≠ 60 ∧ z ≠ 62) := by
        rw [tokB]
        exact decide_eq_decide.2 ⟨fun h => ⟨by omega, by omega, fun e => h.2.2.1 (h60.2 e), fun e => h.2.2.2 (h62.2 e)⟩, fun h => ⟨by omega, by omega, fun e => h.2.2.1 (h60.1 e), fun e => h.2.2.2 (h62.1 e)⟩⟩
      rw [htk0, Bool.true_and] at htk
      have Hx := Lib.hid (And.intro htk (And.intro hbad htb))
      clear htk hbad htb hsx hil hx hxz h60 h62 HR htk0
      by_cases a1 : z < 33
      · go_wp2_with fail
        go_ret
        exact ⟨by rw [Hx.out.2.1 (by rw [Hx.out.2.2]; simp; omega)]; rfl, H.out.2.2.2.1⟩
      by_cases a2 : 126 < z
      · go_wp2_with fail
        go_ret
        exact ⟨by rw [Hx.out.2.1 (by rw [Hx.out.2.2]; simp; omega)]; rfl, H.out.2.2.2.1⟩
      by_cases a3 : z = 60
      · have a3' : (z == 60) = true := beq_iff_eq.2 a3
        go_wp2_with fail
        go_ret
        exact ⟨by rw [Hx.out.2.1 (by rw [Hx.out.2.2]; simp; omega)]; rfl, H.out.2.2.2.1⟩
      by_cases a4 : z = 62
      · have a4' : (z == 62) = true := beq_iff_eq.2 a4
        have a3' : (z == 60) = false := beq_eq_false_iff_ne.2 a3
        go_wp2_with fail
        go_ret
        exact ⟨by rw [Hx.out.2.1 (by rw [Hx.out.2.2]; simp; omega)]; rfl, H.out.2.2.2.1⟩
      have a3' : (z == 60) = false := beq_eq_false_iff_ne.2 a3
      have a4' : (z == 62) = false := beq_eq_false_iff_ne.2 a4
      have HJ : Hid ((tok.take (i + 1)).all tokB = true) := Lib.hid (by rw [Hx.out.1, Hx.out.2.2]; simp; omega)
      go_wp2_with fail
      exact ⟨⟨i + 1, by omega, by go_num, Lib.hid ⟨trivial, HJ.out⟩⟩, by simp [intOf] <;> omega⟩
    · obtain rfl : i = n := by omega
      rw [List.take_of_length_le (by have := H.out.2.1; omega)] at htk0
      have hgp : goodP ⟨tok, path, deep, excl, owner, til⟩ = (decide (i ≠ 0) && decide (i ≤ 60) && pathP path && decide (q ≤ 512)) := by
        unfold goodP
        show (tokP tok && pathP path && decide (owner.length ≤ 512)) = _
        have e1 : tokP tok = (decide (i ≠ 0) && decide (i ≤ 60)) := by
          rw [tokP, show (tok.all fun c => decide (33 ≤ c.toNat ∧ c.toNat ≤ 126 ∧ c ≠ 60 ∧ c ≠ 62)) = true from htk0, Bool.true_and]
          have h1 : tok ≠ [] ↔ i ≠ 0 := ⟨fun h e => h (List.eq_nil_of_length_eq_zero (by have := H.out.2.1; omega)), fun h e => h (by have := H.out.2.1; rw [hn, e] at this; exact this)⟩
          have h2 : tok.length ≤ 60 ↔ i ≤ 60 := by have := H.out.2.1; omega
          rw [decide_eq_decide.2 h1, decide_eq_decide.2 h2]
        have e2 : owner.length = q := by have := H.out.2.2.1; have := Hq.out; omega
        rw [e1, e2]
      obtain ⟨B, hB⟩ : ∃ B, pathP path = B := ⟨_, rfl⟩
      have hgd := H.out.2.2.2.2
      rw [hB] at hgp hgd
      have Hf := Lib.hid (And.intro hgp (And.intro hgd H.out.2.2.2.1))
      clear HR htk0 hB hgp hgd H
      by_cases b1 : i = 0
      · rw [decide_eq_true b1] at hne
        have Hb := Lib.hid b1
        clear b1
        go_wp2_with fail
        go_ret
        exact ⟨by rw [Hf.out.1, decide_eq_false (fun h => h Hb.out)]; rfl, Hf.out.2.2⟩
      rw [decide_eq_false b1] at hne
      by_cases b2 : i ≤ 60
      · have b2I : (i : Int) ≤ 60 := by omega
        have Hb := Lib.hid b1
        clear b1
        cases B
        · go_wp2_with fail
          refine Hf.out.2.1.mono ?_
          rintro e w2 ⟨rfl, hu⟩
          dsimp only
          go_wp2_with fail
          go_ret
          exact ⟨by rw [Hf.out.1]; simp, Hf.out.2.2.trans hu⟩
        · go_wp2_with fail
          refine Hf.out.2.1.mono ?_
          rintro e w2 ⟨rfl, hu⟩
          dsimp only
          have hd4 : w2.cell? ⟨b, 4, none⟩ = some (.string O) := hu.cell_some hc4 (fun h => h)
          have hqd : decide (q ≤ 512) = decide ((q : Int) ≤ 512) := decide_eq_decide.2 (by omega)
          have Hqd := Lib.hid hqd
          have hqI2 := Hq.out
          clear hqd
          go_wp2_with fail
          go_ret
          exact ⟨by rw [Hf.out.1, Hqd.out, decide_eq_true Hb.out, decide_eq_true b2]; simp, Hf.out.2.2.trans hu⟩
      · have b2I : ¬ ((i : Int) ≤ 60) := by omega
        clear b1
        go_wp2_with fail
        go_ret
        exact ⟨by rw [Hf.out.1, decide_eq_false b2]; simp, Hf.out.2.2⟩
end Go.Proofs.YtbhmeagliebfdaaDoor

/- uri: Good, bare, digit, plain, Within. -/
import Derived.Test.YtbhmeagliebfdaaDoorGu1
namespace Go.Proofs.YtbhmeagliebfdaaDoor
open Go Go.RowKit
set_option linter.unusedSimpArgs false
set_option linter.unusedVariables false
set_option maxRecDepth 100000
theorem good_ok {w : World} {x : Option Addr} {n c : Nat} {p : List By} (h : Sees w 1 (.slice x n c) n (strsV p)) (hs : ∀ s ∈ p, s.length ≤ maxLen) (hG : Glob w) :
    Calls Tryd.prog 12 #[.slice x n c] w fun e w' => e = .returned (.bool (pathP p)) ∧ Upd (fun _ => False) w w' := by
  have hl : p.length = n := by have := h.1; rw [strsV_length] at this; omega
  have hnb := h.2.1
  have H := Lib.hid (And.intro h (And.intro hs (And.intro hG hl)))
  have hnI : (n : Int) ≤ 9223372036854775807 := by unfold maxLen at hnb; omega
  clear h hs hG hl hnb
  go_enter Tryd.func12, Tryd.ntmps12
  go_wp2_with fail
  go_loopw [7] (fun iv wr => ∃ (i : Nat), i ≤ n ∧ iv = .int .i64 i ∧ Hid (Upd (fun _ => False) w wr ∧ (p.take i).all segP = true)) (fun iv _ => n - (intOf iv).toNat)
  case atStart => exact ⟨0, Nat.zero_le _, rfl, Lib.hid ⟨Upd.refl _ _, by simp⟩⟩
  case round =>
    obtain ⟨i, hi, rfl, HR⟩ := hrel
    by_cases hlt : i < n
    · have hltI : (i : Int) < (n : Int) := by omega
      have hil : i < p.length := by rw [H.out.2.2.2]; exact hlt
      obtain ⟨g, o, rfl, c1⟩ := sees_one (Sees.upd HR.out.1 H.out.1 (fun _ _ _ h => h)) i hlt (strsV_at p i hil)
      obtain ⟨s, hse⟩ : ∃ s, p[i] = s := ⟨_, rfl⟩
      rw [hse] at c1
      have hmem : s ∈ p := hse ▸ List.getElem_mem hil
      have hsg := segment_ok s (H.out.2.1 s hmem) (H.out.2.2.1.upd HR.out.1)
      have htk : (p.take (i + 1)).all segP = ((p.take i).all segP && segP s) := by
        rw [List.take_succ_eq_append_getElem hil, List.all_append, hse]; simp
      cases hsv : segP s
      · rw [hsv] at hsg
        have hr : pathP p = false := by
          rw [pathP, Bool.and_eq_false_iff]
          exact .inl (List.all_eq_false.2 ⟨s, hmem, by rw [hsv]; decide⟩)
        have Hsg := Lib.hid (And.intro hsg hr)
        clear hsg hr hsv hse hmem htk hil
        go_wp2_with fail
        refine Hsg.out.1.mono ?_
        rintro e w2 ⟨rfl, hu⟩
        dsimp only
        go_wp2_with fail
        go_ret
        exact ⟨by rw [Hsg.out.2]; rfl, HR.out.1.trans hu⟩
      · rw [hsv] at hsg htk
        rw [Bool.and_true, HR.out.2] at htk
        have Hsg := Lib.hid (And.intro hsg htk)
        clear hsg hsv hse hmem htk hil
        go_wp2_with fail
        refine Hsg.out.1.mono ?_
        rintro e w2 ⟨rfl, hu⟩
        dsimp only
        have HJ : Hid (Upd (fun _ => False) w w2 ∧ (p.take (i + 1)).all segP = true) := Lib.hid ⟨HR.out.1.trans hu, Hsg.out.2⟩
        clear Hsg hu c1
        go_wp2_with fail
        exact ⟨⟨i + 1, by omega, by go_num, HJ⟩, by simp [intOf] <;> omega⟩
    · obtain rfl : i = n := by omega
      have hr : pathP p = decide ((i : Int) ≤ 12) := by
        have h1 := HR.out.2
        rw [List.take_of_length_le (by rw [H.out.2.2.2]; exact Nat.le_refl _)] at h1
        rw [pathP, h1, H.out.2.2.2, Bool.true_and]
        exact decide_eq_decide.2 (by omega)
      have Hr := Lib.hid hr
      clear hr
      go_wp2_with fail
      go_ret
      exact ⟨by rw [Hr.out]; simp, HR.out.1⟩
theorem get_bs {l : By} {S : ByteArray} (hS : bs l = S) (i : Nat) (hi : i < S.size) (hl : i < l.length) : S[i]'hi = l[i] := by
  subst hS
  rfl
theorem plain_ok (s : By) (hs : s.length ≤ maxLen) (w : World) : Calls Tryd.prog 50 #[.string (bs s)] w fun e w' => e = .returned (.bool (plainP s)) ∧ w' = w := by
  obtain ⟨S, hS⟩ : ∃ S, bs s = S := ⟨_, rfl⟩
  have hsz := bs_size s
  rw [hS] at hsz ⊢
  obtain ⟨n, hn⟩ : ∃ n, S.size = n := ⟨_, rfl⟩
  have hnI : (n : Int) ≤ 9223372036854775807 := by unfold maxLen at hs; omega
  have HS := Lib.hid (And.intro hS (And.intro hsz hn))
  clear hS hsz hs
  go_enter Tryd.func50, Tryd.ntmps50
  go_wp2_with fail
  go_loopw [6] (fun iv wr => ∃ (i : Nat), i ≤ n ∧ iv = .int .i64 i ∧ Hid (wr = w ∧ plainP (s.take i) = true)) (fun iv _ => n - (intOf iv).toNat)
  case atStart => exact ⟨0, Nat.zero_le _, rfl, Lib.hid ⟨rfl, rfl⟩⟩
  case round =>
    obtain ⟨i, hi, rfl, HR⟩ := hrel
    obtain ⟨hwr, hpl⟩ := HR.out
    subst hwr
    by_cases hlt : i < n
    · have hltI : (i : Int) < (n : Int) := by omega
      have hil : i < s.length := by have := HS.out.2; omega
      have hiS : i < S.size := by rw [hn]; exact hlt
      obtain ⟨x, hx⟩ : ∃ x, S[i]'hiS = x := ⟨_, rfl⟩
      have hsx : s[i] = x := by rw [← hx, get_bs HS.out.1 i hiS hil]
      have htk : plainP (s.take (i + 1)) = (plainP (s.take i) && decide (33 ≤ x.toNat ∧ x.toNat ≤ 126 ∧ x ≠ 63 ∧ x ≠ 35)) := by
        rw [List.take_succ_eq_append_getElem hil, hsx, plainP, List.all_append]; simp [plainP]
      have hbad : ¬ (33 ≤ x.toNat ∧ x.toNat ≤ 126 ∧ x ≠ 63 ∧ x ≠ 35) → plainP s = false := fun hb => by
        rw [plainP, List.all_eq_false]
        exact ⟨x, hsx ▸ List.getElem_mem hil, by simpa using hb⟩
      have Hx := Lib.hid (And.intro htk hbad)
      obtain ⟨z, hz⟩ : ∃ z : Int, ((S[i]'hiS).toNat : Int) = z := ⟨_, rfl⟩
      have hxz : (x.toNat : Int) = z := by rw [← hx]; exact hz
      have Hxz := Lib.hid hxz
      have HB : Hid (¬ (33 ≤ x.toNat ∧ x.toNat ≤ 126 ∧ x ≠ 63 ∧ x ≠ 35) → plainP s = false) := Lib.hid hbad
      have h63 : x = 63 ↔ z = 63 := by
        rw [← hxz]
        constructor
        · intro e; rw [e]; rfl
        · intro e; exact UInt8.toNat_inj.1 (by show x.toNat = 63; omega)
      have h35 : x = 35 ↔ z = 35 := by
        rw [← hxz]
        constructor
        · intro e; rw [e]; rfl
        · intro e; exact UInt8.toNat_inj.1 (by show x.toNat = 35; omega)
      have Hq := Lib.hid (And.intro h63 h35)
      clear htk hbad hsx hil hx hxz h63 h35
      by_cases a1 : z < 33
      · go_wp2_with fail
        go_ret
        exact ⟨by rw [HB.out (fun h => by have := Hxz.out; omega)]; rfl, rfl⟩
      by_cases a2 : 126 < z
      · go_wp2_with fail
        go_ret
        exact ⟨by rw [HB.out (fun h => by have := Hxz.out; omega)]; rfl, rfl⟩
      by_cases a3 : z = 63
      · have a3' : (z == 63) = true := beq_iff_eq.2 a3
        go_wp2_with fail
        go_ret
        exact ⟨by rw [HB.out (fun h => h.2.2.1 (Hq.out.1.2 a3))]; rfl, rfl⟩
      by_cases a4 : z = 35
      · have a4' : (z == 35) = true := beq_iff_eq.2 a4
        have a3' : (z == 63) = false := beq_eq_false_iff_ne.2 a3
        go_wp2_with fail
        go_ret
        exact ⟨by rw [HB.out (fun h => h.2.2.2 (Hq.out.2.2 a4))]; rfl, rfl⟩
      have a3' : (z == 63) = false := beq_eq_false_iff_ne.2 a3
      have a4' : (z == 35) = false := beq_eq_false_iff_ne.2 a4
      have h2 : 33 ≤ x.toNat ∧ x.toNat ≤ 126 ∧ x ≠ 63 ∧ x ≠ 35 := ⟨by have := Hxz.out; omega, by have := Hxz.out; omega, fun e => a3 (Hq.out.1.1 e), fun e => a4 (Hq.out.2.1 e)⟩
      have HJ : Hid (plainP (s.take (i + 1)) = true) := Lib.hid (by rw [Hx.out.1, hpl, decide_eq_true h2]; rfl)
      clear h2
      go_wp2_with fail
      exact ⟨⟨i + 1, by omega, by go_num, Lib.hid ⟨trivial, HJ.out⟩⟩, by simp [intOf] <;> omega⟩
    · obtain rfl : i = n := by omega
      go_wp2_with fail
      go_ret
      refine ⟨?_, rfl⟩
      rw [List.take_of_length_le (by have := HS.out.2; omega)] at hpl
      rw [hpl]; rfl
end Go.Proofs.YtbhmeagliebfdaaDoor

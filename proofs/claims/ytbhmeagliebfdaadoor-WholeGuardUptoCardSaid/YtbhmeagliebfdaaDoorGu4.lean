/- Within; locks in memory; Covers. -/
import Derived.Test.YtbhmeagliebfdaaDoorGu3
namespace Go.Proofs.YtbhmeagliebfdaaDoor
open Go Go.RowKit
set_option linter.unusedSimpArgs false
set_option linter.unusedVariables false
set_option maxRecDepth 100000
theorem sees_len {w : World} {x : Option Addr} {n c : Nat} {l : List By} (h : Sees w 1 (.slice x n c) n (strsV l)) : l.length = n := by
  have := h.1; rw [strsV_length] at this; omega
theorem bs_toList (l : By) : (bs l).toList = l := by rw [Lib.toList_data, bs_data]
theorem within_ok {w : World} {x y : Option Addr} {n c m d : Nat} {a b : List By} (ha : Sees w 1 (.slice x n c) n (strsV a)) (hb : Sees w 1 (.slice y m d) m (strsV b)) :
    Calls Tryd.prog 17 #[.slice x n c, .slice y m d] w fun e w' => e = .returned (.bool (withinP a b)) ∧ w' = w := by
  have hla := sees_len ha
  have hlb := sees_len hb
  have hnI : (n : Int) ≤ 9223372036854775807 := by have := ha.2.1; unfold maxLen at this; omega
  have hmI : (m : Int) ≤ 9223372036854775807 := by have := hb.2.1; unfold maxLen at this; omega
  have H := Lib.hid (And.intro ha (And.intro hb (And.intro hla hlb)))
  clear ha hb hla hlb
  by_cases hlt : n < m
  · have hltI : (n : Int) < (m : Int) := by omega
    have hr : Hid (withinP a b = false) := Lib.hid (by rw [withinP, decide_eq_false (by have := H.out; omega)]; rfl)
    go_enter Tryd.func17, Tryd.ntmps17
    go_wp2_with fail
    go_ret
    exact ⟨by rw [hr.out]; rfl, rfl⟩
  · have hltI : ¬ ((n : Int) < (m : Int)) := by omega
    go_enter Tryd.func17, Tryd.ntmps17
    go_wp2_with fail
    go_loopw [14] (fun iv wr => ∃ (i : Nat), i ≤ m ∧ iv = .int .i64 i ∧ Hid (wr = w ∧ a.take i = b.take i)) (fun iv _ => m - (intOf iv).toNat)
    case atStart => exact ⟨0, Nat.zero_le _, rfl, Lib.hid ⟨rfl, rfl⟩⟩
    case round =>
      obtain ⟨i, hi, rfl, HR⟩ := hrel
      obtain ⟨hwr, htk⟩ := HR.out
      subst hwr
      by_cases him : i < m
      · have himI : (i : Int) < (m : Int) := by omega
        have hinI : (i : Int) < (n : Int) := by omega
        have hia : i < a.length := by have := H.out; omega
        have hib : i < b.length := by have := H.out; omega
        obtain ⟨g, o, rfl, c1⟩ := sees_one H.out.1 i (by omega) (strsV_at a i hia)
        obtain ⟨g2, o2, rfl, c2⟩ := sees_one H.out.2.1 i him (strsV_at b i hib)
        obtain ⟨S, hS⟩ : ∃ S, bs a[i] = S := ⟨_, rfl⟩
        obtain ⟨T, hT⟩ : ∃ T, bs b[i] = T := ⟨_, rfl⟩
        rw [hS] at c1
        rw [hT] at c2
        have hta : a.take (i + 1) = a.take i ++ [a[i]] := List.take_succ_eq_append_getElem hia
        have htb : b.take (i + 1) = b.take i ++ [b[i]] := List.take_succ_eq_append_getElem hib
        by_cases he : S = T
        · have hab : a[i] = b[i] := bs_inj (by rw [hS, hT, he])
          have HJ : Hid (a.take (i + 1) = b.take (i + 1)) := Lib.hid (by rw [hta, htb, htk, hab])
          clear hta htb hab hS hT HR htk hia hib
          subst he
          go_wp2_with fail
          exact ⟨⟨i + 1, by omega, by go_num, Lib.hid ⟨trivial, HJ.out⟩⟩, by simp [intOf] <;> omega⟩
        · have hde : (S.toList == T.toList) = false := by
            rw [← hS, ← hT, bs_toList, bs_toList]
            exact beq_eq_false_iff_ne.2 (fun e => he (by rw [← hS, ← hT, e]))
          have hr : Hid (withinP a b = false) := Lib.hid (by
            rw [withinP, Bool.and_eq_false_iff]
            refine .inr (decide_eq_false (fun e => he ?_))
            have h1 : a[i] = b[i] := by
              have h2 : (a.take b.length)[i]? = b[i]? := by rw [e]
              rw [List.getElem?_take, if_pos hib, List.getElem?_eq_getElem hia, List.getElem?_eq_getElem hib] at h2
              exact Option.some.inj h2
            rw [← hS, ← hT, h1])
          clear hta htb hS hT HR htk hia hib he
          go_wp2_with fail
          go_ret
          exact ⟨by rw [hr.out]; rfl, rfl⟩
      · obtain rfl : i = m := by omega
        have hr : Hid (withinP a b = true) := Lib.hid (by
          have h1 := H.out.2.2.2
          rw [List.take_of_length_le (l := b) (by omega)] at htk
          rw [withinP, h1, htk, decide_eq_true (by have := H.out.2.2.1; omega)]; simp)
        clear HR htk
        go_wp2_with fail
        go_ret
        exact ⟨by rw [hr.out]; rfl, rfl⟩
/-- A lock, where its path lies. -/
structure LkR where
  l : Lk
  xp : Option Addr
  cp : Nat
def lkV (r : LkR) : List Value := [.string (bs r.l.tok), .slice r.xp r.l.path.length r.cp, .bool r.l.deep, .bool r.l.excl, .string (bs r.l.owner), .int .i64 r.l.til]
theorem lkV_length (r : LkR) : (lkV r).length = 6 := rfl
theorem sizeLk : (Tryd.prog.info? 28).map (·.size) = some 6 := by kernel_rfl
theorem covers_ok {w : World} (r : LkR) {x : Option Addr} {n c : Nat} {p : List By} (hp : Sees w 1 (.slice x n c) n (strsV p)) (hr : Sees w 1 (.slice r.xp r.l.path.length r.cp) r.l.path.length (strsV r.l.path)) :
    Calls Tryd.prog 7 #[.agg (lkV r).toArray, .slice x n c] w fun e w' => e = .returned (.bool (coversP r.l p)) ∧ Upd (fun _ => False) w w' := by
  have hlp := sees_len hp
  obtain ⟨l, xp, cp⟩ := r
  obtain ⟨tok, path, deep, excl, owner, til⟩ := l
  obtain ⟨m, hm⟩ : ∃ m, path.length = m := ⟨_, rfl⟩
  simp only [lkV, hm] at hr ⊢
  have hwi := within_ok (w := w.alloc (.cells #[.string (bs tok), .slice xp m cp, .bool deep, .bool excl, .string (bs owner), .int .i64 til] 28)) (Sees.upd ((Upd.refl (fun _ => False) w).alloc _) hp (fun _ _ _ h => h)) (Sees.upd ((Upd.refl (fun _ => False) w).alloc _) hr (fun _ _ _ h => h))
  have hwn : coversP ⟨tok, path, deep, excl, owner, til⟩ p = (withinP p path && (deep || decide ((n : Int) = (m : Int)))) := by
    unfold coversP
    show (withinP p path && (deep || decide (p.length = path.length))) = _
    rw [hlp, hm, decide_eq_decide.2 (by omega : n = m ↔ (n : Int) = (m : Int))]
  obtain ⟨B, hB⟩ : ∃ B, withinP p path = B := ⟨_, rfl⟩
  rw [hB] at hwi hwn
  have Hwn := Lib.hid hwn
  have Hw := Lib.hid hwi
  clear hp hr hwi hwn hm hlp hB
  generalize bs tok = T at Hw ⊢
  generalize bs owner = O at Hw ⊢
  have hg1 := CellsA.new w 28 [.string T, .slice xp m cp, .bool deep, .bool excl, .string O, .int .i64 til]
  have hc2 := hg1.cell 2
  have hc1 := hg1.cell 1
  simp only [List.getElem?_cons_zero, List.getElem?_cons_succ] at hc1 hc2
  have Hu : Hid (Upd (fun _ => False) w (w.alloc (.cells #[.string T, .slice xp m cp, .bool deep, .bool excl, .string O, .int .i64 til] 28))) := Lib.hid ((Upd.refl _ w).alloc _)
  clear hg1
  cases B <;> cases deep <;> (
    go_enter Tryd.func7, Tryd.ntmps7
    go_wp2_with fail
    refine Hw.out.mono ?_
    rintro e w1 ⟨rfl, rfl⟩
    dsimp only
    go_wp2_with fail
    go_ret
    exact ⟨by rw [Hwn.out]; simp <;> rfl, Hu.out⟩)
end Go.Proofs.YtbhmeagliebfdaaDoor

/- lock: Free. -/
import Derived.Test.YtbhmeagliebfdaaDoorGu4
import Derived.Deep.CutBlock
import Derived.Deep.DeepCutAuto
namespace Go.Proofs.YtbhmeagliebfdaaDoor
open Go Go.RowKit
set_option linter.unusedSimpArgs false
set_option linter.unusedVariables false
set_option maxRecDepth 100000
/-- Locks, as they lie in a slice. -/
def LocksAt (w : World) (x : Option Addr) (n c : Nat) (rs : List LkR) : Prop :=
  Sees w 6 (.slice x n c) n (rs.flatMap lkV) ∧ ∀ r ∈ rs, Sees w 1 (.slice r.xp r.l.path.length r.cp) r.l.path.length (strsV r.l.path)
theorem LocksAt.len {w : World} {x : Option Addr} {n c : Nat} {rs : List LkR} (h : LocksAt w x n c rs) : rs.length = n := by
  have h1 := h.1.1
  rw [flat_length lkV 6 rs (fun _ _ => rfl)] at h1
  omega
theorem LocksAt.upd {w w' : World} {x : Option Addr} {n c : Nat} {rs : List LkR} (h : LocksAt w x n c rs) (hu : Upd (fun _ => False) w w') : LocksAt w' x n c rs :=
  ⟨Sees.upd hu h.1 (fun _ _ _ h => h), fun r hr => Sees.upd hu (h.2 r hr) (fun _ _ _ h => h)⟩
theorem LocksAt.at {w : World} {x : Option Addr} {n c : Nat} {rs : List LkR} (h : LocksAt w x n c rs) (i : Nat) (hi : i < rs.length) :
    ∃ g o, x = some ⟨g, o, none⟩ ∧ w.rangeAt g (o + i * 6) (lkV rs[i]) ∧ Sees w 1 (.slice rs[i].xp rs[i].l.path.length rs[i].cp) rs[i].l.path.length (strsV rs[i].l.path) := by
  have hl := h.len
  obtain ⟨_, _, y, d, e, hc⟩ := h.1
  cases e
  obtain ⟨g, o, rfl, hr⟩ := hc (by omega)
  exact ⟨g, o, rfl, rangeAt.sub (w := w) (b := g) (off := o) hr (i * 6) (by rw [lkV_length]; exact flat_piece lkV 6 rs i hi (fun _ _ => rfl)), h.2 _ (List.getElem_mem hi)⟩
theorem any_take {α : Type} (f : α → Bool) (l : List α) (i : Nat) (hi : i < l.length) : (l.take (i + 1)).any f = ((l.take i).any f || f l[i]) := by
  rw [List.take_succ_eq_append_getElem hi, List.any_append]; simp
def ownB (r : LkR) (p toks : List By) : Bool := coversP r.l p && decide (r.l.tok ∈ toks)
theorem freeP_eq (rs : List LkR) (p toks : List By) : freeP (rs.map (·.l)) p toks = ((rs.any fun r => ownB r p toks) || !(rs.any fun r => coversP r.l p)) := by
  unfold freeP ownB
  rw [List.any_map, List.any_map]; rfl
set_option maxHeartbeats 2000000 in
theorem free_ok {w : World} {x y z : Option Addr} {n c m d k e : Nat} {rs : List LkR} {p toks : List By} (h : LocksAt w x n c rs) (hp : Sees w 1 (.slice y m d) m (strsV p)) (ht : Sees w 1 (.slice z k e) k (strsV toks)) :
    Calls Tryd.prog 10 #[.slice x n c, .slice y m d, .slice z k e] w fun e w' => e = .returned (.bool (freeP (rs.map (·.l)) p toks)) ∧ Upd (fun _ => False) w w' := by
  have hl := h.len
  have hnI : (n : Int) ≤ 9223372036854775807 := by have := h.1.2.1; unfold maxLen at this; omega
  rw [freeP_eq]
  have H := Lib.hid (And.intro h (And.intro hp (And.intro ht hl)))
  clear h hp ht hl
  go_enter Tryd.func10, Tryd.ntmps10
  go_wp2_with fail
  go_loopw [7, 12] (fun cv iv wr => ∃ (i : Nat) (b : Bool), i ≤ n ∧ cv = .bool b ∧ iv = .int .i64 i ∧ Hid (Upd (fun _ => False) w wr ∧ b = ((rs.take i).any fun r => coversP r.l p) ∧ ((rs.take i).any fun r => ownB r p toks) = false)) (fun _ iv _ => n - (intOf iv).toNat)
  case atStart => exact ⟨0, false, Nat.zero_le _, rfl, rfl, Lib.hid ⟨Upd.refl _ _, rfl, rfl⟩⟩
  case round =>
    obtain ⟨i, b, hi, rfl, rfl, HR⟩ := hrel
    by_cases hlt : i < n
    · have hltI : (i : Int) < (n : Int) := by omega
      have hil : i < rs.length := by rw [H.out.2.2.2]; exact hlt
      obtain ⟨g, o, rfl, hrg, hsp⟩ := (H.out.1.upd HR.out.1).at i hil
      have t1 := any_take (fun r => coversP r.l p) rs i hil
      have t2 := any_take (fun r => ownB r p toks) rs i hil
      have hmem : rs[i] ∈ rs := List.getElem_mem hil
      obtain ⟨r, hr⟩ : ∃ r, rs[i] = r := ⟨_, rfl⟩
      rw [hr] at hrg hsp t1 t2 hmem
      have hal : Upd (fun _ => False) wr (wr.alloc (.cells (lkV r).toArray 28)) := (Upd.refl _ wr).alloc _
      have hcs := CellsA.new wr 28 (lkV r)
      have hcv := covers_ok (w := wr.alloc (.cells (lkV r).toArray 28)) r (Sees.upd (HR.out.1.trans hal) H.out.2.1 (fun _ _ _ h => h)) (Sees.upd hal hsp (fun _ _ _ h => h))
      have hrn : (wr.alloc (.cells (lkV r).toArray 28)).rangeAt wr.heap.size 0 (lkV r) := hcs.range
      obtain ⟨B, hB⟩ : ∃ B, coversP r.l p = B := ⟨_, rfl⟩
      have hob : ownB r p toks = (B && decide (r.l.tok ∈ toks)) := by rw [ownB, hB]
      rw [hB] at hcv t1
      rw [hob, HR.out.2.2, Bool.false_or] at t2
      rw [← HR.out.2.1] at t1
      have Hc := Lib.hid (And.intro hcv (And.intro t1 (And.intro t2 (And.intro (HR.out.1.trans hal) (And.intro hcs hmem)))))
      have hc0 := hcs.cell 0
      clear hcv t1 t2 hal hcs hsp hr hil hB hob
      simp only [lkV, List.getElem?_cons_zero] at hrg hrn hc0
      go_wp2_with (first | ((with_reducible apply wpl_load_mid g (o + i * 6) [.string (bs r.l.tok), .slice r.xp r.l.path.length r.cp, .bool r.l.deep, .bool r.l.excl, .string (bs r.l.owner), .int .i64 r.l.til]); exact rfl; exact hrg; exact Tryd.underlying28; exact rfl; exact sizeLk; try (simp only [Act.put, List.setIfInBounds_toArray, List.set_cons_zero, List.set_cons_succ])) | ((with_reducible apply wpl_store_new); exact rfl; exact rfl; exact sizeLk; exact rfl; exact rfl; try (simp only [Act.put, List.setIfInBounds_toArray, List.set_cons_zero, List.set_cons_succ])) | ((with_reducible apply wpl_load_mid wr.heap.size 0 [.string (bs r.l.tok), .slice r.xp r.l.path.length r.cp, .bool r.l.deep, .bool r.l.excl, .string (bs r.l.owner), .int .i64 r.l.til]); exact rfl; exact hrn; exact Tryd.underlying28; exact rfl; exact sizeLk; try (simp only [Act.put, List.setIfInBounds_toArray, List.set_cons_zero, List.set_cons_succ])))
      refine Hc.out.1.mono ?_
      rintro e w1 ⟨rfl, hu⟩
      dsimp only
      have hw1 := Hc.out.2.2.2.1.trans hu
      have hca := (Hc.out.2.2.2.2.1.upd hu (fun h => h)).cell 0
      simp only [lkV, List.getElem?_cons_zero] at hca
      cases B
      · have HJ : Hid (Upd (fun _ => False) w w1 ∧ b = ((rs.take (i + 1)).any fun r => coversP r.l p) ∧ ((rs.take (i + 1)).any fun r => ownB r p toks) = false) := Lib.hid ⟨hw1, by rw [Hc.out.2.1]; simp, by rw [Hc.out.2.2.1]; rfl⟩
        clear Hc hu hw1 hca hc0 hrg hrn hmem
        go_wp2_with fail
        exact ⟨⟨i + 1, b, by omega, rfl, by go_num, HJ⟩, by simp [intOf] <;> omega⟩
      · have hha := has_ok (Sees.upd hw1 H.out.2.2.1 (fun _ _ _ h => h)) r.l.tok
        by_cases hin : r.l.tok ∈ toks
        · rw [decide_eq_true hin] at hha
          have hr : ((rs.any fun r => ownB r p toks) || !(rs.any fun r => coversP r.l p)) = true := by
            have h2 := Hc.out.2.2.1
            rw [decide_eq_true hin] at h2
            rw [Bool.or_eq_true]
            left
            rw [← List.take_append_drop (i + 1) rs, List.any_append, h2]; rfl
          have Hh := Lib.hid (And.intro hha (And.intro hw1 hr))
          clear hha hr hin hu hw1 Hc hc0 hrg hrn hmem
          go_wp2_with fail
          refine Hh.out.1.mono ?_
          rintro e w2 ⟨rfl, rfl⟩
          dsimp only
          go_wp2_with fail
          go_ret
          exact ⟨by rw [Hh.out.2.2]; rfl, Hh.out.2.1⟩
        · rw [decide_eq_false hin] at hha
          have Hh := Lib.hid hha
          have HJ : Hid (Upd (fun _ => False) w w1 ∧ true = ((rs.take (i + 1)).any fun r => coversP r.l p) ∧ ((rs.take (i + 1)).any fun r => ownB r p toks) = false) := Lib.hid ⟨hw1, by rw [Hc.out.2.1]; simp, by rw [Hc.out.2.2.1, decide_eq_false hin]; rfl⟩
          clear hha hin hu hw1 Hc hc0 hrg hrn hmem
          go_wp2_with fail
          refine Hh.out.mono ?_
          rintro e w2 ⟨rfl, rfl⟩
          dsimp only
          go_wp2_with fail
          exact ⟨⟨i + 1, true, by omega, rfl, by go_num, HJ⟩, by simp [intOf] <;> omega⟩
    · obtain rfl : i = n := by omega
      obtain ⟨hu, hb, hf⟩ := HR.out
      rw [List.take_of_length_le (by rw [H.out.2.2.2]; exact Nat.le_refl _)] at hb hf
      have Hf := Lib.hid (And.intro hb (And.intro hf hu))
      clear HR hb hf hu
      go_wp2_with fail
      go_ret
      exact ⟨by rw [Hf.out.2.1, ← Hf.out.1]; rfl, Hf.out.2.2⟩
end Go.Proofs.YtbhmeagliebfdaaDoor

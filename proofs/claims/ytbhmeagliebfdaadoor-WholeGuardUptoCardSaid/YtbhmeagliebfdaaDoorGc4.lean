/- cond: the reader's list. -/
import Derived.Test.YtbhmeagliebfdaaDoorGc3
namespace Go.Proofs.YtbhmeagliebfdaaDoor
open Go Go.RowKit
set_option linter.unusedSimpArgs false
set_option linter.unusedVariables false
set_option maxRecDepth 100000
theorem between_lt {e : UInt8} {bad : By} {low : Nat} {s t r : By} (h : betweenP e bad low s = some (t, r)) : r.length < s.length := by
  have hr := indexByte_le s e
  unfold betweenP at h
  split at h
  · cases h
  · rename_i h1
    split at h
    · cases h
    · split at h
      · cases h
      · split at h
        · cases h
          rw [List.length_drop]
          rcases hr with h2 | h2 <;> omega
        · cases h
theorem condi_lt {s r : By} {c : Cnd} (h : condiP s = some (c, r)) : r.length < s.length := by
  have h1 := eatP_le [78, 111, 116] s
  have h2 := eatP_le [60] (eatP [78, 111, 116] s).2
  have h3 := eatP_le [91] (eatP [60] (eatP [78, 111, 116] s).2).2
  unfold condiP at h
  split at h
  · split at h
    · cases h
    · rename_i t r' hb
      cases h
      have := between_lt hb
      omega
  · split at h
    · split at h
      · cases h
      · rename_i t r' hb
        cases h
        have := between_lt hb
        omega
    · cases h
/-- How much is left in a reader. -/
def rdLen (w : World) (rb : Nat) : Nat := match w.cell? ⟨rb, 0, none⟩ with | some (.string S) => S.size | _ => 0
theorem RdAt.len {w : World} {rb : Nat} {s : By} (h : RdAt w rb s) : rdLen w rb = s.length := by
  have c0 := CellsA.cell h 0
  simp only [List.getElem?_cons_zero] at c0
  rw [rdLen, c0]
  exact bs_size s
theorem infoCnd : (Tryd.prog.info? 44).map (fun i => (i.zero, i.size, i.bytes)) = some (some (.agg #[.bool false, .string .empty, .string .empty]), 3, 40) := by kernel_rfl
/-- What list answers. -/
def LstR (w : World) (rb : Nat) (s : By) (en : Ending) (w' : World) : Prop :=
  ∃ (x : Option Addr) (n c : Nat) (cs : List Cnd) (r : By) (ok : Bool), en = .returned (.tuple #[.slice x n c, .bool ok]) ∧ Sees w' 3 (.slice x n c) n (cs.flatMap cndV) ∧ RdAt w' rb r ∧ Upd (fun q => q = rb) w w' ∧
    (∀ q, (Value.slice x n c).ownBlock = some q → w.heap.size ≤ q) ∧ ((ok = true ∧ listP (s.length + 1) s [] = some (cs, r)) ∨ (ok = false ∧ listP (s.length + 1) s [] = none))
/-- In the middle of list. -/
def LsmR (w : World) (rb : Nat) (s : By) (x : Option Addr) (n c : Nat) (wr : World) : Prop :=
  ∃ (f : Nat) (s' : By) (out : List Cnd), s'.length < f ∧ s'.length + n ≤ s.length ∧ listP (s.length + 1) s [] = listP f s' out ∧ RdAt wr rb s' ∧ Mid wr 3 (.slice x n c) n (out.flatMap cndV) ∧ Whole wr 3 (.slice x n c) ∧
    (∀ q, (Value.slice x n c).ownBlock = some q → w.heap.size ≤ q) ∧ Upd (fun q => q = rb) w wr ∧ out.length = n
set_option maxHeartbeats 4000000 in
theorem list_ok {w : World} {rb : Nat} {s : By} (h : RdAt w rb s) (hs : s.length ≤ 1000000000) (hG : Glob w) (hrb : 3 ≤ rb) :
    Calls Tryd.prog 20 #[.pointer (some ⟨rb, 0, none⟩)] w fun en w' => LstR w rb s en w' := by
  have hlt := CellsA.lt h
  have HR0 : Hid (LsmR w rb s none 0 0 w) := Lib.hid ⟨s.length + 1, s, [], Nat.lt_succ_self _, Nat.le_refl _, rfl, h, Mid.nil _ _, Whole.nil _ _, (fun q hq => by cases hq), Upd.refl _ _, rfl⟩
  have H := Lib.hid (And.intro hG hlt)
  clear h hG hlt
  go_enter Tryd.func20, Tryd.ntmps20
  go_wp2_with fail
  go_loopw [4] (fun ov wr => ∃ (x : Option Addr) (n c : Nat), ov = .slice x n c ∧ Hid (LsmR w rb s x n c wr)) (fun _ wr => rdLen wr rb)
  case atStart => exact ⟨none, 0, 0, rfl, HR0⟩
  case round =>
    obtain ⟨x, n, c, rfl, HR⟩ := hrel
    clear HR0
    obtain ⟨f, s', out, k1, k2, k3, k4, k5, k6, k7, k8, k9⟩ := HR.out
    obtain ⟨g, rfl⟩ : ∃ g, f = g + 1 := ⟨f - 1, by omega⟩
    have hnI : (n : Int) ≤ 1000000000 := by omega
    have hea := eat_ok k4 [41]
    have hle := eatP_le [41] s'
    have hk3 : listP (s.length + 1) s [] = if (eatP [41] s').1 = true then (if out = [] then none else some (out, (eatP [41] s').2))
      else match condiP (eatP [41] s').2 with
        | none => none
        | some (c, r) => listP g r (out ++ [c]) := by rw [k3, listP]; rfl
    obtain ⟨a, ha⟩ : ∃ a, (eatP [41] s').1 = a := ⟨_, rfl⟩
    obtain ⟨s1, hs1⟩ : ∃ s1, (eatP [41] s').2 = s1 := ⟨_, rfl⟩
    rw [ha, hs1] at hea hk3
    rw [hs1] at hle
    have hrl := k4.len
    have HA := Lib.hid (And.intro hea (And.intro hk3 (And.intro hle (And.intro k1 (And.intro k2 (And.intro k5 (And.intro k6 (And.intro k7 (And.intro k8 (And.intro k9 hrl))))))))))
    clear hea hk3 hle k1 k2 k3 k4 k5 k6 k7 k8 k9 ha hs1 hrl HR
    cases a
    · go_wp2_with fail
      refine HA.out.1.mono ?_
      rintro en w3 ⟨rfl, h3, hu3⟩
      dsimp only
      have hne : ∀ q, (Value.slice x n c).ownBlock = some q → ¬ q = rb := fun q hq e => by
        have := HA.out.2.2.2.2.2.2.2.1 q hq
        have := H.out.2
        omega
      have hk3 := HA.out.2.1
      simp only [Bool.false_eq_true, if_false] at hk3
      have hu03 := HA.out.2.2.2.2.2.2.2.2.1.trans hu3
      have hcd := condition_ok h3 (by have := HA.out.2.2.1; have := HA.out.2.2.2.2.1; omega) (H.out.1.updF hu03 (fun k hk e => by omega)) hrb
      have HB := Lib.hid (And.intro hcd (And.intro hu03 (And.intro (HA.out.2.2.2.2.2.1.upd hu3 hne) (And.intro (HA.out.2.2.2.2.2.2.1.upd hu3 hne HA.out.2.2.2.2.2.1.lt) (And.intro HA.out.2.2.2.2.2.2.2.1 (And.intro hk3 (And.intro HA.out.2.2.2.2.2.2.2.2.2.1 (And.intro HA.out.2.2.1 (And.intro HA.out.2.2.2.1 (And.intro HA.out.2.2.2.2.1 HA.out.2.2.2.2.2.2.2.2.2.2))))))))))
      clear h3 hu3 hne hk3 hu03 hcd HA
      go_wp2_with fail
      refine HB.out.1.mono ?_
      rintro en w4 ⟨cd, r, ok, rfl, h4, hu4, hcase⟩
      simp only [cndV]
      have hu04 := HB.out.2.1.trans hu4
      rcases hcase with ⟨rfl, hcs⟩ | ⟨rfl, hcs⟩
      · have hrt := condi_lt hcs
        have hnx : listP (s.length + 1) s [] = listP g r (out ++ [cd]) := by rw [HB.out.2.2.2.2.2.1, hcs]
        have hne4 : ∀ q, (Value.slice x n c).ownBlock = some q → ¬ q = rb := fun q hq e => by
          have := HB.out.2.2.2.2.1 q hq
          have := H.out.2
          omega
        have HF := Lib.hid (And.intro h4 (And.intro hu04 (And.intro (HB.out.2.2.1.upd hu4 hne4) (And.intro (HB.out.2.2.2.1.upd hu4 hne4 HB.out.2.2.1.lt) (And.intro HB.out.2.2.2.2.1 (And.intro hnx (And.intro hrt HB.out.2.2.2.2.2.2)))))))
        have hcs := CellsA.new w4 44 [.bool cd.not, .string (bs cd.tok), .string (bs cd.etag)]
        have hrn : (w4.alloc (.cells #[.bool cd.not, .string (bs cd.tok), .string (bs cd.etag)] 44)).rangeAt w4.heap.size 0 [.bool cd.not, .string (bs cd.tok), .string (bs cd.etag)] := hcs.range
        clear h4 hu4 hu04 HB hrt hnx hne4 hcs
        go_wp2_with (first | ((with_reducible apply wpl_store_new); exact rfl; exact rfl; exact sizeCnd; exact rfl; exact rfl; try (simp only [Act.put, List.setIfInBounds_toArray, List.set_cons_zero, List.set_cons_succ])) | ((with_reducible apply wpl_load_mid w4.heap.size 0 [.bool cd.not, .string (bs cd.tok), .string (bs cd.etag)]); exact rfl; exact hrn; exact Tryd.underlying44; exact rfl; exact sizeCnd; try (simp only [Act.put, List.setIfInBounds_toArray, List.set_cons_zero, List.set_cons_succ])) | (at_builtin; refine wpl_append_whole 44 3 40 (.agg #[.bool false, .string .empty, .string .empty]) (.slice x n c) n (out.flatMap cndV) 1 (cndV cd) ?c1 ?c2 ?c3 ?c4 ?c5 ?c6 ?c7 ?c8 ?c9 ?c10 ?_))
        case c1 => exact Tryd.underlying40
        case c2 => exact infoCnd
        case c3 => rfl
        try case c4 => rfl
        case c5 => exact HF.out.2.2.1.upd (((Upd.refl (fun _ => False) w4).alloc _).alloc _) (fun _ _ h => h)
        case c6 => exact HF.out.2.2.2.1.upd (((Upd.refl (fun _ => False) w4).alloc _).alloc _) (fun _ _ h => h) HF.out.2.2.1.lt
        case c7 =>
          have hn := (CellsA.new (w4.alloc (.cells #[.bool cd.not, .string (bs cd.tok), .string (bs cd.etag)] 44)) 44 [.bool cd.not, .string (bs cd.tok), .string (bs cd.etag)]).range
          have e1 : (w4.alloc (.cells #[.bool cd.not, .string (bs cd.tok), .string (bs cd.etag)] 44)).heap.size = w4.heap.size + 1 := by simp
          rw [e1] at hn
          exact Sees.at rfl (by decide) hn
        case c8 =>
          intro u hu
          simp only [cndV, List.mem_cons, List.not_mem_nil, or_false] at hu
          rcases hu with rfl | rfl | rfl <;> rfl
        case c9 => unfold maxLen; omega
        case c10 => omega
        intro x' c' w6 hm6 hu6 hb6 hW6
        try (simp only [Act.put, List.setIfInBounds_toArray, List.set_cons_zero, List.set_cons_succ])
        have hux : Upd (fun q => (Value.slice x n c).ownBlock = some q) w4 w6 := ((((Upd.refl (fun _ => False) w4).alloc _).alloc _).mono (fun _ _ h => h.elim)).trans hu6
        have hsz6 : w.heap.size ≤ w4.heap.size := HF.out.2.1.size
        go_wp2_with fail
        have hrb4 : rb < w.heap.size := H.out.2
        have hneo : ¬ (Value.slice x n c).ownBlock = some rb := fun e => by
          have := HF.out.2.2.2.2.1 rb e
          omega
        have h6 := HF.out.1.upd hux hneo
        obtain ⟨hol, hle, hk1, hk2, hrl⟩ := HF.out.2.2.2.2.2.2.2
        have hrt := HF.out.2.2.2.2.2.2.1
        refine ⟨⟨x', n + 1, c', rfl, Lib.hid ⟨g, r, out ++ [cd], by omega, by omega, HF.out.2.2.2.2.2.1, h6, ?_, hW6, ?_, ?_, by simp [hol]⟩⟩, ?_⟩
        · rw [List.flatMap_append, List.flatMap_cons, List.flatMap_nil, List.append_nil]
          exact hm6
        · intro q hq
          have hnb : (((w4.alloc (.cells #[.bool cd.not, .string (bs cd.tok), .string (bs cd.etag)] 44)).alloc (.cells #[.bool cd.not, .string (bs cd.tok), .string (bs cd.etag)] 44))).heap.size = w4.heap.size + 2 := by simp
          rcases hb6 with e | e
          · exact HF.out.2.2.2.2.1 q (e ▸ hq)
          · rw [hq] at e
            simp only [Option.some.injEq] at e
            omega
        · exact HF.out.2.1.then hux (fun i hi => .inr (HF.out.2.2.2.2.1 i hi))
        · rw [h6.len, hrl]
          omega
      · have hres : Hid (listP (s.length + 1) s [] = none) := Lib.hid (by rw [HB.out.2.2.2.2.2.1, hcs])
        have HF := Lib.hid (And.intro h4 hu04)
        clear hcs h4 hu4 hu04 HB
        go_wp2_with ((with_reducible apply wpl_store_new); exact rfl; exact rfl; exact sizeCnd; exact rfl; exact rfl; try (simp only [Act.put, List.setIfInBounds_toArray, List.set_cons_zero, List.set_cons_succ]))
        go_ret2
        exact ⟨none, 0, 0, [], r, false, rfl, Sees.zero _ _ _ _, HF.out.1.upd ((Upd.refl (fun _ => False) w4).alloc _) (fun h => h), HF.out.2.trans (((Upd.refl (fun _ => False) w4).alloc _).mono (fun _ _ h => h.elim)), (fun q hq => by cases hq), .inr ⟨rfl, hres.out⟩⟩
    · go_wp2_with fail
      refine HA.out.1.mono ?_
      rintro en w3 ⟨rfl, h3, hu3⟩
      dsimp only
      have hne : ∀ q, (Value.slice x n c).ownBlock = some q → ¬ q = rb := fun q hq e => by
        have := HA.out.2.2.2.2.2.2.2.1 q hq
        have := H.out.2
        omega
      have hk3 := HA.out.2.1
      simp only [if_true] at hk3
      have HB := Lib.hid (And.intro h3 (And.intro (HA.out.2.2.2.2.2.2.2.2.1.trans hu3) (And.intro ((HA.out.2.2.2.2.2.1.upd hu3 hne).sees) (And.intro HA.out.2.2.2.2.2.2.2.1 (And.intro hk3 HA.out.2.2.2.2.2.2.2.2.2.1)))))
      clear h3 hu3 hne hk3 HA
      by_cases hn0 : n = 0
      · have hnz : ¬ ((0 : Int) < (n : Int)) := by omega
        have hon : out = [] := List.eq_nil_of_length_eq_zero (by have := HB.out.2.2.2.2.2; omega)
        have hres : Hid (listP (s.length + 1) s [] = none) := Lib.hid (by rw [HB.out.2.2.2.2.1, if_pos hon])
        clear hon hn0
        go_wp2_with fail
        go_ret2
        exact ⟨x, n, c, out, s1, false, by simp; omega, HB.out.2.2.1, HB.out.1, HB.out.2.1, HB.out.2.2.2.1, .inr ⟨rfl, hres.out⟩⟩
      · have hnz : (0 : Int) < (n : Int) := by omega
        have hon : out ≠ [] := fun e => hn0 (by have := HB.out.2.2.2.2.2; rw [e] at this; simpa using this.symm)
        have hres : Hid (listP (s.length + 1) s [] = some (out, s1)) := Lib.hid (by rw [HB.out.2.2.2.2.1, if_neg hon])
        clear hon hn0
        go_wp2_with fail
        go_ret2
        exact ⟨x, n, c, out, s1, true, by simp; omega, HB.out.2.2.1, HB.out.1, HB.out.2.1, HB.out.2.2.2.1, .inl ⟨rfl, hres.out⟩⟩
end Go.Proofs.YtbhmeagliebfdaaDoor

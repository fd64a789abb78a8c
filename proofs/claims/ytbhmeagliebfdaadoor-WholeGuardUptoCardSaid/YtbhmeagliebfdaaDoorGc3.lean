/- cond: the reader's condition. -/
import Derived.Test.YtbhmeagliebfdaaDoorGc2
namespace Go.Proofs.YtbhmeagliebfdaaDoor
open Go Go.RowKit
set_option linter.unusedSimpArgs false
set_option linter.unusedVariables false
set_option maxRecDepth 100000
theorem results_ct {P : Program} {fn : Func} {p b : Tmp} {ty : TypeId} (h : fn.results = #[.cell p ty, .tmp b]) (tmps : Array Value) (w : World) (g : Nat) (t : TypeId) (cs : Array Value) (fr : Nat × Nat) (d : TypeDesc)
    (hp : tmps.getD p undef = .pointer (some ⟨g, 0, none⟩)) (hg : w.heap[g]? = some (.cells cs t fr))
    (hu : P.underlying ty = some d) (hd : (match d with | .struct _ | .array _ _ => true | _ => false) = true) (hi : (P.info? ty).map (·.size) = some cs.size) :
    (results fn tmps).run P w = .ok (.tuple #[.agg cs, tmps.getD b undef]) w := by
  have hp' : tmps[p]?.getD undef = .pointer (some ⟨g, 0, none⟩) := by simpa using hp
  simp [results, h, hp', asAddr, run_loadVar_row w g t ty cs fr d hg hu hd hi]
section
variable {P : Program} {ops : Array Oper} {Q : Exit → Act → World → Prop} {rest : List Oper} {dst : Option Tmp} {ty : TypeId} {pos : String} {aft : Array Edge} {a : Act} {w : World}
theorem wpl_store_mid {t : TypeId} {x y : Operand} (b off : Nat) (cells : List Value) (hx : a.eval x = .pointer (some ⟨b, off, none⟩)) (hy : a.eval y = .agg cells.toArray) (ht : w.there b off cells.length)
    (hi : (P.info? t).map (·.size) = some cells.length) (h1 : ∀ u ∈ cells, u.oneCell' = true) (h : wpList P ops Q rest (a.put dst undef) (w.setCells b off cells)) : wpList P ops Q (⟨dst, .store t x y, ty, pos, aft, none⟩ :: rest) a w :=
  wpList_plain rfl fun _ hK => wp_store_mid' b off cells hx hy ht hi h1 (hK _ _ h)
end
theorem CellsA.set3 {w : World} {b : Nat} {t : TypeId} {l : List Value} (h : CellsA w b t l) (hl : l.length = 3) (x y z : Value) : CellsA (w.setCells b 0 [x, y, z]) b t [x, y, z] := by
  have h1 := ((h.set 0 x).set 1 y).set 2 z
  match l, hl with
  | [p, q, r], _ => exact h1
theorem upd_set3 {w : World} {b : Nat} (x y z : Value) : Upd (fun q => q = b) w (w.setCells b 0 [x, y, z]) :=
  (((Upd.refl (fun q => q = b) w).setCell (p := ⟨b, 0, none⟩) x (.inl rfl)).setCell (p := ⟨b, 1, none⟩) y (.inl rfl)).setCell (p := ⟨b, 2, none⟩) z (.inl rfl)
theorem Glob.updF {F : Nat → Prop} {w w' : World} (h : Glob w) (hu : Upd F w w') (hf : ∀ k, k < 3 → ¬ F k) : Glob w' := by
  obtain ⟨h1, m, h2⟩ := h
  exact ⟨⟨fun c hc => hu.cell_some (h1.1 c hc) (hf 0 (by decide)), fun i hi => ⟨hu.cell_some (h1.2 i hi).1 (hf 1 (by decide)), hu.cell_some (h1.2 i hi).2 (hf 1 (by decide))⟩⟩, m, hu.cell_some h2 (hf 2 (by decide))⟩
def cndV (c : Cnd) : List Value := [.bool c.not, .string (bs c.tok), .string (bs c.etag)]
theorem sizeCnd : (Tryd.prog.info? 44).map (·.size) = some 3 := by kernel_rfl
theorem whiteP_le (s : By) : (whiteP s).length ≤ s.length := by
  unfold whiteP Lib.trimLeftS
  exact (List.dropWhile_suffix _).length_le
theorem eatP_le (w s : By) : (eatP w s).2.length ≤ s.length := by
  have h := whiteP_le s
  unfold eatP
  simp only [Lib.trimPrefix]
  split
  · rw [List.length_drop]; omega
  · exact h
/-- What condition answers. -/
def CndR (w : World) (rb : Nat) (s : By) (en : Ending) (w' : World) : Prop :=
  ∃ (c : Cnd) (r : By) (ok : Bool), en = .returned (.tuple #[.agg (cndV c).toArray, .bool ok]) ∧ RdAt w' rb r ∧ Upd (fun q => q = rb) w w' ∧ ((ok = true ∧ condiP s = some (c, r)) ∨ (ok = false ∧ condiP s = none))
set_option maxHeartbeats 4000000 in
theorem condition_ok {w : World} {rb : Nat} {s : By} (h : RdAt w rb s) (hs : s.length ≤ 1000000000) (hG : Glob w) (hrb : 3 ≤ rb) :
    Calls Tryd.prog 32 #[.pointer (some ⟨rb, 0, none⟩)] w fun en w' => CndR w rb s en w' := by
  have h0 := CellsA.lt h
  have hal : Upd (fun _ => False) w (w.alloc (.cells #[.bool false, .string ⟨#[]⟩, .string ⟨#[]⟩] 44)) := (Upd.refl (fun _ => False) w).alloc _
  have hcs := CellsA.new w 44 [.bool false, .string ⟨#[]⟩, .string ⟨#[]⟩]
  have he := eat_ok (w := w.alloc (.cells #[.bool false, .string ⟨#[]⟩, .string ⟨#[]⟩] 44)) (RdAt.upd h hal (fun h => h)) [78, 111, 116]
  have H := Lib.hid (And.intro he (And.intro hG (And.intro h0 (And.intro hal hcs))))
  clear h he hG h0 hal hcs
  go_enter Tryd.func32, Tryd.ntmps32
  go_wp2_with fail
  refine H.out.1.mono ?_
  rintro en w2 ⟨rfl, h2, hu2⟩
  dsimp only
  obtain ⟨cb, hcb⟩ : ∃ cb, w.heap.size = cb := ⟨_, rfl⟩
  have hne : cb ≠ rb := by have := H.out.2.2.1; omega
  have Hne := Lib.hid hne
  have Hcb := Lib.hid hcb
  have hu02 : Upd (fun q => q = rb) w w2 := (H.out.2.2.2.1.mono (fun _ _ h => h.elim)).trans hu2
  have hc2 := H.out.2.2.2.2.upd hu2 (fun e => hne (by omega))
  rw [hcb] at hc2 ⊢
  obtain ⟨n, hn⟩ : ∃ n, (eatP [78, 111, 116] s).1 = n := ⟨_, rfl⟩
  obtain ⟨s1, hs1⟩ : ∃ s1, (eatP [78, 111, 116] s).2 = s1 := ⟨_, rfl⟩
  have hl1 : s1.length ≤ 1000000000 := by have := eatP_le [78, 111, 116] s; rw [hs1] at this; omega
  rw [hn]
  rw [hs1] at h2
  have hcp : condiP s = if (eatP [60] s1).1 = true then
      (match betweenP 62 [60] 33 (eatP [60] s1).2 with
       | none => none
       | some (t, r) => some (⟨n, t, []⟩, r))
    else if (eatP [91] (eatP [60] s1).2).1 = true then
      (match betweenP 93 [] 32 (eatP [91] (eatP [60] s1).2).2 with
       | none => none
       | some (t, r) => some (⟨n, [], t⟩, r))
    else none := by rw [condiP, hn, hs1]; rfl
  have d0 := hc2.cell 0
  have f0 := hc2.frozen 0
  simp only [List.getElem?_cons_zero] at d0
  have hus : Upd (fun q => q = cb) w2 (w2.setCell ⟨cb, 0, none⟩ (.bool n)) := (Upd.refl _ w2).setCell _ (.inl rfl)
  have hu03 : Upd (fun q => q = rb) w (w2.setCell ⟨cb, 0, none⟩ (.bool n)) := hu02.then hus (fun q hq => .inr (by omega))
  have HA := Lib.hid (And.intro (RdAt.upd h2 hus (fun e => hne e.symm)) (And.intro (hc2.set 0 (.bool n)) (And.intro hu03 (And.intro hcp (And.intro hl1 (And.intro hne H.out.2.1))))))
  clear h2 hu2 hu02 hc2 hn hs1 hcp hus hu03 hl1 H hne
  go_wp2_with fail
  generalize w2.setCell ⟨cb, 0, none⟩ (.bool n) = w3 at HA ⊢
  simp only [List.set_cons_zero] at HA
  refine (eat_ok HA.out.1 [60]).mono ?_
  rintro en w4 ⟨rfl, h4, hu4⟩
  dsimp only
  obtain ⟨a, ha⟩ : ∃ a, (eatP [60] s1).1 = a := ⟨_, rfl⟩
  obtain ⟨s2, hs2⟩ : ∃ s2, (eatP [60] s1).2 = s2 := ⟨_, rfl⟩
  have hl2 : s2.length ≤ 1000000000 := by have := eatP_le [60] s1; rw [hs2] at this; have := HA.out.2.2.2.2.1; omega
  have hcp := HA.out.2.2.2.1
  rw [ha, hs2] at hcp
  rw [hs2] at h4
  rw [ha]
  have hG4 : Glob w4 := HA.out.2.2.2.2.2.2.updF (HA.out.2.2.1.trans hu4) (fun k hk e => by omega)
  have HB := Lib.hid (And.intro h4 (And.intro (HA.out.2.1.upd hu4 HA.out.2.2.2.2.2.1) (And.intro (HA.out.2.2.1.trans hu4) (And.intro hcp (And.intro hl2 (And.intro HA.out.2.2.2.2.2.1 hG4))))))
  clear h4 hu4 hcp hl2 hG4 ha hs2 HA d0 f0
  cases a
  · go_wp2_with fail
    refine (eat_ok HB.out.1 [91]).mono ?_
    rintro en w5 ⟨rfl, h5, hu5⟩
    dsimp only
    obtain ⟨a, ha⟩ : ∃ a, (eatP [91] s2).1 = a := ⟨_, rfl⟩
    obtain ⟨s3, hs3⟩ : ∃ s3, (eatP [91] s2).2 = s3 := ⟨_, rfl⟩
    have hl3 : s3.length ≤ 1000000000 := by have := eatP_le [91] s2; rw [hs3] at this; have := HB.out.2.2.2.2.1; omega
    have hcp := HB.out.2.2.2.1
    simp only [Bool.false_eq_true, if_false] at hcp
    rw [ha, hs3] at hcp
    rw [hs3] at h5
    rw [ha]
    have hG5 : Glob w5 := HB.out.2.2.2.2.2.2.updF hu5 (fun k hk e => by omega)
    have HD := Lib.hid (And.intro h5 (And.intro (HB.out.2.1.upd hu5 HB.out.2.2.2.2.2.1) (And.intro (HB.out.2.2.1.trans hu5) (And.intro hcp (And.intro hl3 hG5)))))
    clear h5 hu5 hcp hl3 hG5 ha hs3 HB
    cases a
    · have hrn := CellsA.range HD.out.2.1
      have hth : w5.there cb 0 3 := there_of_row HD.out.2.1 (Nat.le_refl 3)
      have hres : Hid (condiP s = none) := Lib.hid (by rw [HD.out.2.2.2.1]; simp)
      go_wp2_with (first | ((with_reducible apply wpl_load_mid cb 0 [.bool n, .string ⟨#[]⟩, .string ⟨#[]⟩]); exact rfl; exact hrn; exact Tryd.underlying44; exact rfl; exact sizeCnd; try (simp only [Act.put, List.setIfInBounds_toArray, List.set_cons_zero, List.set_cons_succ])) | ((with_reducible apply wpl_store_mid cb 0 [.bool n, .string ⟨#[]⟩, .string ⟨#[]⟩]); exact rfl; exact rfl; exact hth; exact sizeCnd; (intro u hu; simp at hu; rcases hu with rfl | rfl | rfl <;> rfl); try (simp only [Act.put, List.setIfInBounds_toArray, List.set_cons_zero, List.set_cons_succ])))
      have hset := CellsA.set3 HD.out.2.1 rfl (.bool n) (.string ⟨#[]⟩) (.string ⟨#[]⟩)
      have hus := upd_set3 (w := w5) (b := cb) (.bool n) (.string ⟨#[]⟩) (.string ⟨#[]⟩)
      refine bodyPost_ret (results_ct (fn := Tryd.f32) rfl _ _ cb 44 #[.bool n, .string ⟨#[]⟩, .string ⟨#[]⟩] (0, 0) _ rfl hset Tryd.underlying44 rfl sizeCnd) rfl ?_
      exact ⟨⟨n, [], []⟩, s3, false, rfl, HD.out.1.upd hus (fun e => Hne.out e.symm), HD.out.2.2.1.then hus (fun q hq => .inr (by have := Hcb.out; omega)), .inr ⟨rfl, hres.out⟩⟩
    · go_wp2_with fail
      refine (between_ok HD.out.1 HD.out.2.2.2.2.1 HD.out.2.2.2.2.2 hrb 93 [] 32 (by decide) cany_no).mono ?_
      rintro en w6 ⟨t, r, ok, rfl, h6, hu6, hcase⟩
      dsimp only
      have hc6 := HD.out.2.1.upd hu6 Hne.out
      have d2 := hc6.cell 2
      have f2 := hc6.frozen 2
      simp only [List.getElem?_cons_zero, List.getElem?_cons_succ] at d2
      have hus : Upd (fun q => q = cb) w6 (w6.setCell ⟨cb, 2, none⟩ (.string (bs t))) := (Upd.refl _ w6).setCell _ (.inl rfl)
      have hc7 := hc6.set 2 (.string (bs t))
      simp only [List.set_cons_zero, List.set_cons_succ] at hc7
      have hres : (ok = true ∧ condiP s = some (⟨n, [], t⟩, r)) ∨ (ok = false ∧ condiP s = none) := by
        have h := HD.out.2.2.2.1
        simp only [if_true] at h
        rcases hcase with ⟨e, hb⟩ | ⟨e, hb⟩
        · exact .inl ⟨e, by rw [h, hb]⟩
        · exact .inr ⟨e, by rw [h, hb]⟩
      have HC := Lib.hid (And.intro (RdAt.upd h6 hus (fun e => Hne.out e.symm)) (And.intro hc7 (And.intro ((HD.out.2.2.1.trans hu6).then hus (fun q hq => .inr (by have := Hcb.out; omega))) hres)))
      clear h6 hu6 hcase hc6 hus hc7 hres HD
      have hrn := CellsA.range HC.out.2.1
      have hth : (w6.setCell ⟨cb, 2, none⟩ (.string (bs t))).there cb 0 3 := there_of_row HC.out.2.1 (Nat.le_refl 3)
      obtain ⟨T, hT⟩ : ∃ T, bs t = T := ⟨_, rfl⟩
      rw [hT] at HC hrn hth ⊢
      have HT := Lib.hid hT
      clear hT
      go_wp2_with (first | ((with_reducible apply wpl_load_mid cb 0 [.bool n, .string ⟨#[]⟩, .string T]); exact rfl; exact hrn; exact Tryd.underlying44; exact rfl; exact sizeCnd; try (simp only [Act.put, List.setIfInBounds_toArray, List.set_cons_zero, List.set_cons_succ])) | ((with_reducible apply wpl_store_mid cb 0 [.bool n, .string ⟨#[]⟩, .string T]); exact rfl; exact rfl; exact hth; exact sizeCnd; (intro u hu; simp at hu; rcases hu with rfl | rfl | rfl <;> rfl); try (simp only [Act.put, List.setIfInBounds_toArray, List.set_cons_zero, List.set_cons_succ])))
      have hset := CellsA.set3 HC.out.2.1 rfl (.bool n) (.string ⟨#[]⟩) (.string T)
      have hus := upd_set3 (w := w6.setCell ⟨cb, 2, none⟩ (.string T)) (b := cb) (.bool n) (.string ⟨#[]⟩) (.string T)
      refine bodyPost_ret (results_ct (fn := Tryd.f32) rfl _ _ cb 44 #[.bool n, .string ⟨#[]⟩, .string T] (0, 0) _ rfl hset Tryd.underlying44 rfl sizeCnd) rfl ?_
      exact ⟨⟨n, [], t⟩, r, ok, by rw [cndV, HT.out]; rfl, HC.out.1.upd hus (fun e => Hne.out e.symm), HC.out.2.2.1.then hus (fun q hq => .inr (by have := Hcb.out; omega)), HC.out.2.2.2⟩
  · go_wp2_with fail
    refine (between_ok HB.out.1 HB.out.2.2.2.2.1 HB.out.2.2.2.2.2.2 hrb 62 [60] 33 (by decide) cany_lt).mono ?_
    rintro en w5 ⟨t, r, ok, rfl, h5, hu5, hcase⟩
    dsimp only
    have hc5 := HB.out.2.1.upd hu5 HB.out.2.2.2.2.2.1
    have d1 := hc5.cell 1
    have f1 := hc5.frozen 1
    simp only [List.getElem?_cons_zero, List.getElem?_cons_succ] at d1
    have hus : Upd (fun q => q = cb) w5 (w5.setCell ⟨cb, 1, none⟩ (.string (bs t))) := (Upd.refl _ w5).setCell _ (.inl rfl)
    have hc6 := hc5.set 1 (.string (bs t))
    simp only [List.set_cons_zero, List.set_cons_succ] at hc6
    have hres : (ok = true ∧ condiP s = some (⟨n, t, []⟩, r)) ∨ (ok = false ∧ condiP s = none) := by
      have h := HB.out.2.2.2.1
      simp only [if_true] at h
      rcases hcase with ⟨e, hb⟩ | ⟨e, hb⟩
      · exact .inl ⟨e, by rw [h, hb]⟩
      · exact .inr ⟨e, by rw [h, hb]⟩
    have HC := Lib.hid (And.intro (RdAt.upd h5 hus (fun e => HB.out.2.2.2.2.2.1 e.symm)) (And.intro hc6 (And.intro ((HB.out.2.2.1.trans hu5).then hus (fun q hq => .inr (by omega))) hres)))
    clear h5 hu5 hcase hc5 hus hc6 hres HB
    have hrn := CellsA.range HC.out.2.1
    have hth : (w5.setCell ⟨cb, 1, none⟩ (.string (bs t))).there cb 0 3 := there_of_row HC.out.2.1 (Nat.le_refl 3)
    obtain ⟨T, hT⟩ : ∃ T, bs t = T := ⟨_, rfl⟩
    rw [hT] at HC hrn hth ⊢
    have HT := Lib.hid hT
    clear hT
    go_wp2_with (first | ((with_reducible apply wpl_load_mid cb 0 [.bool n, .string T, .string ⟨#[]⟩]); exact rfl; exact hrn; exact Tryd.underlying44; exact rfl; exact sizeCnd; try (simp only [Act.put, List.setIfInBounds_toArray, List.set_cons_zero, List.set_cons_succ])) | ((with_reducible apply wpl_store_mid cb 0 [.bool n, .string T, .string ⟨#[]⟩]); exact rfl; exact rfl; exact hth; exact sizeCnd; (intro u hu; simp at hu; rcases hu with rfl | rfl | rfl <;> rfl); try (simp only [Act.put, List.setIfInBounds_toArray, List.set_cons_zero, List.set_cons_succ])))
    have hset := CellsA.set3 HC.out.2.1 rfl (.bool n) (.string T) (.string ⟨#[]⟩)
    have hus := upd_set3 (w := w5.setCell ⟨cb, 1, none⟩ (.string T)) (b := cb) (.bool n) (.string T) (.string ⟨#[]⟩)
    refine bodyPost_ret (results_ct (fn := Tryd.f32) rfl _ _ cb 44 #[.bool n, .string T, .string ⟨#[]⟩] (0, 0) _ rfl hset Tryd.underlying44 rfl sizeCnd) rfl ?_
    exact ⟨⟨n, t, []⟩, r, ok, by rw [cndV, HT.out]; rfl, HC.out.1.upd hus (fun e => Hne.out e.symm), HC.out.2.2.1.then hus (fun q hq => .inr (by have := Hcb.out; omega)), HC.out.2.2.2⟩
end Go.Proofs.YtbhmeagliebfdaaDoor

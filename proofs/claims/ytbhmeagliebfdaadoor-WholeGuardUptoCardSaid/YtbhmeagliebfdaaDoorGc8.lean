/- cond: Holds. -/
import Derived.Test.YtbhmeagliebfdaaDoorGc7
namespace Go.Proofs.YtbhmeagliebfdaaDoor
open Go Go.RowKit
set_option linter.unusedSimpArgs false
set_option linter.unusedVariables false
set_option maxRecDepth 100000
theorem findF_etag {fs : List Fct} (h : ∀ f ∈ fs, f.etag = []) (p : List By) : (findF fs p).etag = [] := by
  unfold findF
  cases hf : fs.find? (fun f => decide (f.path = p)) with
  | none => rfl
  | some f => exact h f (List.mem_of_find?_eq_some hf)
theorem ofP_etag {fs : List Fct} (h : ∀ f ∈ fs, f.etag = []) (g : Grp) (self : List By) : (ofP g self fs).etag = [] := by
  unfold ofP
  split
  · split
    · rfl
    · exact findF_etag h _
  · exact findF_etag h _
/-- What the If header's calls are handed. -/
structure HIn (w : World) (me : List By) (fs : List FctR) (y : Option Addr) (m d : Nat) (x : Option Addr) (n c : Nat) : Prop where
  mine : Sees w 1 (.slice y m d) m (strsV me)
  facts : FactsAt w x n c fs
  et : ∀ f ∈ fs.map (·.f), f.etag = []
  glob : Glob w
theorem HIn.upd {w w' : World} {me : List By} {fs : List FctR} {y : Option Addr} {m d : Nat} {x : Option Addr} {n c : Nat} (h : HIn w me fs y m d x n c) (hu : Upd (fun _ => False) w w') : HIn w' me fs y m d x n c :=
  ⟨Sees.upd hu h.mine (fun _ _ _ h => h), h.facts.upd hu, h.et, h.glob.upd hu⟩
theorem one_ok {w : World} (r : GrR) {self : List By} {fs : List FctR} {y : Option Addr} {m d : Nat} {x : Option Addr} {n c : Nat} (h : HIn w self fs y m d x n c) (hr : GrOk w r) (ht : r.g.tag.length ≤ 100000000) :
    Calls Tryd.prog 25 #[.agg (grV r).toArray, .slice y m d, .slice x n c] w fun e w' => ∃ fr : FctR, e = .returned (.agg (fctV fr).toArray) ∧ Upd (fun _ => False) w w' ∧
      ∀ w'', Upd (fun _ => False) w' w'' → Calls Tryd.prog 24 #[.agg (grV r).toArray, .agg (fctV fr).toArray] w'' fun e w3 => e = .returned (.bool (holdsP r.g (ofP r.g self (fs.map (·.f))))) ∧ Upd (fun _ => False) w'' w3 := by
  refine (of_ok r h.mine h.facts ht h.glob).mono ?_
  rintro e w' ⟨fr, rfl, hf, hok, hu⟩
  refine ⟨fr, rfl, hu, fun w'' hu2 => ?_⟩
  have := holds_ok r fr (hr.upd (hu.trans hu2)) (hok.upd hu2) (by rw [hf]; exact ofP_etag h.et _ _)
  rw [hf] at this
  exact this
theorem holdsC_ok {w : World} (r : GrR) {self : List By} {fs : List FctR} {y : Option Addr} {m d : Nat} {x : Option Addr} {n c : Nat} (h : HIn w self fs y m d x n c) (hr : GrOk w r) (ht : r.g.tag.length ≤ 100000000)
    {p1 p2 : Nat} (h1 : w.cell? ⟨p1, 0, none⟩ = some (.slice y m d)) (h2 : w.cell? ⟨p2, 0, none⟩ = some (.slice x n c)) :
    Calls Tryd.prog 23 #[.agg (grV r).toArray, .pointer (some ⟨p1, 0, none⟩), .pointer (some ⟨p2, 0, none⟩)] w fun e w' => e = .returned (.bool (holdsP r.g (ofP r.g self (fs.map (·.f))))) ∧ Upd (fun _ => False) w w' := by
  have hal : Upd (fun _ => False) w (w.alloc (.cells (grV r).toArray 42)) := (Upd.refl _ w).alloc _
  have hcs : (w.alloc (.cells (grV r).toArray 42)).rangeAt w.heap.size 0 (grV r) := (CellsA.new w 42 (grV r)).range
  have hc1 := hal.cell_some h1 (fun h => h)
  have hc2 := hal.cell_some h2 (fun h => h)
  have h1k := one_ok r (h.upd hal.drew) (hr.upd hal.drew) ht
  have Hal := Lib.hid hal
  have Hk := Lib.hid h1k
  clear hal h1k h hr
  simp only [grV] at hcs hc1 hc2 Hk Hal ⊢
  go_enter Tryd.func23, Tryd.ntmps23
  go_wp2_with fail
  obtain ⟨w1, hw1⟩ : ∃ w1, w.alloc (.cells #[.bool r.g.tagged, .string (bs r.g.tag), .slice r.x r.n r.c] 42) = w1 := ⟨_, rfl⟩
  rw [hw1] at hcs hc1 hc2 Hk Hal ⊢
  have HS : w1.drew.rangeAt w.heap.size 0 [.bool r.g.tagged, .string (bs r.g.tag), .slice r.x r.n r.c] ∧ w1.drew.cell? ⟨p1, 0, none⟩ = some (.slice y m d) ∧ w1.drew.cell? ⟨p2, 0, none⟩ = some (.slice x n c) := ⟨hcs, hc1, hc2⟩
  clear hcs hc1 hc2 h1 h2
  refine wp_region_planD (fun u => u.rangeAt w.heap.size 0 [.bool r.g.tagged, .string (bs r.g.tag), .slice r.x r.n r.c] ∧ u.cell? ⟨p1, 0, none⟩ = some (.slice y m d) ∧ u.cell? ⟨p2, 0, none⟩ = some (.slice x n c)) 7 [(0, true), (1, true), (2, true), (3, true), (4, false), (5, false), (6, true)] (by kernel_rfl) (by kernel_rfl) (fun d _ _ _ _ h => by cases d <;> exact h) HS ?_
  apply planD_held rfl rfl rfl (by simp) HS
  · intro w' hS K hK
    exact gives_load_mid w.heap.size 0 rfl [.bool r.g.tagged, .string (bs r.g.tag), .slice r.x r.n r.c] _ hS.1 Tryd.underlying42 rfl sizeGr hK
  try (simp only [Act.put, List.setIfInBounds_toArray, List.set_cons_zero, List.set_cons_succ])
  apply planD_held rfl rfl rfl (by simp) HS
  · intro w' hS K hK
    exact gives_load_mid w.heap.size 0 rfl [.bool r.g.tagged, .string (bs r.g.tag), .slice r.x r.n r.c] _ hS.1 Tryd.underlying42 rfl sizeGr hK
  try (simp only [Act.put, List.setIfInBounds_toArray, List.set_cons_zero, List.set_cons_succ])
  iterate 2 (first | (apply planD_held rfl rfl rfl (by simp) HS; (intro w' hS K hK; go_simp; exact hK)) | (apply planD_wanted rfl rfl rfl (by simp) HS; (intro w' hS K hK; go_simp; exact hK)))
  refine planD_op rfl rfl (fun KK hK => ?_)
  go_simp
  refine Hk.out.mono ?_
  rintro e w2 ⟨fr, rfl, hu2, hh⟩
  dsimp only
  refine hK _ _ _ (fun u h => h) (fun _ => ⟨hu2.range HS.1 (fun h => h), hu2.cell_some HS.2.1 (fun h => h), hu2.cell_some HS.2.2 (fun h => h)⟩) ?_
  have HS2 := HS
  clear hK
  try (simp only [Act.put, List.setIfInBounds_toArray, List.set_cons_zero, List.set_cons_succ])
  refine planD_op rfl rfl (fun KK hK => ?_)
  go_simp
  refine (hh w2 (Upd.refl _ _)).mono ?_
  rintro e w3 ⟨rfl, hu3⟩
  dsimp only
  have HS3 : w3.rangeAt w.heap.size 0 [.bool r.g.tagged, .string (bs r.g.tag), .slice r.x r.n r.c] ∧ w3.cell? ⟨p1, 0, none⟩ = some (.slice y m d) ∧ w3.cell? ⟨p2, 0, none⟩ = some (.slice x n c) := ⟨(hu2.trans hu3).range HS.1 (fun h => h), (hu2.trans hu3).cell_some HS.2.1 (fun h => h), (hu2.trans hu3).cell_some HS.2.2 (fun h => h)⟩
  refine hK _ _ _ (fun u h => h) (fun _ => HS3) ?_
  have HU : Hid (Upd (fun _ => False) w w3) := Lib.hid ((Hal.out.drew.trans hu2).trans hu3)
  clear hK HS HS2 hh hu2 hu3 Hk Hal
  try (simp only [Act.put, List.setIfInBounds_toArray, List.set_cons_zero, List.set_cons_succ])
  iterate 1 (first | (apply planD_held rfl rfl rfl (by simp) HS3; (intro w' hS K hK; go_simp; exact hK)) | (apply planD_wanted rfl rfl rfl (by simp) HS3; (intro w' hS K hK; go_simp; exact hK)))
  refine planD_nil ?_
  clear HS3
  go_wp2_with fail
  go_ret
  exact ⟨rfl, HU.out⟩
/-- A group of the list. -/
theorem GroupsAt.len {w : World} {x : Option Addr} {n c : Nat} {rs : List GrR} (h : GroupsAt w x n c rs) : rs.length = n := by
  have h1 := h.1.1
  rw [flat_length grV 3 rs (fun _ _ => rfl)] at h1
  omega
theorem GroupsAt.upd {w w' : World} {x : Option Addr} {n c : Nat} {rs : List GrR} (h : GroupsAt w x n c rs) (hu : Upd (fun _ => False) w w') : GroupsAt w' x n c rs :=
  ⟨Sees.upd hu h.1 (fun _ _ _ h => h), fun r hr => (h.2 r hr).upd hu⟩
theorem GroupsAt.at {w : World} {x : Option Addr} {n c : Nat} {rs : List GrR} (h : GroupsAt w x n c rs) (i : Nat) (hi : i < rs.length) :
    ∃ g o, x = some ⟨g, o, none⟩ ∧ w.rangeAt g (o + i * 3) (grV rs[i]) ∧ GrOk w rs[i] := by
  have hl := h.len
  obtain ⟨_, _, y, d, e, hc⟩ := h.1
  cases e
  obtain ⟨g, o, rfl, hr⟩ := hc (by omega)
  exact ⟨g, o, rfl, rangeAt.sub (w := w) (b := g) (off := o) hr (i * 3) (by rw [grV_length]; exact flat_piece grV 3 rs i hi (fun _ _ => rfl)), h.2 _ (List.getElem_mem hi)⟩
set_option maxHeartbeats 2000000 in
theorem idx_ok {w : World} {rs : List GrR} {gx : Option Addr} {gn gc : Nat} (hg : GroupsAt w gx gn gc rs) (htag : ∀ r ∈ rs, r.g.tag.length ≤ 100000000) {self : List By} {fs : List FctR} {y : Option Addr} {m d : Nat} {x : Option Addr} {n c : Nat} (h : HIn w self fs y m d x n c)
    {p1 p2 : Nat} (h1 : w.cell? ⟨p1, 0, none⟩ = some (.slice y m d)) (h2 : w.cell? ⟨p2, 0, none⟩ = some (.slice x n c)) :
    Calls Tryd.prog 35 #[.slice gx gn gc, .func (.func 23) #[] #[.pointer (some ⟨p1, 0, none⟩), .pointer (some ⟨p2, 0, none⟩)]] w fun e w' =>
      ∃ z : Int, e = .returned (.int .i64 z) ∧ decide (0 ≤ z) = heldP (rs.map (·.g)) self (fs.map (·.f)) ∧ Upd (fun _ => False) w w' := by
  have hl := hg.len
  have hnI : (gn : Int) ≤ 9223372036854775807 := by have := hg.1.2.1; unfold maxLen at this; omega
  have hP : heldP (rs.map (·.g)) self (fs.map (·.f)) = rs.any fun r => holdsP r.g (ofP r.g self (fs.map (·.f))) := by unfold heldP; rw [List.any_map]; rfl
  have H := Lib.hid (And.intro hg (And.intro htag (And.intro h (And.intro h1 (And.intro h2 (And.intro hl hP))))))
  clear hg htag h h1 h2 hl hP
  go_enter Tryd.func35, Tryd.ntmps35
  go_wp2_with fail
  go_loopw [8] (fun iv wr => ∃ (i : Nat), i ≤ gn ∧ iv = .int .i64 i ∧ Hid (Upd (fun _ => False) w wr ∧ ((rs.take i).any fun r => holdsP r.g (ofP r.g self (fs.map (·.f)))) = false)) (fun iv _ => gn - (intOf iv).toNat)
  case atStart => exact ⟨0, Nat.zero_le _, rfl, Lib.hid ⟨Upd.refl _ _, rfl⟩⟩
  case round =>
    obtain ⟨i, hi, rfl, HR⟩ := hrel
    by_cases hlt : i < gn
    · have hltI : (i : Int) < (gn : Int) := by omega
      have hil : i < rs.length := by rw [H.out.2.2.2.2.2.1]; exact hlt
      obtain ⟨g, o, rfl, hrg, hgr⟩ := (H.out.1.upd HR.out.1).at i hil
      have t1 := any_take (fun r => holdsP r.g (ofP r.g self (fs.map (·.f)))) rs i hil
      rw [HR.out.2, Bool.false_or] at t1
      have hmem : rs[i] ∈ rs := List.getElem_mem hil
      obtain ⟨r, hr⟩ : ∃ r, rs[i] = r := ⟨_, rfl⟩
      rw [hr] at hrg hgr t1 hmem
      have hcl := holdsC_ok r (H.out.2.2.1.upd HR.out.1) hgr (H.out.2.1 r hmem) (HR.out.1.cell_some H.out.2.2.2.1 (fun h => h)) (HR.out.1.cell_some H.out.2.2.2.2.1 (fun h => h))
      obtain ⟨B, hB⟩ : ∃ B, holdsP r.g (ofP r.g self (fs.map (·.f))) = B := ⟨_, rfl⟩
      rw [hB] at hcl t1
      have H2 := Lib.hid (And.intro hcl (And.intro t1 HR.out.1))
      clear hcl t1 hmem hr hgr hB HR
      simp only [grV] at hrg H2
      go_wp2_with ((with_reducible apply wpl_load_mid g (o + i * 3) [.bool r.g.tagged, .string (bs r.g.tag), .slice r.x r.n r.c]); exact rfl; exact hrg; exact Tryd.underlying42; exact rfl; exact sizeGr; try (simp only [Act.put, List.setIfInBounds_toArray, List.set_cons_zero, List.set_cons_succ]))
      refine H2.out.1.mono ?_
      rintro e w3 ⟨rfl, hu3⟩
      dsimp only
      cases B
      · have HJ := Lib.hid (And.intro (H2.out.2.2.trans hu3) H2.out.2.1)
        clear H2 hu3 hrg
        go_wp2_with fail
        exact ⟨⟨i + 1, by omega, by go_num, HJ⟩, by simp [intOf] <;> omega⟩
      · have hres : Hid (heldP (rs.map (·.g)) self (fs.map (·.f)) = true) := Lib.hid (by
          rw [H.out.2.2.2.2.2.2, ← List.take_append_drop (i + 1) rs, List.any_append, H2.out.2.1]; rfl)
        have HU := Lib.hid (H2.out.2.2.trans hu3)
        clear H2 hu3 hrg
        go_wp2_with fail
        go_ret
        exact ⟨(i : Int), rfl, by rw [hres.out]; exact decide_eq_true (by omega), HU.out⟩
    · obtain rfl : i = gn := by omega
      have hres : Hid (heldP (rs.map (·.g)) self (fs.map (·.f)) = false) := Lib.hid (by
        have h := HR.out.2
        rw [List.take_of_length_le (by rw [H.out.2.2.2.2.2.1]; exact Nat.le_refl _)] at h
        rw [H.out.2.2.2.2.2.2, h])
      have HU := Lib.hid HR.out.1
      clear HR
      go_wp2_with fail
      go_ret
      exact ⟨-1, rfl, by rw [hres.out]; decide, HU.out⟩
theorem Holds_ok {w : World} {rs : List GrR} {gx : Option Addr} {gn gc : Nat} (hg : GroupsAt w gx gn gc rs) (htag : ∀ r ∈ rs, r.g.tag.length ≤ 100000000) {self : List By} {fs : List FctR} {y : Option Addr} {m d : Nat} {x : Option Addr} {n c : Nat} (h : HIn w self fs y m d x n c) :
    Calls Tryd.prog 9 #[.slice gx gn gc, .slice y m d, .slice x n c] w fun e w' => e = .returned (.bool (heldP (rs.map (·.g)) self (fs.map (·.f)))) ∧ Upd (fun _ => False) w w' := by
  have hal : Upd (fun _ => False) w ((w.alloc (.cells #[.slice y m d] 23)).alloc (.cells #[.slice x n c] 25)) := ((Upd.refl _ w).alloc _).alloc _
  have hc1 : CellsA ((w.alloc (.cells #[.slice y m d] 23)).alloc (.cells #[.slice x n c] 25)) w.heap.size 23 [.slice y m d] := alloc_heap (CellsA.new w 23 [.slice y m d]) _
  have hc2 : CellsA ((w.alloc (.cells #[.slice y m d] 23)).alloc (.cells #[.slice x n c] 25)) (w.heap.size + 1) 25 [.slice x n c] := by
    have := CellsA.new (w.alloc (.cells #[.slice y m d] 23)) 25 [.slice x n c]
    simpa using this
  have hix := idx_ok (hg.upd hal) htag (h.upd hal) (hc1.cell 0) (hc2.cell 0)
  have H := Lib.hid (And.intro hix hal)
  clear hix hal hc1 hc2 hg h htag
  go_enter Tryd.func9, Tryd.ntmps9
  go_wp2_with ((go_at_call 22; go_in))
  refine H.out.1.mono ?_
  rintro e w2 ⟨z, rfl, hz, hu⟩
  dsimp only
  have HU := Lib.hid (And.intro hz (H.out.2.trans hu))
  clear H hz hu
  by_cases hz0 : 0 ≤ z
  · have hr : Hid (heldP (rs.map (·.g)) self (fs.map (·.f)) = true) := Lib.hid (by rw [← HU.out.1]; exact decide_eq_true hz0)
    go_wp2_with fail
    go_ret
    exact ⟨by rw [hr.out]; rfl, HU.out.2⟩
  · have hr : Hid (heldP (rs.map (·.g)) self (fs.map (·.f)) = false) := Lib.hid (by rw [← HU.out.1]; exact decide_eq_false hz0)
    go_wp2_with fail
    go_ret
    exact ⟨by rw [hr.out]; rfl, HU.out.2⟩
end Go.Proofs.YtbhmeagliebfdaaDoor

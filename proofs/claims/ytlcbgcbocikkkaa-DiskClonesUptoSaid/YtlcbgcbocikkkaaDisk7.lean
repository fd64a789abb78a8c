/- Clone of a disk. -/
import Derived.Test.YtlcbgcbocikkkaaDisk6
import Derived.Test.YtlcbgcbocikkkaaRegionD
import Derived.Test.YtlcbgcbocikkkaaClone
namespace Go.Proofs.Ytlcbgcbocikkkaa
open Go.RowKit
set_option linter.unusedSimpArgs false
set_option linter.unusedVariables false
set_option maxRecDepth 100000

theorem row_base {w : World} {base base' : Nat} {e : TypeId} {size : Nat} {v : Value} {n : Nat} {xs : List Value} (hb : base' ≤ base) (h : w.ownsRow base e size v n xs) : w.ownsRow base' e size v n xs := by
  refine ⟨h.1, h.2.imp id ?_⟩
  rintro ⟨g, cap, cur, h1, h2, h3⟩
  exact ⟨g, cap, cur, h1, Nat.le_trans hb h2, h3⟩
theorem waitsV_one (l : List (Nat × Bytes)) : ∀ u ∈ waitsV l, u.oneCell' = true := by
  intro u hu
  simp only [waitsV, List.mem_flatMap] at hu
  obtain ⟨p, _, hp⟩ := hu
  rcases List.mem_cons.1 hp with rfl | h
  · rfl
  · exact bvs_one _ _ h
theorem secsV_one (l : List Bytes) : ∀ u ∈ secsV l, u.oneCell' = true := by
  intro u hu
  simp only [secsV, List.mem_flatMap] at hu
  obtain ⟨p, _, hp⟩ := hu
  exact bvs_one _ _ hp
/-- A row of writes, copied, nil or not. -/
theorem cloneW_row (v : Value) (n : Nat) (xs : List Value) (w : World) (h : w.ownsRow 0 93 513 v n xs) (h1 : ∀ u ∈ xs, u.oneCell' = true) (hm : n * 520 ≤ 140737488355328) :
    Calls Try.prog 50 #[v] w fun e w' => ∃ x' c', e = .returned (.slice x' n c') ∧ w'.ownsRow w.heap.size 93 513 (.slice x' n c') n xs ∧ Upd (fun _ => False) w w' := by
  rcases id h.2 with ⟨rfl, rfl⟩ | ⟨g, cap, cur, rfl, _⟩
  · refine (cloneW_nil w).mono ?_
    rintro e w' ⟨rfl, rfl⟩
    have hx : xs = [] := List.eq_nil_of_length_eq_zero (by simpa using h.1)
    subst hx
    exact ⟨none, 0, rfl, World.ownsRow_nil _ _ _ _, Upd.refl _ _⟩
  · refine (cloneW_some _ n cap xs w (sees_of_row h) h1 hm).mono ?_
    rintro e w' ⟨x', c', rfl, h2, h3⟩
    exact ⟨_, _, rfl, h2, h3⟩

set_option maxHeartbeats 2000000 in
theorem clone_disk {w : World} {b : Nat} {D : DSt} {F : Nat → Prop} (hD : DiskAt w b D F) (hm : D.waits.length < 100000000000) :
    Calls Try.prog 33 #[.pointer (some ⟨b, 0, none⟩)] w fun e w' => ∃ b' F', e = .returned (.pointer (some ⟨b', 0, none⟩)) ∧ DiskAt w' b' D F' ∧ Upd (fun _ => False) w w' ∧ (∀ k, F' k → w.heap.size ≤ k) := by
  obtain ⟨hOk, hFb, hFlt, sb, sc, scur, wv, hb, hs, hwv, hFs, hbs, hFw⟩ := id hD
  obtain ⟨c0, c1, c2, c3⟩ := four hb
  obtain ⟨f, hf⟩ : ∃ f : Int, D.fuel = f := ⟨_, rfl⟩
  obtain ⟨de, hde⟩ : ∃ de, D.dead = de := ⟨_, rfl⟩
  obtain ⟨n, hn⟩ : ∃ n, D.secs.length = n := ⟨_, rfl⟩
  have hsl := secsV_length hOk.secs
  have hse : Sees w 512 (.slice (some ⟨sb, 0, none⟩) n sc) n (secsV D.secs) := by
    refine Sees.at (by rw [hsl, hn]) (by have := hOk.most; unfold maxLen; omega) (rangeAt_of_row (c := scur.toList) (by simpa using hs.1) ?_)
    rw [hsl, List.drop_zero]
    exact hs.2.2.2.2
  rw [hf] at c2
  rw [hde] at c3
  rw [hn] at c0
  have HD := Lib.hid (And.intro hD (And.intro hm (And.intro hn (And.intro hf (And.intro hde (And.intro hse hwv))))))
  clear hD hm hn hf hde hOk hFb hFlt hb hs hwv hFs hbs hFw hsl hse
  go_enter Try.func33, Try.ntmps33
  go_wp2_with fail
  have hd : Upd (fun _ => False) w w.drew := (Upd.refl _ _).drew
  have HS : w.drew.cell? ⟨b, 0, none⟩ = some (.slice (some ⟨sb, 0, none⟩) n sc) ∧ w.drew.cell? ⟨b, 1, none⟩ = some wv ∧ w.drew.cell? ⟨b, 2, none⟩ = some (.int .i64 f) ∧ w.drew.cell? ⟨b, 3, none⟩ = some (.bool de) := ⟨c0, c1, c2, c3⟩
  refine wp_region_planD (fun w' => w'.cell? ⟨b, 0, none⟩ = some (.slice (some ⟨sb, 0, none⟩) n sc) ∧ w'.cell? ⟨b, 1, none⟩ = some wv ∧ w'.cell? ⟨b, 2, none⟩ = some (.int .i64 f) ∧ w'.cell? ⟨b, 3, none⟩ = some (.bool de)) 21 [(0, true), (1, true), (2, true), (3, true), (5, true), (6, true), (7, true), (8, true), (10, true), (11, true), (12, true), (13, true), (14, true), (15, true), (16, true), (17, true), (4, false), (9, false), (18, true), (19, false), (20, true)] (by kernel_rfl) (by kernel_rfl) (fun d _ _ _ _ h => by cases d <;> exact h) HS ?_
  iterate 16 (first | (apply planD_held rfl rfl rfl (by simp) HS; (intro w' hS K hK; go_simp; exact hK)) | (apply planD_wanted rfl rfl rfl (by simp) HS; (intro w' hS K hK; go_simp; exact hK)))
  refine planD_op rfl rfl (fun K hK => ?_)
  go_simp
  refine (cloneK_some ⟨sb, 0, none⟩ n sc (secsV D.secs) _ (HD.out.2.2.2.2.2.1.upd hd (fun _ _ _ h => h)) (secsV_one _) (by have := HD.out.1.1.most; have := HD.out.2.2.1; omega)).mono ?_
  rintro e w1 ⟨x1, k1, rfl, hr1, hu1⟩
  dsimp only
  have HU1 := Lib.hid (And.intro (hd.trans hu1) hr1)
  have HS : w1.cell? ⟨b, 0, none⟩ = some (.slice (some ⟨sb, 0, none⟩) n sc) ∧ w1.cell? ⟨b, 1, none⟩ = some wv ∧ w1.cell? ⟨b, 2, none⟩ = some (.int .i64 f) ∧ w1.cell? ⟨b, 3, none⟩ = some (.bool de) := ⟨hu1.cell_some HS.1 (fun h => h), hu1.cell_some HS.2.1 (fun h => h), hu1.cell_some HS.2.2.1 (fun h => h), hu1.cell_some HS.2.2.2 (fun h => h)⟩
  refine hK _ _ _ (fun _ h => h) (fun _ => HS) ?_
  clear hK hr1 hu1 hd
  try (simp only [Act.put, List.setIfInBounds_toArray, List.set_cons_zero, List.set_cons_succ])
  refine planD_op rfl rfl (fun K hK => ?_)
  go_simp
  refine (cloneW_row wv D.waits.length (waitsV D.waits) w1 (HU1.out.1.row HD.out.2.2.2.2.2.2 (fun _ _ h => h)) (waitsV_one _) (by have := HD.out.2.1; omega)).mono ?_
  rintro e w2 ⟨x2, k2, rfl, hr2, hu2⟩
  dsimp only
  have HU2 := Lib.hid (And.intro (HU1.out.1.trans hu2) (And.intro hr2 (hu2.row HU1.out.2 (fun _ _ h => h))))
  have HS : w2.cell? ⟨b, 0, none⟩ = some (.slice (some ⟨sb, 0, none⟩) n sc) ∧ w2.cell? ⟨b, 1, none⟩ = some wv ∧ w2.cell? ⟨b, 2, none⟩ = some (.int .i64 f) ∧ w2.cell? ⟨b, 3, none⟩ = some (.bool de) := ⟨hu2.cell_some HS.1 (fun h => h), hu2.cell_some HS.2.1 (fun h => h), hu2.cell_some HS.2.2.1 (fun h => h), hu2.cell_some HS.2.2.2 (fun h => h)⟩
  refine hK _ _ _ (fun _ h => h) (fun _ => HS) ?_
  have hw12 := hu2.size
  clear hK hr2 hu2
  try (simp only [Act.put, List.setIfInBounds_toArray, List.set_cons_zero, List.set_cons_succ])
  (first | (apply planD_held rfl rfl rfl (by simp) HS; (intro w' hS K hK; go_simp; exact hK)) | (apply planD_wanted rfl rfl rfl (by simp) HS; (intro w' hS K hK; go_simp; exact hK)))
  refine planD_op rfl rfl (fun K hK => ?_)
  go_simp
  obtain ⟨O, hO⟩ : ∃ O, Obj.cells #[.slice (some x1) n k1, .slice x2 D.waits.length k2, .int .i64 f, .bool de] 88 = O := ⟨_, rfl⟩
  rw [hO]
  have hu3 : Upd (fun _ => False) w2 (w2.alloc O) := (Upd.refl _ _).alloc _
  have HS : (w2.alloc O).cell? ⟨b, 0, none⟩ = some (.slice (some ⟨sb, 0, none⟩) n sc) ∧ (w2.alloc O).cell? ⟨b, 1, none⟩ = some wv ∧ (w2.alloc O).cell? ⟨b, 2, none⟩ = some (.int .i64 f) ∧ (w2.alloc O).cell? ⟨b, 3, none⟩ = some (.bool de) := ⟨hu3.cell_some HS.1 (fun h => h), hu3.cell_some HS.2.1 (fun h => h), hu3.cell_some HS.2.2.1 (fun h => h), hu3.cell_some HS.2.2.2 (fun h => h)⟩
  refine hK _ _ _ (fun _ h => h) (fun _ => HS) ?_
  clear hK
  try (simp only [Act.put, List.setIfInBounds_toArray, List.set_cons_zero, List.set_cons_succ])
  (first | (apply planD_held rfl rfl rfl (by simp) HS; (intro w' hS K hK; go_simp; exact hK)) | (apply planD_wanted rfl rfl rfl (by simp) HS; (intro w' hS K hK; go_simp; exact hK)))
  refine planD_nil ?_
  have hE : DiskAt (w2.alloc O) w2.heap.size D (fun k => k = w2.heap.size ∨ x1.block = k ∨ (Value.slice x2 D.waits.length k2).ownBlock = some k) ∧ Upd (fun _ => False) w (w2.alloc O) ∧ (∀ k, (k = w2.heap.size ∨ x1.block = k ∨ (Value.slice x2 D.waits.length k2).ownBlock = some k) → w.heap.size ≤ k) := by
    have l1 := World.ownsRow.lt HU2.out.2.2
    have l2 := World.ownsRow.lt HU2.out.2.1
    have s1 := HU1.out.1.size
    have s2 := HU2.out.1.size
    have hz : w.drew.heap.size = w.heap.size := rfl
    have hn1 := HD.out.1.1.one
    obtain ⟨_, h0 | ⟨g, cap, cur, hg, hgb, hgh, hgc, hgm, hgs, hgt⟩⟩ := id HU2.out.2.2
    · cases h0.1
    · cases hg
      refine ⟨⟨HD.out.1.1, .inl rfl, fun k hk => ?_, g, k1, cur, .slice x2 D.waits.length k2, ?_, ?_, ?_, .inr (.inl rfl), ?_, fun k hk => ⟨.inr (.inr hk), ?_, ?_⟩⟩, HU2.out.1.trans hu3, fun k hk => ?_⟩
      · simp only [World.size_alloc]
        rcases hk with rfl | hk | hk
        · omega
        · have := (l1 k (by simpa [Value.ownBlock] using hk)).2; omega
        · have := (l2 k hk).2; omega
      · rw [heap_alloc_new, ← hO, ← HD.out.2.2.1, HD.out.2.2.2.1, HD.out.2.2.2.2.1]
      · rw [HD.out.2.2.1]
        exact ⟨alloc_heap hgh _, hgc, hgm, hgs, hgt⟩
      · exact row_base (Nat.zero_le _) (hu3.row HU2.out.2.1 (fun _ _ h => h))
      · have := (l1 g rfl).2; omega
      · have := (l2 k hk).2; omega
      · intro e
        subst e
        have a1 := (l2 k hk).1
        have a2 := lt_of_block hgh
        have a3 := (World.ownsRow.lt HU1.out.2 k rfl).2
        omega
      · rcases hk with rfl | hk | hk
        · omega
        · have := (l1 k (by simpa [Value.ownBlock] using hk)).1; omega
        · have := (l2 k hk).1; omega
  have HE := Lib.hid hE
  clear hE HS hu3 hO
  go_wp2_with fail
  go_ret
  exact ⟨_, _, rfl, HE.out.1, HE.out.2.1, HE.out.2.2⟩
end Go.Proofs.Ytlcbgcbocikkkaa

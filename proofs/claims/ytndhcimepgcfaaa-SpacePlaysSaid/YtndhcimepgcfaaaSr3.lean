/- docketref05: Again, Bytes. -/
import Derived.Test.YtndhcimepgcfaaaSr2
import Derived.Test.YtndhcimepgcfaaaKCrc
namespace Go.Proofs.Ytndhcimepgcfaaa
open Go Go.RowKit
set_option linter.unusedSimpArgs false
set_option linter.unusedVariables false
set_option maxRecDepth 100000
theorem row_cells {w : World} {base : Nat} {e : TypeId} {x : Option Addr} {n c : Nat} {xs : List Value} (h : w.ownsRow base e 1 (.slice x n c) n xs) (hn : 0 < n) : ∃ g r, x = some ⟨g, 0, none⟩ ∧ base ≤ g ∧ CellsA w g e (xs ++ r) := by
  obtain ⟨_, ⟨_, h0⟩ | ⟨g, cap, cur, he, hb, hg, h1, h2, h3, h4⟩⟩ := h
  · omega
  · cases he
    refine ⟨g, cur.toList.drop (n * 1), rfl, hb, ?_⟩
    show w.heap[g]? = _
    rw [← h4, List.take_append_drop, Array.toArray_toList]
    exact hg
def AgainPost (w w' : World) (rb N : Nat) (f : Nat → Bool) : Prop := ∃ nb ob nc oc, NewM w w' rb nb ob N nc oc f f
set_option maxHeartbeats 4000000 in
theorem ragain_ok {w : World} {rb nb ob N nc oc : Nat} {f g : Nat → Bool} (h : RefM w rb nb ob N nc oc f g) (h1 : 1 ≤ N) (hN : N ≤ 4096) : Calls Try.prog 22 #[.pointer (some ⟨rb, 0, none⟩)] w fun e w' => ∃ rb', e = .returned (.pointer (some ⟨rb', 0, none⟩)) ∧ AgainPost w w' rb' N f := by
  have c0 := h.cells.cell 0
  simp only [List.getElem?_cons_zero] at c0
  have hse : Sees w 1 (.slice (some ⟨nb, 0, none⟩) N nc) N (fnV N f) := by
    obtain ⟨r1, hc⟩ := h.now
    exact Sees.at (by rw [fnV_length, Nat.mul_one]) (by unfold maxLen; omega) (rangeAt_of_row hc (by rw [List.drop_zero, List.take_left]))
  have H := Lib.hid (And.intro h (And.intro h1 (And.intro hN hse)))
  clear h h1 hN hse
  go_enter Try.func22, Try.ntmps22
  go_wp2_with fail
  have HS : Upd (fun _ => False) w w.drew ∧ w.drew.cell? ⟨rb, 0, none⟩ = some (.slice (some ⟨nb, 0, none⟩) N nc) := ⟨(Upd.refl _ _).drew, c0⟩
  refine wp_region_planT (fun w' => Upd (fun _ => False) w w' ∧ w'.cell? ⟨rb, 0, none⟩ = some (.slice (some ⟨nb, 0, none⟩) N nc)) [1, 2, 3, 4, 7, 8, 9, 10] 7 (by kernel_rfl) (by kernel_rfl) (fun d _ _ _ _ h => by cases d <;> exact h) HS ?_
  iterate 8 (apply planT_held rfl rfl rfl (by simp) HS; (intro w' hS K hK; go_simp; exact hK))
  refine planT_nil ?_
  let Af : Value → Value → Value → Value → Act := fun v3 v8 v9 v14 => ⟨#[.pointer (some ⟨rb, 0, none⟩), undef, .pointer none, v3, .pointer (some ⟨rb, 0, none⟩), .pointer (some ⟨rb, 0, none⟩), .pointer (some ⟨rb, 0, none⟩), .slice (some ⟨nb, 0, none⟩) N nc, v8, v9, .pointer (some ⟨rb, 0, none⟩), .pointer (some ⟨rb, 0, none⟩), .pointer (some ⟨rb, 0, none⟩), .slice (some ⟨nb, 0, none⟩) N nc, v14, undef, undef], []⟩
  let I : Nat → Nat → Act → World → Prop := fun s t a w' => (Upd (fun _ => False) w w' ∧ w'.cell? ⟨rb, 0, none⟩ = some (.slice (some ⟨nb, 0, none⟩) N nc)) ∧
    ∃ v3 v8 v9 v14, a = Af v3 v8 v9 v14 ∧ (s = 1 → w'.ownsRow w.heap.size 4 1 v3 0 []) ∧ (s = 2 → w'.ownsRow w.heap.size 4 1 v8 N (fnV N f)) ∧
      (t = 1 → w'.ownsRow w.heap.size 4 1 v9 0 []) ∧ (t = 2 → w'.ownsRow w.heap.size 4 1 v14 N (fnV N f)) ∧
      (∀ k, (s = 1 ∧ v3.ownBlock = some k ∨ s = 2 ∧ v8.ownBlock = some k) → ¬ (t = 1 ∧ v9.ownBlock = some k ∨ t = 2 ∧ v14.ownBlock = some k))
  have grow : ∀ (w1 w2 : World) (G : Nat → Prop), (Upd (fun _ => False) w w1 ∧ w1.cell? ⟨rb, 0, none⟩ = some (.slice (some ⟨nb, 0, none⟩) N nc)) → Upd G w1 w2 → (∀ k, G k → w.heap.size ≤ k) →
      (Upd (fun _ => False) w w2 ∧ w2.cell? ⟨rb, 0, none⟩ = some (.slice (some ⟨nb, 0, none⟩) N nc)) := by
    intro w1 w2 G h hu hG
    have hbw : rb < w.heap.size := World.block_lt_of_cell? _ _ c0
    have hnb : ¬ G rb := fun h => by have := hG rb h; omega
    exact ⟨h.1.then hu (fun i hi => .inr (hG i hi)), hu.cell_some h.2 hnb⟩
  refine two_chains (S := fun w' => _) _ 0 5 6 11 3 (by kernel_rfl) I (fun s t a w' h => h.1) ?_ ?_ ?_ ?_ ?_ 4 0 0 (by omega) (by omega) (by omega) _ _ ⟨HS, undef, undef, undef, undef, rfl, fun h => by omega, fun h => by omega, fun h => by omega, fun h => by omega, fun k h => by omega⟩
  · rintro t a w1 ⟨hS, v7, v12, v13, v18, rfl, o1, o2, o3, o4, od⟩
    refine wpOp_one rfl rfl ?_
    go_simp
    refine ⟨grow _ _ _ hS ((Upd.refl (fun _ => False) w1).alloc _) (fun _ h => h.elim), _, v12, v13, v18, rfl, fun _ => World.ownsRow_made w1 #[] 0 hS.1.size (Nat.zero_le _) (by simp), fun h => by omega, fun h => ((Upd.refl (fun _ => False) w1).alloc _).row (o3 h) (fun _ _ h => h), fun h => ((Upd.refl (fun _ => False) w1).alloc _).row (o4 h) (fun _ _ h => h), fun k hk hk2 => ?_⟩
    rcases hk with ⟨_, hk⟩ | ⟨h, _⟩
    · simp [Value.ownBlock] at hk
      rcases hk2 with ⟨h, hk2⟩ | ⟨h, hk2⟩
      · have := (World.ownsRow.lt (o3 h) k hk2).2; omega
      · have := (World.ownsRow.lt (o4 h) k hk2).2; omega
    · omega
  · rintro t a w1 ⟨hS, v7, v12, v13, v18, rfl, o1, o2, o3, o4, od⟩
    refine wpOp_one rfl rfl ?_
    have hse := H.out.2.2.2.upd hS.1 (fun _ _ _ h => h)
    refine wp_append_sees w.heap.size 4 1 1 _ v7 0 [] N (fnV N f) Try.underlying22 infoBool rfl (by decide) rfl (o1 rfl) hse (fnV_one N f) (by have := H.out.2.2.1; unfold maxLen; omega) (by have := H.out.2.2.1; omega) hS.1.size ?_
    intro x' c' w4 hown hg hbk
    have hU4 : Upd (fun k => v7.ownBlock = some k) w1 w4 := (Upd.refl _ w1).grown hg (fun k hk => .inl hk)
    simp only [Nat.zero_add, List.nil_append] at hown hbk ⊢
    refine ⟨grow _ _ _ hS hU4 (fun k hk => (World.ownsRow.lt (o1 rfl) k hk).1), v7, _, v13, v18, rfl, fun h => by omega, fun _ => hown, fun h => hU4.row (o3 h) (fun k hk e => od k (.inl ⟨rfl, e⟩) (.inl ⟨h, hk⟩)), fun h => hU4.row (o4 h) (fun k hk e => od k (.inl ⟨rfl, e⟩) (.inr ⟨h, hk⟩)), fun k hk hk2 => ?_⟩
    rcases hk with ⟨h, _⟩ | ⟨_, hk⟩
    · omega
    · rcases hbk with hb | hb <;> rw [hb] at hk
      · exact od k (.inl ⟨rfl, hk⟩) hk2
      · simp at hk
        rcases hk2 with ⟨h, hk2⟩ | ⟨h, hk2⟩
        · have := (World.ownsRow.lt (o3 h) k hk2).2; omega
        · have := (World.ownsRow.lt (o4 h) k hk2).2; omega
  · rintro t a w1 ⟨hS, v7, v12, v13, v18, rfl, o1, o2, o3, o4, od⟩
    refine wpOp_one rfl rfl ?_
    go_simp
    refine ⟨grow _ _ _ hS ((Upd.refl (fun _ => False) w1).alloc _) (fun _ h => h.elim), v7, v12, _, v18, rfl, fun h => ((Upd.refl (fun _ => False) w1).alloc _).row (o1 h) (fun _ _ h => h), fun h => ((Upd.refl (fun _ => False) w1).alloc _).row (o2 h) (fun _ _ h => h), fun _ => World.ownsRow_made w1 #[] 0 hS.1.size (Nat.zero_le _) (by simp), fun h => by omega, fun k hk2 hk => ?_⟩
    rcases hk with ⟨_, hk⟩ | ⟨h, _⟩
    · simp [Value.ownBlock] at hk
      rcases hk2 with ⟨h, hk2⟩ | ⟨h, hk2⟩
      · have := (World.ownsRow.lt (o1 h) k hk2).2; omega
      · have := (World.ownsRow.lt (o2 h) k hk2).2; omega
    · omega
  · rintro t a w1 ⟨hS, v7, v12, v13, v18, rfl, o1, o2, o3, o4, od⟩
    refine wpOp_one rfl rfl ?_
    have hse := H.out.2.2.2.upd hS.1 (fun _ _ _ h => h)
    refine wp_append_sees w.heap.size 4 1 1 _ v13 0 [] N (fnV N f) Try.underlying22 infoBool rfl (by decide) rfl (o3 rfl) hse (fnV_one N f) (by have := H.out.2.2.1; unfold maxLen; omega) (by have := H.out.2.2.1; omega) hS.1.size ?_
    intro x' c' w4 hown hg hbk
    have hU4 : Upd (fun k => v13.ownBlock = some k) w1 w4 := (Upd.refl _ w1).grown hg (fun k hk => .inl hk)
    simp only [Nat.zero_add, List.nil_append] at hown hbk ⊢
    refine ⟨grow _ _ _ hS hU4 (fun k hk => (World.ownsRow.lt (o3 rfl) k hk).1), v7, v12, v13, _, rfl, fun h => hU4.row (o1 h) (fun k hk e => od k (.inl ⟨h, hk⟩) (.inl ⟨rfl, e⟩)), fun h => hU4.row (o2 h) (fun k hk e => od k (.inr ⟨h, hk⟩) (.inl ⟨rfl, e⟩)), fun h => by omega, fun _ => hown, fun k hk2 hk => ?_⟩
    rcases hk with ⟨h, _⟩ | ⟨_, hk⟩
    · omega
    · rcases hbk with hb | hb <;> rw [hb] at hk
      · exact od k hk2 (.inl ⟨rfl, hk⟩)
      · simp at hk
        rcases hk2 with ⟨h, hk2⟩ | ⟨h, hk2⟩
        · have := (World.ownsRow.lt (o1 h) k hk2).2; omega
        · have := (World.ownsRow.lt (o2 h) k hk2).2; omega
  · rintro a w1 ⟨hS, v7, v12, v13, v18, rfl, o1, o2, o3, o4, od⟩
    have o2 := o2 rfl
    have o4 := o4 rfl
    have od : ∀ k, v12.ownBlock = some k → v18.ownBlock ≠ some k := fun k h1 h2 => od k (.inr ⟨rfl, h1⟩) (.inr ⟨rfl, h2⟩)
    refine chains_end (by kernel_rfl) (fun d _ _ _ _ h => by cases d <;> exact h) (Nat.le_refl _) [(12, true), (13, false), (14, true)] 3 rfl _ _ _ (by kernel_rfl) hS ?_
    obtain ⟨xa2, xc2, rfl⟩ := (sees_of_row o2).shape
    obtain ⟨xa4, xc4, rfl⟩ := (sees_of_row o4).shape
    obtain ⟨g2, r2, rfl, hb2, hg2⟩ := row_cells o2 H.out.2.1
    obtain ⟨g4, r4, rfl, hb4, hg4⟩ := row_cells o4 H.out.2.1
    have hne : g2 ≠ g4 := fun e => od g2 rfl (by rw [e]; rfl)
    dsimp only [Af]
    (first | (apply planD_held rfl rfl rfl (by simp) hS; (intro w' hS K hK; go_simp; exact hK)) | (apply planD_wanted rfl rfl rfl (by simp) hS; (intro w' hS K hK; go_simp; exact hK)))
    refine planD_op rfl rfl (fun K hK => ?_)
    go_simp
    have hu1 : Upd (fun _ => False) w1 (w1.alloc (.cells #[.slice (some ⟨g2, 0, none⟩) N xc2, .slice (some ⟨g4, 0, none⟩) N xc4] 49)) := (Upd.refl _ _).alloc _
    have hS2 := grow _ _ _ hS hu1 (fun _ h => h.elim)
    have HN : Hid (NewM w (w1.alloc (.cells #[.slice (some ⟨g2, 0, none⟩) N xc2, .slice (some ⟨g4, 0, none⟩) N xc4] 49)) w1.heap.size g2 g4 N xc2 xc4 f f) := by
      have l1 := hg2.lt
      have l2 := hg4.lt
      have hsz := hS.1.size
      refine ⟨⟨CellsA.new w1 _ [_, _], ⟨r2, hg2.upd hu1 (fun h => h)⟩, ⟨r4, hg4.upd hu1 (fun h => h)⟩, by omega, by omega, hne⟩, hS2.1, ?_⟩
      rintro q (rfl | rfl | rfl) <;> omega
    refine hK _ _ _ (fun _ h => h) (fun _ => hS2) ?_
    clear hK
    try (simp only [Act.put, List.setIfInBounds_toArray, List.set_cons_zero, List.set_cons_succ])
    (first | (apply planD_held rfl rfl rfl (by simp) hS2; (intro w' hS K hK; go_simp; exact hK)) | (apply planD_wanted rfl rfl rfl (by simp) hS2; (intro w' hS K hK; go_simp; exact hK)))
    refine planD_nil ?_
    clear o1 o2 o3 o4 od hu1 hS hS2 hg2 hg4 hne grow
    go_wp2_with fail
    go_ret
    exact ⟨_, rfl, _, _, _, _, HN.out⟩
/-! The bytes. -/
theorem has_ext {a b : Bytes} (ha : a.length = 512) (hb : b.length = 512) (h : ∀ c, c < 4096 → hasB a c = hasB b c) : a = b := by
  apply List.ext_getElem (by rw [ha, hb])
  intro i h1 h2
  rw [← UInt8.toNat_inj]
  apply Nat.eq_of_testBit_eq
  intro j
  have x1 := a[i].toNat_lt
  have x2 := b[i].toNat_lt
  by_cases hj : j < 8
  · have := h (8 * i + j) (by omega)
    have d1 : (8 * i + j) / 8 = i := by omega
    have d2 : (8 * i + j) % 8 = j := by omega
    simp only [hasB, d1, d2] at this
    have e1 : a.getD i 0 = a[i] := by simp [List.getD, h1]
    have e2 : b.getD i 0 = b[i] := by simp [List.getD, h2]
    rw [e1, e2] at this
    rw [Nat.testBit_eq_decide_div_mod_eq, Nat.testBit_eq_decide_div_mod_eq]
    exact this
  · have hp : (2 : Nat) ^ 8 ≤ 2 ^ j := Nat.pow_le_pow_right (by decide) (by omega)
    rw [Nat.testBit_lt_two_pow (by omega), Nat.testBit_lt_two_pow (by omega)]
theorem has_zeros (c : Nat) : hasB zeros512 c = false := by
  have e : zeros512.getD (c / 8) 0 = 0 := by
    simp only [zeros512, List.getD, List.getElem?_replicate]
    split <;> rfl
  rw [hasB, e]
  simp
end Go.Proofs.Ytndhcimepgcfaaa

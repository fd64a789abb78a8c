/- docketref02's Copy. -/
import Derived.Test.YtlcbgcbocikkkaaRef7
import Derived.Test.YtlcbgcbocikkkaaRegionE
import Derived.Test.YtlcbgcbocikkkaaDisk7
namespace Go.Proofs.Ytlcbgcbocikkkaa
open Go.RowKit
set_option linter.unusedSimpArgs false
set_option linter.unusedVariables false
set_option maxRecDepth 100000

set_option maxHeartbeats 2000000 in
theorem ref_copy {w : World} {b : Nat} {D : DSt} {M : Nat} {F : Nat → Prop} (hD : RefAt w b D M F) (hM : M < 1000000000) :
    Calls Try.prog 34 #[.pointer (some ⟨b, 0, none⟩)] w fun e w' => ∃ b' F', e = .returned (.pointer (some ⟨b', 0, none⟩)) ∧ RefAt w' b' D M F' ∧ Upd (fun _ => False) w w' ∧ (∀ k, F' k → w.heap.size ≤ k) := by
  obtain ⟨hOk, hFb, hFlt, dn, dv, wv, hdn, hMM, hb, hdv, hwv, hFd, hFw, hdw⟩ := id hD
  obtain ⟨c0, c1, c2, c3, c4⟩ := five hb
  obtain ⟨n, hn⟩ : ∃ n : Int, (D.secs.length : Int) = n := ⟨_, rfl⟩
  obtain ⟨f, hf⟩ : ∃ f : Int, D.fuel = f := ⟨_, rfl⟩
  obtain ⟨de, hde⟩ : ∃ de, D.dead = de := ⟨_, rfl⟩
  rw [hn] at c0
  rw [hf] at c3
  rw [hde] at c4
  have HD := Lib.hid (And.intro hD (And.intro hM (And.intro hn (And.intro hf (And.intro hde (And.intro hdn (And.intro hMM (And.intro hdv hwv))))))))
  clear hD hM hn hf hde hdn hMM hdv hwv hOk hFb hFlt hb hFd hFw hdw
  go_enter Try.func34, Try.ntmps34
  go_wp2_with fail
  have HS : Upd (fun _ => False) w w.drew ∧ w.drew.cell? ⟨b, 0, none⟩ = some (.int .i64 n) ∧ w.drew.cell? ⟨b, 1, none⟩ = some dv ∧ w.drew.cell? ⟨b, 2, none⟩ = some wv ∧ w.drew.cell? ⟨b, 3, none⟩ = some (.int .i64 f) ∧ w.drew.cell? ⟨b, 4, none⟩ = some (.bool de) := ⟨(Upd.refl _ _).drew, c0, c1, c2, c3, c4⟩
  refine wp_region_planT (fun w' => Upd (fun _ => False) w w' ∧ w'.cell? ⟨b, 0, none⟩ = some (.int .i64 n) ∧ w'.cell? ⟨b, 1, none⟩ = some dv ∧ w'.cell? ⟨b, 2, none⟩ = some wv ∧ w'.cell? ⟨b, 3, none⟩ = some (.int .i64 f) ∧ w'.cell? ⟨b, 4, none⟩ = some (.bool de)) [0, 1, 2, 3, 5, 6, 7, 8, 11, 12, 13, 14, 16, 17, 18, 19, 20, 21, 22, 23] 7 (by kernel_rfl) (by kernel_rfl) (fun d _ _ _ _ h => by cases d <;> exact h) HS ?_
  iterate 20 (apply planT_held rfl rfl rfl (by simp) HS; (intro w' hS K hK; go_simp; exact hK))
  refine planT_nil ?_
  let Af : Value → Value → Value → Value → Act := fun v7 v12 v13 v18 => ⟨#[Value.pointer (some { block := b, off := 0 }), undef, Value.pointer none, Value.pointer (some { block := b, off := 0 }), Value.pointer (some { block := b, off := 0 }), Value.pointer (some { block := b, off := 0 }), Value.int IntKind.i64 n, v7, Value.pointer (some { block := b, off := 0 }), Value.pointer (some { block := b, off := 0 }), Value.pointer (some { block := b, off := 1 }), dv, v12, v13, Value.pointer (some { block := b, off := 0 }), Value.pointer (some { block := b, off := 0 }), Value.pointer (some { block := b, off := 2 }), wv, v18, Value.pointer (some { block := b, off := 0 }), Value.pointer (some { block := b, off := 0 }), Value.pointer (some { block := b, off := 3 }), Value.int IntKind.i64 f, Value.pointer (some { block := b, off := 0 }), Value.pointer (some { block := b, off := 0 }), Value.pointer (some { block := b, off := 4 }), Value.bool de, undef, undef], []⟩
  let I : Nat → Nat → Act → World → Prop := fun s t a w' => (Upd (fun _ => False) w w' ∧ w'.cell? ⟨b, 0, none⟩ = some (.int .i64 n) ∧ w'.cell? ⟨b, 1, none⟩ = some dv ∧ w'.cell? ⟨b, 2, none⟩ = some wv ∧ w'.cell? ⟨b, 3, none⟩ = some (.int .i64 f) ∧ w'.cell? ⟨b, 4, none⟩ = some (.bool de)) ∧
    ∃ v7 v12 v13 v18, a = Af v7 v12 v13 v18 ∧ (s = 1 → w'.ownsRow w.heap.size 98 2 v7 0 []) ∧ (s = 2 → w'.ownsRow w.heap.size 98 2 v12 dn.length (putsV dn)) ∧
      (t = 1 → w'.ownsRow w.heap.size 98 2 v13 0 []) ∧ (t = 2 → w'.ownsRow w.heap.size 98 2 v18 D.waits.length (putsV D.waits)) ∧
      (∀ k, (s = 1 ∧ v7.ownBlock = some k ∨ s = 2 ∧ v12.ownBlock = some k) → ¬ (t = 1 ∧ v13.ownBlock = some k ∨ t = 2 ∧ v18.ownBlock = some k))
  have grow : ∀ (w1 w2 : World) (G : Nat → Prop), (Upd (fun _ => False) w w1 ∧ w1.cell? ⟨b, 0, none⟩ = some (.int .i64 n) ∧ w1.cell? ⟨b, 1, none⟩ = some dv ∧ w1.cell? ⟨b, 2, none⟩ = some wv ∧ w1.cell? ⟨b, 3, none⟩ = some (.int .i64 f) ∧ w1.cell? ⟨b, 4, none⟩ = some (.bool de)) → Upd G w1 w2 → (∀ k, G k → w.heap.size ≤ k) →
      (Upd (fun _ => False) w w2 ∧ w2.cell? ⟨b, 0, none⟩ = some (.int .i64 n) ∧ w2.cell? ⟨b, 1, none⟩ = some dv ∧ w2.cell? ⟨b, 2, none⟩ = some wv ∧ w2.cell? ⟨b, 3, none⟩ = some (.int .i64 f) ∧ w2.cell? ⟨b, 4, none⟩ = some (.bool de)) := by
    intro w1 w2 G h hu hG
    have hbw : b < w.heap.size := World.block_lt_of_cell? _ _ c0
    have hnb : ¬ G b := fun h => by have := hG b h; omega
    exact ⟨h.1.then hu (fun i hi => .inr (hG i hi)), hu.cell_some h.2.1 hnb, hu.cell_some h.2.2.1 hnb, hu.cell_some h.2.2.2.1 hnb, hu.cell_some h.2.2.2.2.1 hnb, hu.cell_some h.2.2.2.2.2 hnb⟩
  have hdl : dn.length < 1000000000 := by have := HD.out; omega
  have hwl : D.waits.length < 1000000000 := by have := HD.out; omega
  have Hl := Lib.hid (And.intro hdl hwl)
  clear hdl hwl
  refine two_chains (S := fun w' => _) _ 4 9 10 15 3 (by kernel_rfl) I (fun s t a w' h => h.1) ?_ ?_ ?_ ?_ ?_ 4 0 0 (by omega) (by omega) (by omega) _ _ ⟨HS, undef, undef, undef, undef, rfl, fun h => by omega, fun h => by omega, fun h => by omega, fun h => by omega, fun k h => by omega⟩
  · rintro t a w1 ⟨hS, v7, v12, v13, v18, rfl, o1, o2, o3, o4, od⟩
    refine wpOp_one rfl rfl ?_
    go_simp
    refine ⟨grow _ _ _ hS ((Upd.refl (fun _ => False) w1).alloc _) (fun _ h => h.elim), _, v12, v13, v18, rfl, fun _ => World.ownsRow_made w1 #[] 0 hS.1.size (Nat.zero_le _) (by simp), fun h => by omega, fun h => ((Upd.refl (fun _ => False) w1).alloc _).row (o3 h) (fun _ _ h => h), fun h => ((Upd.refl (fun _ => False) w1).alloc _).row (o4 h) (fun _ _ h => h), fun k hk hk2 => ?_⟩
    rcases hk with ⟨_, hk⟩ | ⟨h, _⟩
    · simp [Value.ownBlock] at hk
      rcases hk2 with ⟨h, hk2⟩ | ⟨h, hk2⟩
      · have := (World.ownsRow.lt (o3 h) k hk2).2; omega
      · have := (World.ownsRow.lt (o4 h) k hk2).2; omega
    · omega
  · rintro t a w1 ⟨hS, v7, v12, v13, v18, rfl, o1, o2, o3, o4, od⟩
    refine wpOp_one rfl rfl ?_
    have hse := (sees_of_row HD.out.2.2.2.2.2.2.2.1).upd hS.1 (fun _ _ _ h => h)
    refine wp_append_sees w.heap.size 98 2 24 _ v7 0 [] dn.length (putsV dn) Try.underlying58 infoP rfl (by decide) rfl (o1 rfl) hse (putsV_one dn) (by have := Hl.out.1; unfold maxLen; omega) (by have := Hl.out.1; omega) hS.1.size ?_
    intro x' c' w4 hown hg hbk
    have hU4 : Upd (fun k => v7.ownBlock = some k) w1 w4 := (Upd.refl _ w1).grown hg (fun k hk => .inl hk)
    simp only [Nat.zero_add, List.nil_append] at hown hbk ⊢
    refine ⟨grow _ _ _ hS hU4 (fun k hk => (World.ownsRow.lt (o1 rfl) k hk).1), v7, _, v13, v18, rfl, fun h => by omega, fun _ => hown, fun h => hU4.row (o3 h) (fun k hk e => od k (.inl ⟨rfl, e⟩) (.inl ⟨h, hk⟩)), fun h => hU4.row (o4 h) (fun k hk e => od k (.inl ⟨rfl, e⟩) (.inr ⟨h, hk⟩)), fun k hk hk2 => ?_⟩
    rcases hk with ⟨h, _⟩ | ⟨_, hk⟩
    · omega
    · rcases hbk with hb | hb <;> rw [hb] at hk
      · exact od k (.inl ⟨rfl, hk⟩) hk2
      · simp at hk
        rcases hk2 with ⟨h, hk2⟩ | ⟨h, hk2⟩
        · have := (World.ownsRow.lt (o3 h) k hk2).2; omega
        · have := (World.ownsRow.lt (o4 h) k hk2).2; omega
  · rintro t a w1 ⟨hS, v7, v12, v13, v18, rfl, o1, o2, o3, o4, od⟩
    refine wpOp_one rfl rfl ?_
    go_simp
    refine ⟨grow _ _ _ hS ((Upd.refl (fun _ => False) w1).alloc _) (fun _ h => h.elim), v7, v12, _, v18, rfl, fun h => ((Upd.refl (fun _ => False) w1).alloc _).row (o1 h) (fun _ _ h => h), fun h => ((Upd.refl (fun _ => False) w1).alloc _).row (o2 h) (fun _ _ h => h), fun _ => World.ownsRow_made w1 #[] 0 hS.1.size (Nat.zero_le _) (by simp), fun h => by omega, fun k hk2 hk => ?_⟩
    rcases hk with ⟨_, hk⟩ | ⟨h, _⟩
    · simp [Value.ownBlock] at hk
      rcases hk2 with ⟨h, hk2⟩ | ⟨h, hk2⟩
      · have := (World.ownsRow.lt (o1 h) k hk2).2; omega
      · have := (World.ownsRow.lt (o2 h) k hk2).2; omega
    · omega
  · rintro t a w1 ⟨hS, v7, v12, v13, v18, rfl, o1, o2, o3, o4, od⟩
    refine wpOp_one rfl rfl ?_
    have hse := (sees_of_row HD.out.2.2.2.2.2.2.2.2).upd hS.1 (fun _ _ _ h => h)
    refine wp_append_sees w.heap.size 98 2 24 _ v13 0 [] D.waits.length (putsV D.waits) Try.underlying58 infoP rfl (by decide) rfl (o3 rfl) hse (putsV_one D.waits) (by have := Hl.out.2; unfold maxLen; omega) (by have := Hl.out.2; omega) hS.1.size ?_
    intro x' c' w4 hown hg hbk
    have hU4 : Upd (fun k => v13.ownBlock = some k) w1 w4 := (Upd.refl _ w1).grown hg (fun k hk => .inl hk)
    simp only [Nat.zero_add, List.nil_append] at hown hbk ⊢
    refine ⟨grow _ _ _ hS hU4 (fun k hk => (World.ownsRow.lt (o3 rfl) k hk).1), v7, v12, v13, _, rfl, fun h => hU4.row (o1 h) (fun k hk e => od k (.inl ⟨h, hk⟩) (.inl ⟨rfl, e⟩)), fun h => hU4.row (o2 h) (fun k hk e => od k (.inr ⟨h, hk⟩) (.inl ⟨rfl, e⟩)), fun h => by omega, fun _ => hown, fun k hk2 hk => ?_⟩
    rcases hk with ⟨h, _⟩ | ⟨_, hk⟩
    · omega
    · rcases hbk with hb | hb <;> rw [hb] at hk
      · exact od k hk2 (.inl ⟨rfl, hk⟩)
      · simp at hk
        rcases hk2 with ⟨h, hk2⟩ | ⟨h, hk2⟩
        · have := (World.ownsRow.lt (o1 h) k hk2).2; omega
        · have := (World.ownsRow.lt (o2 h) k hk2).2; omega
  · rintro a w1 ⟨hS, v7, v12, v13, v18, rfl, o1, o2, o3, o4, od⟩
    have o2 := o2 rfl
    have o4 := o4 rfl
    have od : ∀ k, v12.ownBlock = some k → v18.ownBlock ≠ some k := fun k h1 h2 => od k (.inr ⟨rfl, h1⟩) (.inr ⟨rfl, h2⟩)
    refine chains_end (by kernel_rfl) (fun d _ _ _ _ h => by cases d <;> exact h) (Nat.le_refl _) [(24, true), (25, false), (26, true)] 3 rfl _ _ _ (by kernel_rfl) hS ?_
    obtain ⟨xa2, xc2, rfl⟩ := (sees_of_row o2).shape
    obtain ⟨xa4, xc4, rfl⟩ := (sees_of_row o4).shape
    dsimp only [Af]
    (first | (apply planD_held rfl rfl rfl (by simp) hS; (intro w' hS K hK; go_simp; exact hK)) | (apply planD_wanted rfl rfl rfl (by simp) hS; (intro w' hS K hK; go_simp; exact hK)))
    refine planD_op rfl rfl (fun K hK => ?_)
    go_simp
    have hu1 : Upd (fun _ => False) w1 (w1.alloc (.cells #[.int .i64 n, .slice xa2 dn.length xc2, .slice xa4 D.waits.length xc4, .int .i64 f, .bool de] 60)) := (Upd.refl _ _).alloc _
    have hS2 := grow _ _ _ hS hu1 (fun _ h => h.elim)
    refine hK _ _ _ (fun _ h => h) (fun _ => hS2) ?_
    clear hK
    try (simp only [Act.put, List.setIfInBounds_toArray, List.set_cons_zero, List.set_cons_succ])
    (first | (apply planD_held rfl rfl rfl (by simp) hS2; (intro w' hS K hK; go_simp; exact hK)) | (apply planD_wanted rfl rfl rfl (by simp) hS2; (intro w' hS K hK; go_simp; exact hK)))
    refine planD_nil ?_
    have HF : Hid (RefAt (w1.alloc (.cells #[.int .i64 n, .slice xa2 dn.length xc2, .slice xa4 D.waits.length xc4, .int .i64 f, .bool de] 60)) w1.heap.size D M (fun k => k = w1.heap.size ∨ (Value.slice xa2 dn.length xc2).ownBlock = some k ∨ (Value.slice xa4 D.waits.length xc4).ownBlock = some k) ∧ (∀ k, (k = w1.heap.size ∨ (Value.slice xa2 dn.length xc2).ownBlock = some k ∨ (Value.slice xa4 D.waits.length xc4).ownBlock = some k) → w.heap.size ≤ k)) := by
      have l2 := World.ownsRow.lt o2
      have l4 := World.ownsRow.lt o4
      have hs1 := hS.1.size
      refine ⟨⟨HD.out.1.1, .inl rfl, fun k hk => ?_, dn, .slice xa2 dn.length xc2, .slice xa4 D.waits.length xc4, HD.out.2.2.2.2.2.1, HD.out.2.2.2.2.2.2.1, ?_, ?_, ?_, fun k hk => ⟨.inr (.inl hk), ?_⟩, fun k hk => ⟨.inr (.inr hk), ?_⟩, od⟩, fun k hk => ?_⟩
      · simp only [World.size_alloc]
        rcases hk with rfl | hk | hk
        · omega
        · have := (l2 k hk).2; omega
        · have := (l4 k hk).2; omega
      · rw [heap_alloc_new, HD.out.2.2.1, HD.out.2.2.2.1, HD.out.2.2.2.2.1]
      · exact row_base (Nat.zero_le _) (hu1.row o2 (fun _ _ h => h))
      · exact row_base (Nat.zero_le _) (hu1.row o4 (fun _ _ h => h))
      · have := (l2 k hk).2; omega
      · have := (l4 k hk).2; omega
      · rcases hk with rfl | hk | hk
        · exact hs1
        · exact (l2 k hk).1
        · exact (l4 k hk).1
    have HU := Lib.hid hS2.1
    clear o1 o2 o3 o4 od hu1 hS hS2
    go_wp2_with fail
    go_ret
    exact ⟨_, rfl, _, HF.out.1, HU.out, HF.out.2⟩
end Go.Proofs.Ytlcbgcbocikkkaa

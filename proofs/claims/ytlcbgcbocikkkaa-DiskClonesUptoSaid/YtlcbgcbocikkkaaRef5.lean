/- Contracts of docketref02, fifth part: Flush. -/
import Derived.Test.YtlcbgcbocikkkaaRef4
namespace Go.Proofs.Ytlcbgcbocikkkaa
open Go.RowKit
set_option linter.unusedSimpArgs false
set_option linter.unusedVariables false
set_option maxRecDepth 100000

theorem done_last : ∀ (ws : List (Nat × Bytes)) (s : List Bytes) (i : Nat), i < s.length → (done s ws).getD i [] = lastOf ws i (s.getD i [])
  | [], _, _, _ => rfl
  | p :: r, s, i, h => by
    show (done (s.set p.1 p.2) r).getD i [] = lastOf r i (if p.1 = i then p.2 else s.getD i [])
    rw [done_last r _ i (by simpa using h)]
    congr 1
    by_cases e : p.1 = i
    · subst e; simp [h]
    · rw [if_neg e, List.getD_eq_getElem?_getD, List.getElem?_set_ne e, ← List.getD_eq_getElem?_getD]
theorem putsV_one (l : List (Nat × Bytes)) : ∀ u ∈ putsV l, u.oneCell' = true := by
  intro u hu
  simp only [putsV, List.mem_flatMap] at hu
  obtain ⟨p, _, hp⟩ := hu
  simp [putV] at hp
  rcases hp with rfl | rfl <;> rfl
theorem putsV_append (a b : List (Nat × Bytes)) : putsV (a ++ b) = putsV a ++ putsV b := by simp [putsV]

theorem flush_dead_ref (b : Nat) (n : Int) (dv wv f : Value) (w : World) (hb : w.heap[b]? = some (.cells #[.int .i64 n, dv, wv, f, .bool true] 60 (0, 0))) :
    Calls Try.prog 46 #[.pointer (some ⟨b, 0, none⟩)] w fun e w' => e = .returned (.int .i64 10) ∧ w = w' := by
  obtain ⟨c0, c1, c2, c3, c4⟩ := five hb
  clear hb
  go_enter Try.func46, Try.ntmps46
  go_wp2_with fail
  go_ret
  exact ⟨rfl, rfl⟩
theorem flush_die_ref (b : Nat) (n : Int) (dv wv : Value) (w : World) (hb : w.heap[b]? = some (.cells #[.int .i64 n, dv, wv, .int .i64 0, .bool false] 60 (0, 0))) :
    Calls Try.prog 46 #[.pointer (some ⟨b, 0, none⟩)] w fun e w' => e = .returned (.int .i64 10) ∧ Upd (fun k => k = b) w w' ∧ w'.heap[b]? = some (.cells #[.int .i64 n, dv, wv, .int .i64 0, .bool true] 60 (0, 0)) := by
  obtain ⟨c0, c1, c2, c3, c4⟩ := five hb
  have Hu := Lib.hid (uses_die b _ dv wv _ w hb)
  clear hb
  go_enter Try.func46, Try.ntmps46
  go_wp2_with fail
  refine Hu.out.mono ?_
  rintro e w' ⟨rfl, hu⟩
  have HU := Lib.hid hu
  clear hu
  dsimp only
  go_wp2_with fail
  go_ret
  exact ⟨rfl, HU.out⟩

set_option maxHeartbeats 4000000 in
theorem rflush_core (b : Nat) (n f : Int) (dv wv : Value) (dn W : List (Nat × Bytes)) (w : World) (hb : w.heap[b]? = some (.cells #[.int .i64 n, dv, wv, .int .i64 f, .bool false] 60 (0, 0)))
    (hf : f ≠ 0) (hlo : -9223372036854775808 ≤ f) (hhi : f ≤ 9223372036854775807) (hdv : w.ownsRow 0 98 2 dv dn.length (putsV dn)) (hdb : ∀ k, dv.ownBlock = some k → k ≠ b)
    (hwv : w.ownsRow 0 98 2 wv W.length (putsV W)) (hwb : ∀ k, wv.ownBlock = some k → k ≠ b) (hM : dn.length + W.length < 1000000000) :
    Calls Try.prog 46 #[.pointer (some ⟨b, 0, none⟩)] w fun e w' => e = .returned (.int .i64 0) ∧ ∃ dv', w'.heap[b]? = some (.cells #[.int .i64 n, dv', .slice none 0 0, .int .i64 (burnt f), .bool false] 60 (0, 0)) ∧
      w'.ownsRow 0 98 2 dv' (dn.length + W.length) (putsV (dn ++ W)) ∧ Upd (fun k => k = b ∨ dv.ownBlock = some k) w w' ∧ (∀ k, dv'.ownBlock = some k → dv.ownBlock = some k ∨ w.heap.size ≤ k) := by
  obtain ⟨c0, c1, c2, c3, c4⟩ := five hb
  have Hu := Lib.hid (uses_ok b _ dv wv _ f hf hlo hhi w hb)
  have hsz : b < w.heap.size := lt_of_block hb
  have Hw := Lib.hid (And.intro hdv (And.intro hdb (And.intro hwv hwb)))
  have HM := Lib.hid (And.intro hM hsz)
  clear hb hwv hwb hdv hdb hM hsz
  go_enter Try.func46, Try.ntmps46
  go_wp2_with fail
  refine Hu.out.mono ?_
  rintro e w1 ⟨rfl, hu1, hb1⟩
  dsimp only
  obtain ⟨c0, c1, c2, c3, c4⟩ := five hb1
  have hd : Upd (fun _ => False) w1 w1.drew := (Upd.refl _ _).drew
  have HB1 := Lib.hid (And.intro hu1 hb1)
  clear hu1 hb1
  go_wp2_with fail
  have HS : w1.drew.cell? ⟨b, 1, none⟩ = some dv ∧ w1.drew.cell? ⟨b, 2, none⟩ = some wv := ⟨c1, c2⟩
  refine wp_region_planC (fun w' => w'.cell? ⟨b, 1, none⟩ = some dv ∧ w'.cell? ⟨b, 2, none⟩ = some wv) 12 [(0, true), (1, true), (2, true), (3, true), (4, true), (5, true), (6, true), (7, true), (8, true), (9, false), (10, true), (11, true), (12, false)] (by kernel_rfl) (by kernel_rfl) (fun d _ _ _ _ h => by cases d <;> exact h) HS ?_
  iterate 9 (apply planC_held rfl rfl rfl (by simp) HS; (intro w' hS K hK; go_simp; exact hK))
  have hdv1 : w1.drew.ownsRow 0 98 2 dv dn.length (putsV dn) := hd.row (HB1.out.1.row Hw.out.1 (fun k hk e => Hw.out.2.1 k hk e)) (fun _ _ h => h)
  have hwv1 : w1.drew.ownsRow 0 98 2 wv W.length (putsV W) := hd.row (HB1.out.1.row Hw.out.2.2.1 (fun k hk e => Hw.out.2.2.2 k hk e)) (fun _ _ h => h)
  have H1 := Lib.hid (And.intro hdv1 hwv1)
  clear hdv1 hwv1
  refine planC_op rfl rfl (fun K hK => ?_)
  refine wp_append_sees 0 98 2 24 _ dv dn.length (putsV dn) W.length (putsV W) Try.underlying58 infoP rfl (by decide) rfl H1.out.1 (sees_of_row H1.out.2) (putsV_one W) (by have := HM.out.1; unfold maxLen; omega) (by have := HM.out.1; omega) (Nat.zero_le _) ?_
  intro x' c' w4 hown hg hbk
  have hU4 : Upd (fun k => dv.ownBlock = some k) w1.drew w4 := (Upd.refl _ w1.drew).grown hg (fun k hk => .inl hk)
  have hnb : ¬ dv.ownBlock = some b := fun h => Hw.out.2.1 b h rfl
  have HS : w4.cell? ⟨b, 1, none⟩ = some dv ∧ w4.cell? ⟨b, 2, none⟩ = some wv := ⟨hU4.cell_some HS.1 hnb, hU4.cell_some HS.2 hnb⟩
  have hb4 : w4.heap[b]? = _ := hU4.heap (hd.heap HB1.out.2 (fun h => h)) hnb
  have hfz1 := unfrozen hb4 1
  refine hK _ _ (fun _ => HS) ?_
  clear hK
  have hUw4 : Upd (fun k => k = b ∨ dv.ownBlock = some k) w w4 := ((HB1.out.1.mono (fun _ _ h => .inl h)).then hd (fun _ h => h.elim)).then hU4 (fun k hk => .inl (.inr hk))
  have hw1s : w.heap.size ≤ w1.heap.size := HB1.out.1.size
  have hw1d : w1.drew.heap.size = w1.heap.size := rfl
  have hb13 := HM.out.2
  have hnb2 : ¬ (Value.slice x' (dn.length + W.length) c').ownBlock = some b := fun h => by
    rcases hbk with h' | h' <;> rw [h'] at h
    · exact hnb h
    · simp at h; omega
  have hbk2 : ∀ k, (Value.slice x' (dn.length + W.length) c').ownBlock = some k → dv.ownBlock = some k ∨ w.heap.size ≤ k := fun k hk => by
    rcases hbk with h' | h' <;> rw [h'] at hk
    · exact .inl hk
    · simp at hk; exact .inr (by omega)
  have hs5 : (w4.setCell ⟨b, 1, none⟩ (.slice x' (dn.length + W.length) c')).heap[b]? = some (.cells #[.int .i64 n, .slice x' (dn.length + W.length) c', wv, .int .i64 (burnt f), .bool false] 60 (0, 0)) := by rw [stored hb4]; simp
  have HE : Hid (((w4.setCell ⟨b, 1, none⟩ (.slice x' (dn.length + W.length) c')).setCell ⟨b, 2, none⟩ (.slice none 0 0)).heap[b]? = some (.cells #[.int .i64 n, .slice x' (dn.length + W.length) c', .slice none 0 0, .int .i64 (burnt f), .bool false] 60 (0, 0)) ∧
      ((w4.setCell ⟨b, 1, none⟩ (.slice x' (dn.length + W.length) c')).setCell ⟨b, 2, none⟩ (.slice none 0 0)).ownsRow 0 98 2 (.slice x' (dn.length + W.length) c') (dn.length + W.length) (putsV (dn ++ W)) ∧
      Upd (fun k => k = b ∨ dv.ownBlock = some k) w ((w4.setCell ⟨b, 1, none⟩ (.slice x' (dn.length + W.length) c')).setCell ⟨b, 2, none⟩ (.slice none 0 0)) ∧ (∀ k, (Value.slice x' (dn.length + W.length) c').ownBlock = some k → dv.ownBlock = some k ∨ w.heap.size ≤ k)) := by
    refine ⟨by rw [stored hs5]; simp, ?_, (hUw4.setCell _ (.inl (.inl rfl))).setCell _ (.inl (.inl rfl)), hbk2⟩
    rw [putsV_append]
    exact (((Upd.refl (fun k => k = b) w4).setCell (p := ⟨b, 1, none⟩) _ (.inl rfl)).setCell (p := ⟨b, 2, none⟩) _ (.inl rfl)).row hown (fun k hk e => hnb2 (by rw [hk, e]))
  obtain ⟨q0, q1, q2, q3, q4⟩ := five hs5
  have hfz2 := unfrozen hs5 2
  clear hU4 hUw4 hnb2 hown hg hbk hnb hbk2 q0 q1 q3 q4 hb4 hs5 c0 c1 c2 c3 c4
  try (simp only [Act.put, List.setIfInBounds_toArray, List.set_cons_zero, List.set_cons_succ])
  iterate 2 (apply planC_held rfl rfl rfl (by simp) HS; (intro w' hS K hK; go_simp; exact hK))
  refine planC_op rfl rfl (fun K hK => ?_)
  go_simp
  refine hK _ _ (fun h => absurd rfl h) ?_
  refine planC_nil ?_
  clear hK HS hfz1
  generalize hw5 : w4.setCell ⟨b, 1, none⟩ (.slice x' (dn.length + W.length) c') = w5 at *
  go_wp2_with fail
  go_ret
  exact ⟨rfl, _, HE.out⟩
end Go.Proofs.Ytlcbgcbocikkkaa

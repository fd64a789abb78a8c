/- Contracts of docketref02, third part: uses, Write. -/
import Derived.Test.YtlcbgcbocikkkaaRef2
namespace Go.Proofs.Ytlcbgcbocikkkaa
open Go.RowKit
set_option linter.unusedSimpArgs false
set_option linter.unusedVariables false
set_option maxRecDepth 100000

theorem infoP : (Try.prog.info? 98).map (fun i => (i.zero, i.size, i.bytes)) = some (some (.agg #[.int .i64 0, .string ⟨#[]⟩]), 2, 24) := by kernel_rfl

theorem uses_die (b : Nat) (n dv wv : Value) (d : Value) (w : World) (hb : w.heap[b]? = some (.cells #[n, dv, wv, .int .i64 0, d] 60 (0, 0))) :
    Calls Try.prog 43 #[.pointer (some ⟨b, 0, none⟩)] w fun e w' => e = .returned (.int .i64 10) ∧ Upd (fun k => k = b) w w' ∧ w'.heap[b]? = some (.cells #[n, dv, wv, .int .i64 0, .bool true] 60 (0, 0)) := by
  obtain ⟨c0, c1, c2, c3, c4⟩ := five hb
  have u4 := unfrozen hb 4
  have HE : Hid (Upd (fun k => k = b) w (w.setCell ⟨b, 4, none⟩ (.bool true)) ∧ (w.setCell ⟨b, 4, none⟩ (.bool true)).heap[b]? = some (.cells #[n, dv, wv, .int .i64 0, .bool true] 60 (0, 0))) :=
    ⟨(Upd.refl _ _).setCell _ (.inl rfl), by rw [stored hb]; simp⟩
  clear hb
  go_enter Try.func43, Try.ntmps43
  go_wp2_with fail
  go_ret
  exact ⟨rfl, HE.out⟩
theorem uses_ok (b : Nat) (n dv wv : Value) (d : Value) (f : Int) (hf : f ≠ 0) (hlo : -9223372036854775808 ≤ f) (hhi : f ≤ 9223372036854775807) (w : World) (hb : w.heap[b]? = some (.cells #[n, dv, wv, .int .i64 f, d] 60 (0, 0))) :
    Calls Try.prog 43 #[.pointer (some ⟨b, 0, none⟩)] w fun e w' => e = .returned (.int .i64 0) ∧ Upd (fun k => k = b) w w' ∧ w'.heap[b]? = some (.cells #[n, dv, wv, .int .i64 (burnt f), d] 60 (0, 0)) := by
  obtain ⟨c0, c1, c2, c3, c4⟩ := five hb
  have u3 := unfrozen hb 3
  have hf0 : (f == 0) = false := by rw [beq_eq_false_iff_ne]; exact hf
  by_cases hp : 0 < f
  · have HE : Hid (Upd (fun k => k = b) w (w.setCell ⟨b, 3, none⟩ (.int .i64 (f - 1))) ∧ (w.setCell ⟨b, 3, none⟩ (.int .i64 (f - 1))).heap[b]? = some (.cells #[n, dv, wv, .int .i64 (burnt f), d] 60 (0, 0))) :=
      ⟨(Upd.refl _ _).setCell _ (.inl rfl), by rw [stored hb, burnt, if_pos hp]; simp⟩
    clear hb
    go_enter Try.func43, Try.ntmps43
    go_wp2_with fail
    go_ret
    exact ⟨rfl, HE.out⟩
  · have HE : Hid (w.heap[b]? = some (.cells #[n, dv, wv, .int .i64 (burnt f), d] 60 (0, 0))) := by
      show w.heap[b]? = _
      rw [hb, burnt, if_neg hp]
    clear hb
    go_enter Try.func43, Try.ntmps43
    go_wp2_with fail
    go_ret
    exact ⟨rfl, Upd.refl _ _, HE.out⟩

theorem write_early (b : Nat) (i : Int) (s : ByteArray) (n : Int) (dv wv f : Value) (dead : Bool) (w : World) (hb : w.heap[b]? = some (.cells #[.int .i64 n, dv, wv, f, .bool dead] 60 (0, 0)))
    (h : dead = true ∨ dead = false ∧ (i < 0 ∨ 0 ≤ i ∧ n ≤ i ∨ 0 ≤ i ∧ i < n ∧ 512 < (s.size : Int))) :
    Calls Try.prog 30 #[.pointer (some ⟨b, 0, none⟩), .int .i64 i, .string s] w fun e w' => e = .returned (.int .i64 (if dead then 10 else 1)) ∧ w = w' := by
  obtain ⟨c0, c1, c2, c3, c4⟩ := five hb
  clear hb
  rcases h with rfl | ⟨rfl, h | ⟨h1, h2⟩ | ⟨h1, h2, h3⟩⟩
  · go_enter Try.func30, Try.ntmps30
    go_wp2_with fail
    go_ret
    exact ⟨rfl, rfl⟩
  · go_enter Try.func30, Try.ntmps30
    go_wp2_with fail
    go_ret
    exact ⟨rfl, rfl⟩
  · go_enter Try.func30, Try.ntmps30
    go_wp2_with fail
    go_ret
    exact ⟨rfl, rfl⟩
  · go_enter Try.func30, Try.ntmps30
    go_wp2_with fail
    go_ret
    exact ⟨rfl, rfl⟩

theorem write_die_ref (b : Nat) (i : Int) (s : ByteArray) (n : Int) (dv wv : Value) (w : World) (hb : w.heap[b]? = some (.cells #[.int .i64 n, dv, wv, .int .i64 0, .bool false] 60 (0, 0)))
    (h1 : 0 ≤ i) (h2 : i < n) (h3 : (s.size : Int) ≤ 512) :
    Calls Try.prog 30 #[.pointer (some ⟨b, 0, none⟩), .int .i64 i, .string s] w fun e w' => e = .returned (.int .i64 10) ∧ Upd (fun k => k = b) w w' ∧ w'.heap[b]? = some (.cells #[.int .i64 n, dv, wv, .int .i64 0, .bool true] 60 (0, 0)) := by
  obtain ⟨c0, c1, c2, c3, c4⟩ := five hb
  have Hu := Lib.hid (uses_die b _ dv wv _ w hb)
  clear hb
  go_enter Try.func30, Try.ntmps30
  go_wp2_with fail
  refine Hu.out.mono ?_
  rintro e w' ⟨rfl, hu⟩
  have HU := Lib.hid hu
  clear hu
  dsimp only
  go_wp2_with fail
  go_ret
  exact ⟨rfl, HU.out⟩

set_option maxHeartbeats 4000000 in
theorem rwrite_core (b : Nat) (i : Nat) (s : ByteArray) (n f : Int) (dv wv : Value) (W : List (Nat × Bytes)) (w : World) (hb : w.heap[b]? = some (.cells #[.int .i64 n, dv, wv, .int .i64 f, .bool false] 60 (0, 0)))
    (hf : f ≠ 0) (hlo : -9223372036854775808 ≤ f) (hhi : f ≤ 9223372036854775807) (h2 : (i : Int) < n) (h3 : (s.size : Int) ≤ 512) (hwv : w.ownsRow 0 98 2 wv W.length (putsV W)) (hwb : ∀ k, wv.ownBlock = some k → k ≠ b) (hM : W.length < 1000000000) :
    Calls Try.prog 30 #[.pointer (some ⟨b, 0, none⟩), .int .i64 i, .string s] w fun e w' => e = .returned (.int .i64 0) ∧ ∃ wv', w'.heap[b]? = some (.cells #[.int .i64 n, dv, wv', .int .i64 (burnt f), .bool false] 60 (0, 0)) ∧
      w'.ownsRow 0 98 2 wv' (W.length + 1) (putsV (W ++ [(i, pad s.data.toList)])) ∧ Upd (fun k => k = b ∨ wv.ownBlock = some k) w w' ∧ (∀ k, wv'.ownBlock = some k → wv.ownBlock = some k ∨ w.heap.size ≤ k) := by
  obtain ⟨c0, c1, c2, c3, c4⟩ := five hb
  have Hu := Lib.hid (uses_ok b _ dv wv _ f hf hlo hhi w hb)
  have hsz : b < w.heap.size := lt_of_block hb
  have Hw := Lib.hid (And.intro hwv (And.intro hwb hsz))
  have HM := Lib.hid hM
  have hi0 : (0 : Int) ≤ (i : Int) := by omega
  have hs5 : s.size ≤ 512 := by omega
  have Hs5 := Lib.hid hs5
  clear hb hwv hwb hM hsz hs5
  go_enter Try.func30, Try.ntmps30
  go_wp2_with fail
  refine Hu.out.mono ?_
  rintro e w1 ⟨rfl, hu1, hb1⟩
  dsimp only
  obtain ⟨c0, c1, c2, c3, c4⟩ := five hb1
  have HB1 := Lib.hid (And.intro hu1 hb1)
  clear hu1 hb1
  go_wp2_with fail
  have HS : w1.drew.cell? ⟨b, 2, none⟩ = some wv := c2
  refine wp_region_planC (fun w' => w'.cell? ⟨b, 2, none⟩ = some wv) 13 [(0, true), (1, true), (2, true), (3, true), (4, true), (5, true), (6, true), (7, false), (8, true), (9, false), (10, false), (11, true), (12, true), (13, false)] (by kernel_rfl) (by kernel_rfl) (fun d _ _ _ _ h => by cases d <;> exact h) HS ?_
  iterate 7 (apply planC_held rfl rfl rfl (by simp) HS; (intro w' hS K hK; go_simp; exact hK))
  refine planC_op rfl rfl (fun K hK => ?_)
  go_simp
  refine (full_ok s _ Hs5.out).mono ?_
  rintro e w2 ⟨rfl, hu2⟩
  dsimp only
  have HU2 := Lib.hid ((Upd.refl (fun _ => False) w1).drew.trans hu2)
  have HS : w2.cell? ⟨b, 2, none⟩ = some wv := hu2.cell_some HS (fun h => h)
  refine hK _ _ (fun _ => HS) ?_
  clear hK hu2
  try (simp only [Act.put, List.setIfInBounds_toArray, List.set_cons_zero, List.set_cons_succ])
  obtain ⟨sp, hsp⟩ : ∃ sp, strV (pad s.data.toList) = sp := ⟨_, rfl⟩
  rw [hsp]
  have Hsp := Lib.hid hsp
  clear hsp
  (apply planC_held rfl rfl rfl (by simp) HS; (intro w' hS K hK; go_simp; exact hK))
  refine planC_op rfl rfl (fun K hK => ?_)
  refine wp_buildSlice_one 98 2 24 _ (.agg #[.int .i64 i, .string sp]) Try.underlying58 infoP (by decide) (by decide) rfl rfl ?_
  have ec : (Value.agg #[.int .i64 i, .string sp]).cells = #[.int .i64 i, .string sp] := rfl
  rw [ec]
  clear ec
  have hal : Upd (fun _ => False) w2 (w2.alloc (.cells #[.int .i64 i, .string sp] 98)) := (Upd.refl _ _).alloc _
  have hnew : Sees (w2.alloc (.cells #[.int .i64 i, .string sp] 98)) 2 (.slice (some ⟨w2.heap.size, 0, none⟩) 1 1) 1 [.int .i64 i, .string sp] := Sees.at rfl (by decide) (rangeAt_of_row (heap_alloc_new w2 (.cells ([.int .i64 i, .string sp] : List Value).toArray 98)) rfl)
  have HS : (w2.alloc (.cells #[.int .i64 i, .string sp] 98)).cell? ⟨b, 2, none⟩ = some wv := hal.cell_some HS (fun h => h)
  have hu13 := HU2.out.trans hal
  refine hK _ _ (fun _ => HS) ?_
  clear hK hal
  generalize hw3 : w2.alloc (.cells #[.int .i64 i, .string sp] 98) = w3 at *
  have hsz3 : w2.heap.size < w3.heap.size := by rw [← hw3]; simp
  have hown3 : w3.ownsRow 0 98 2 wv W.length (putsV W) := hu13.row (HB1.out.1.row Hw.out.1 (fun k hk e => Hw.out.2.1 k hk e)) (fun _ _ h => h)
  have hb3 : w3.heap[b]? = _ := hu13.heap HB1.out.2 (fun h => h)
  have hsz13 := hu13.size
  have H3 := Lib.hid (And.intro hown3 (And.intro hb3 (And.intro hu13 hnew)))
  clear hown3 hb3 hu13 hnew hw3
  try (simp only [Act.put, List.setIfInBounds_toArray, List.set_cons_zero, List.set_cons_succ])
  refine planC_op rfl rfl (fun K hK => ?_)
  refine wp_append_sees 0 98 2 24 _ wv W.length (putsV W) 1 [.int .i64 i, .string sp] Try.underlying58 infoP rfl (by decide) rfl H3.out.1 H3.out.2.2.2 (fun u hu => ?_) (by have := HM.out; unfold maxLen; omega) (by have := HM.out; omega) (Nat.zero_le _) ?_
  · simp at hu; rcases hu with rfl | rfl <;> rfl
  intro x' c' w4 hown hg hbk
  have hU4 : Upd (fun k => wv.ownBlock = some k) w3 w4 := (Upd.refl _ w3).grown hg (fun k hk => .inl hk)
  have hnb : ¬ wv.ownBlock = some b := fun h => Hw.out.2.1 b h rfl
  have HS : w4.cell? ⟨b, 2, none⟩ = some wv := hU4.cell_some HS hnb
  have hb4 := hU4.heap H3.out.2.1 hnb
  have hfz := unfrozen hb4 2
  refine hK _ _ (fun _ => HS) ?_
  clear hK
  have hput : putsV (W ++ [(i, pad s.data.toList)]) = putsV W ++ [.int .i64 i, .string sp] := by rw [putsV, putsV, List.flatMap_append, ← Hsp.out]; rfl
  have hU5 : Upd (fun k => k = b ∨ wv.ownBlock = some k) w (w4.setCell ⟨b, 2, none⟩ (.slice x' (W.length + 1) c')) := by
    have h1 : Upd (fun k => k = b ∨ wv.ownBlock = some k) w w3 := (HB1.out.1.mono (fun _ _ h => .inl h)).then H3.out.2.2.1 (fun _ h => h.elim)
    exact (h1.then hU4 (fun k hk => .inl (.inr hk))).setCell _ (.inl (.inl rfl))
  have hnb2 : ¬ (Value.slice x' (W.length + 1) c').ownBlock = some b := fun h => by
    have hb13 : b < w3.heap.size := lt_of_block H3.out.2.1
    rcases hbk with h' | h' <;> rw [h'] at h
    · exact hnb h
    · simp at h; omega
  have HE : Hid (∃ wv', (w4.setCell ⟨b, 2, none⟩ (.slice x' (W.length + 1) c')).heap[b]? = some (.cells #[.int .i64 n, dv, wv', .int .i64 (burnt f), .bool false] 60 (0, 0)) ∧
      (w4.setCell ⟨b, 2, none⟩ (.slice x' (W.length + 1) c')).ownsRow 0 98 2 wv' (W.length + 1) (putsV (W ++ [(i, pad s.data.toList)])) ∧ Upd (fun k => k = b ∨ wv.ownBlock = some k) w (w4.setCell ⟨b, 2, none⟩ (.slice x' (W.length + 1) c')) ∧ (∀ k, wv'.ownBlock = some k → wv.ownBlock = some k ∨ w.heap.size ≤ k)) := by
    refine ⟨.slice x' (W.length + 1) c', by rw [stored hb4]; simp, ?_, hU5, fun k hk => ?_⟩
    · rw [hput]
      exact ((Upd.refl (fun k => k = b) w4).setCell (p := ⟨b, 2, none⟩) _ (.inl rfl)).row hown (fun k hk e => hnb2 (by rw [hk, e]))
    · rcases hbk with h' | h' <;> rw [h'] at hk
      · exact .inl hk
      · have := HB1.out.1.size
        simp at hk
        exact .inr (by omega)
  clear hU4 hb4 hput hU5 hnb2 hown hg hbk hnb
  try (simp only [Act.put, List.setIfInBounds_toArray, List.set_cons_zero, List.set_cons_succ])
  iterate 2 (apply planC_held rfl rfl rfl (by simp) HS; (intro w' hS K hK; go_simp; exact hK))
  refine planC_op rfl rfl (fun K hK => ?_)
  go_simp
  refine hK _ _ (fun h => absurd rfl h) ?_
  refine planC_nil ?_
  clear hK HS hfz
  go_wp2_with fail
  go_ret
  exact ⟨rfl, HE.out⟩
end Go.Proofs.Ytlcbgcbocikkkaa

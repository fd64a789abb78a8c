/- Contracts of docketref02, seventh part: Crash. -/
import Derived.Test.YtlcbgcbocikkkaaRef6
namespace Go.Proofs.Ytlcbgcbocikkkaa
open Go.RowKit
set_option linter.unusedSimpArgs false
set_option linter.unusedVariables false
set_option maxRecDepth 100000

theorem sizeP : (Try.prog.info? 98).map (·.size) = some 2 := by kernel_rfl
/-- The answer's disk in the middle of a crash. -/
def RcR (w : World) (b : Nat) (n wv f d dv : Value) (dn : List (Nat × Bytes)) (wr : World) : Prop :=
  ∃ dv', wr.heap[b]? = some (.cells #[n, dv', wv, f, d] 60 (0, 0)) ∧ wr.ownsRow 0 98 2 dv' dn.length (putsV dn) ∧ Upd (fun k => k = b ∨ dv.ownBlock = some k) w wr ∧ (∀ k, dv'.ownBlock = some k → k ≠ b ∧ (dv.ownBlock = some k ∨ w.heap.size ≤ k))

set_option maxHeartbeats 4000000 in
theorem rcrash_core (b : Nat) (n f d dv : Value) (xa : Option Addr) (xc : Nat) (dn W : List (Nat × Bytes)) (ka : Option Addr) (kc : Nat) (keep : List Bool) (w : World) (hb : w.heap[b]? = some (.cells #[n, dv, .slice xa W.length xc, f, d] 60 (0, 0)))
    (hdv : w.ownsRow 0 98 2 dv dn.length (putsV dn)) (hdb : ∀ k, dv.ownBlock = some k → k ≠ b)
    (hwv : w.ownsRow 0 98 2 (.slice xa W.length xc) W.length (putsV W)) (hwb : ∀ x, xa = some x → x.block ≠ b ∧ dv.ownBlock ≠ some x.block) (hM : dn.length + W.length < 1000000000)
    (hke : Sees w 1 (.slice ka keep.length kc) keep.length (boolsV keep)) (hkb : ∀ x, ka = some x → 0 < keep.length → x.block ≠ b ∧ dv.ownBlock ≠ some x.block) :
    Calls Try.prog 47 #[.pointer (some ⟨b, 0, none⟩), .slice ka keep.length kc] w fun e w' => e = .returned (.tuple #[]) ∧ RcR w b n (.slice none 0 0) (.int .i64 (-1)) (.bool false) dv (dn ++ kept W keep) w' := by
  have hm2 : (W.length : Int) ≤ 1000000000 := by omega
  have hbz : b < w.heap.size := lt_of_block hb
  have Hw := Lib.hid (And.intro hwv hwb)
  have HM := Lib.hid (And.intro hM hbz)
  have Hke := Lib.hid (And.intro hke hkb)
  have hR0 : RcR w b n (.slice xa W.length xc) f d dv (dn ++ kept (W.take 0) keep) w := ⟨dv, hb, by simpa [kept] using hdv, Upd.refl _ _, fun k hk => ⟨hdb k hk, .inl hk⟩⟩
  clear hb hdv hdb hwv hwb hM hke hkb hbz
  go_enter Try.func47, Try.ntmps47
  go_wp2_with fail
  go_loopw [4] (fun v wr => ∃ k : Nat, k ≤ W.length ∧ v = .int .i64 k ∧ RcR w b n (.slice xa W.length xc) f d dv (dn ++ kept (W.take k) keep) wr) (fun v _ => W.length - (intOf v).toNat)
  case atStart => exact ⟨0, Nat.zero_le _, rfl, hR0⟩
  case round =>
    clear hR0
    obtain ⟨k, hk, rfl, dv', hb, hdv, hU, hnew⟩ := hrel
    obtain ⟨c0, c1, c2, c3, c4⟩ := five hb
    by_cases hlt : k < W.length
    · have hlt' : (k : Int) < (W.length : Int) := by omega
      obtain ⟨g, rfl⟩ : ∃ g, xa = some ⟨g, 0, none⟩ := by
        rcases Hw.out.1.2 with ⟨_, h0⟩ | ⟨g, _, _, h, _⟩
        · omega
        · cases h; exact ⟨g, rfl⟩
      have hgb := Hw.out.2 _ rfl
      obtain ⟨p, hWk⟩ : ∃ p, W[k] = p := ⟨_, rfl⟩
      have hdt := kept_take W keep k hlt
      rw [hWk] at hdt
      have hrg : wr.rangeAt g (k * 2) (putV p) := by
        refine hU.range ?_ (fun e => e.elim hgb.1 hgb.2)
        refine row_range Hw.out.1 ?_
        rw [← hWk]
        exact flat_piece putV 2 W k hlt (fun x _ => putV_length x)
      have hlen : (kept (W.take k) keep).length ≤ k := by
        have : ∀ (l : List (Nat × Bytes)) (q : List Bool), (kept l q).length ≤ l.length := by
          intro l
          induction l with
          | nil => intro q; simp [kept]
          | cons a r ih =>
            intro q
            cases q with
            | nil => simp [kept]
            | cons c s =>
              have := ih s
              cases c <;> simp [kept] <;> omega
        exact Nat.le_trans (this _ _) (by simp; omega)
      have hkeep : (k < keep.length ∧ ∃ kb ko, ka = some ⟨kb, ko, none⟩ ∧ wr.cell? ⟨kb, ko + k, none⟩ = some (.bool (keep.getD k false))) ∨ (¬ k < keep.length ∧ keep.getD k false = false) := by
        by_cases h : k < keep.length
        · refine .inl ⟨h, ?_⟩
          obtain ⟨_, _, xo, _, e, hce⟩ := Hke.out.1
          obtain ⟨kb, ko, rfl, hr⟩ := hce (by omega)
          cases e
          have hx := Hke.out.2 _ rfl (by omega)
          exact ⟨kb, ko, rfl, hU.cell_some (hr k (.bool (keep.getD k false)) (by simp [boolsV, List.getD, h])) (fun e => e.elim hx.1 hx.2)⟩
        · exact .inr ⟨h, by simp [List.getD, List.getElem?_eq_none (Nat.le_of_not_lt h)]⟩
      have HB := Lib.hid (And.intro hb (And.intro hdv (And.intro hU (And.intro hnew hlen))))
      have Hdt := Lib.hid hdt
      clear hWk hdt hb hdv hU hnew hlen
      have skip : keep.getD k false = false → Hid (RcR w b n (.slice (some ⟨g, 0, none⟩) W.length xc) f d dv (dn ++ kept (W.take (k + 1)) keep) wr) := fun h => by
        rw [h] at Hdt
        have e : kept (W.take (k + 1)) keep = kept (W.take k) keep := by rw [Hdt.out]; simp
        rw [e]
        exact ⟨dv', HB.out.1, HB.out.2.1, HB.out.2.2.1, HB.out.2.2.2.1⟩
      rcases hkeep with ⟨hkl, kb, ko, rfl, hkc⟩ | ⟨hkl, hk0⟩
      · have hkl' : (k : Int) < (keep.length : Int) := by omega
        have hkl0 : (0 : Int) ≤ (k : Int) := by omega
        by_cases hkt : keep.getD k false = true
        · rw [hkt] at hkc Hdt
          clear skip hkt
          go_wp2_with fail
          have hd : Upd (fun _ => False) wr wr.drew := (Upd.refl _ _).drew
          have HS : wr.drew.cell? ⟨b, 1, none⟩ = some dv' ∧ wr.drew.cell? ⟨b, 2, none⟩ = some (.slice (some ⟨g, 0, none⟩) W.length xc) ∧ wr.drew.rangeAt g (k * 2) (putV p) := ⟨c1, c2, hrg⟩
          refine wp_region_planC (fun w' => w'.cell? ⟨b, 1, none⟩ = some dv' ∧ w'.cell? ⟨b, 2, none⟩ = some (.slice (some ⟨g, 0, none⟩) W.length xc) ∧ w'.rangeAt g (k * 2) (putV p)) 16 [(0, true), (1, true), (2, true), (3, true), (4, true), (5, true), (6, true), (7, true), (8, true), (9, true), (10, true), (11, true), (12, false), (13, false), (14, true), (15, true), (16, false)] (by kernel_rfl) (by kernel_rfl) (fun d _ _ _ _ h => by cases d <;> exact h) HS ?_
          iterate 11 (apply planC_held rfl rfl rfl (by simp) HS; (intro w' hS K hK; go_simp; exact hK))
          apply planC_held rfl rfl rfl (by simp) HS
          · intro w' hS K hK
            exact gives_load_mid g (k * 2) rfl (putV p) _ hS.2.2 Try.underlying98 rfl sizeP hK
          simp only [Act.put, List.setIfInBounds_toArray, List.set_cons_zero, List.set_cons_succ]
          refine planC_op rfl rfl (fun K hK => ?_)
          refine wp_buildSlice_one 98 2 24 _ (.agg (putV p).toArray) Try.underlying58 infoP (by decide) (by decide) rfl rfl ?_
          have ec : (Value.agg (putV p).toArray).cells = (putV p).toArray := rfl
          rw [ec]
          clear ec
          have hal : Upd (fun _ => False) wr.drew (wr.drew.alloc (.cells (putV p).toArray 98)) := (Upd.refl _ _).alloc _
          have hnw : Sees (wr.drew.alloc (.cells (putV p).toArray 98)) 2 (.slice (some ⟨wr.drew.heap.size, 0, none⟩) 1 1) 1 (putV p) := Sees.at rfl (by decide) (rangeAt_of_row (heap_alloc_new _ _) rfl)
          have HS : (wr.drew.alloc (.cells (putV p).toArray 98)).cell? ⟨b, 1, none⟩ = some dv' ∧ (wr.drew.alloc (.cells (putV p).toArray 98)).cell? ⟨b, 2, none⟩ = some (.slice (some ⟨g, 0, none⟩) W.length xc) ∧ (wr.drew.alloc (.cells (putV p).toArray 98)).rangeAt g (k * 2) (putV p) :=
            ⟨hal.cell_some HS.1 (fun h => h), hal.cell_some HS.2.1 (fun h => h), hal.range HS.2.2 (fun h => h)⟩
          refine hK _ _ (fun _ => HS) ?_
          clear hK
          have hu3 := hd.trans hal
          have hsz3 := hal.size
          generalize hw3 : wr.drew.alloc (.cells (putV p).toArray 98) = w3 at *
          have H3 := Lib.hid (And.intro (hu3.row HB.out.2.1 (fun _ _ h => h)) (And.intro (hu3.heap HB.out.1 (fun h => h)) (And.intro hu3 hnw)))
          clear hw3 hu3 hnw hal hsz3 hd
          try (simp only [Act.put, List.setIfInBounds_toArray, List.set_cons_zero, List.set_cons_succ])
          refine planC_op rfl rfl (fun K hK => ?_)
          refine wp_append_sees 0 98 2 24 _ dv' (dn ++ kept (W.take k) keep).length (putsV (dn ++ kept (W.take k) keep)) 1 (putV p) Try.underlying58 infoP rfl (by decide) rfl H3.out.1 H3.out.2.2.2 (fun u hu => ?_) (by have := HM.out.1; have := HB.out.2.2.2.2; unfold maxLen; simp; omega) (by have := HM.out.1; have := HB.out.2.2.2.2; simp; omega) (Nat.zero_le _) ?_
          · simp [putV] at hu; rcases hu with rfl | rfl <;> rfl
          intro x' c' w4 hown hg hbk
          have hnb : ¬ dv'.ownBlock = some b := fun h => (HB.out.2.2.2.1 b h).1 rfl
          have hng : ¬ dv'.ownBlock = some g := fun h => by
            have hgl : g < w.heap.size := (World.ownsRow.lt Hw.out.1 g rfl).2
            rcases (HB.out.2.2.2.1 g h).2 with h' | h'
            · exact hgb.2 h'
            · omega
          have hU4 : Upd (fun k => dv'.ownBlock = some k) w3 w4 := (Upd.refl _ w3).grown hg (fun k hk => .inl hk)
          have HS : w4.cell? ⟨b, 1, none⟩ = some dv' ∧ w4.cell? ⟨b, 2, none⟩ = some (.slice (some ⟨g, 0, none⟩) W.length xc) ∧ w4.rangeAt g (k * 2) (putV p) := ⟨hU4.cell_some HS.1 hnb, hU4.cell_some HS.2.1 hnb, hU4.range HS.2.2 hng⟩
          have hb4 := hU4.heap H3.out.2.1 hnb
          have hfz := unfrozen hb4 1
          refine hK _ _ (fun _ => HS) ?_
          clear hK
          have hw3s : w.heap.size ≤ w3.heap.size := Nat.le_trans HB.out.2.2.1.size H3.out.2.2.1.size
          have hnb2 : ¬ (Value.slice x' ((dn ++ kept (W.take k) keep).length + 1) c').ownBlock = some b := fun h => by
            rcases hbk with h' | h' <;> rw [h'] at h
            · exact hnb h
            · have := HM.out.2; simp at h; omega
          have hput : putsV (dn ++ kept (W.take (k + 1)) keep) = putsV (dn ++ kept (W.take k) keep) ++ putV p := by rw [Hdt.out, ← List.append_assoc, putsV_append]; simp [putsV]
          have hlen2 : (dn ++ kept (W.take (k + 1)) keep).length = (dn ++ kept (W.take k) keep).length + 1 := by rw [Hdt.out]; simp; omega
          have HE : Hid (RcR w b n (.slice (some ⟨g, 0, none⟩) W.length xc) f d dv (dn ++ kept (W.take (k + 1)) keep) (w4.setCell ⟨b, 1, none⟩ (.slice x' ((dn ++ kept (W.take k) keep).length + 1) c'))) := by
            refine ⟨.slice x' ((dn ++ kept (W.take k) keep).length + 1) c', by rw [stored hb4]; simp, ?_, ?_, fun j hj => ?_⟩
            · rw [hput, hlen2]
              exact ((Upd.refl (fun k => k = b) w4).setCell (p := ⟨b, 1, none⟩) _ (.inl rfl)).row hown (fun k hk e => hnb2 (by rw [hk, e]))
            · have h1 : Upd (fun k => k = b ∨ dv.ownBlock = some k) w w3 := HB.out.2.2.1.then H3.out.2.2.1 (fun _ h => h.elim)
              refine (h1.then hU4 (fun j hj => ?_)).setCell _ (.inl (.inl rfl))
              rcases (HB.out.2.2.2.1 j hj).2 with h | h
              · exact .inl (.inr h)
              · exact .inr h
            · refine ⟨fun e => hnb2 (by rw [hj, e]), ?_⟩
              rcases hbk with h' | h' <;> rw [h'] at hj
              · exact (HB.out.2.2.2.1 j hj).2
              · simp at hj; exact .inr (by omega)
          clear hU4 hb4 hput hnb2 hown hg hbk hnb hng hlen2
          try (simp only [Act.put, List.setIfInBounds_toArray, List.set_cons_zero, List.set_cons_succ])
          iterate 2 (apply planC_held rfl rfl rfl (by simp) HS; (intro w' hS K hK; go_simp; exact hK))
          refine planC_op rfl rfl (fun K hK => ?_)
          go_simp
          refine hK _ _ (fun h => absurd rfl h) ?_
          refine planC_nil ?_
          clear hK HS hfz
          go_wp2_with fail
          exact ⟨⟨k + 1, by omega, by go_num, by simpa only [List.length_append] using HE.out⟩, by simp [intOf]; omega⟩
        · have hkf : keep.getD k false = false := by simpa using hkt
          have HE := skip hkf
          rw [hkf] at hkc
          clear skip hkt hkf
          go_wp2_with fail
          exact ⟨⟨k + 1, by omega, by go_num, HE.out⟩, by simp [intOf]; omega⟩
      · have hkl' : (keep.length : Int) ≤ (k : Int) := by omega
        have HE := skip hk0
        clear skip hk0
        go_wp2_with fail
        exact ⟨⟨k + 1, by omega, by go_num, HE.out⟩, by simp [intOf]; omega⟩
    · obtain rfl : k = W.length := by omega
      have u2 := unfrozen hb 2
      have u3 := unfrozen hb 3
      have u4 := unfrozen hb 4
      rw [List.take_length] at hdv
      have HE : Hid (RcR w b n (.slice none 0 0) (.int .i64 (-1)) (.bool false) dv (dn ++ kept W keep) (((wr.setCell ⟨b, 2, none⟩ (.slice none 0 0)).setCell ⟨b, 4, none⟩ (.bool false)).setCell ⟨b, 3, none⟩ (.int .i64 (-1)))) := by
        refine ⟨dv', by rw [stored (stored (stored hb 2 _) 4 _) 3 _]; simp, ?_, ((hU.setCell _ (.inl (.inl rfl))).setCell _ (.inl (.inl rfl))).setCell _ (.inl (.inl rfl)), hnew⟩
        exact ((((Upd.refl (fun k => k = b) wr).setCell (p := ⟨b, 2, none⟩) _ (.inl rfl)).setCell (p := ⟨b, 4, none⟩) _ (.inl rfl)).setCell (p := ⟨b, 3, none⟩) _ (.inl rfl)).row hdv (fun k hk e => (hnew k hk).1 e)
      clear hb hdv hU hnew
      go_wp2_with fail
      go_end0
      exact ⟨rfl, HE.out⟩

theorem ref_crash {w : World} {b : Nat} {D : DSt} {M : Nat} {F : Nat → Prop} (hD : RefAt w b D M F) (hM : M < 1000000000) (ka : Option Addr) (kc : Nat) (keep : List Bool) (hke : Sees w 1 (.slice ka keep.length kc) keep.length (boolsV keep)) (hkF : ∀ x, ka = some x → 0 < keep.length → ¬ F x.block) :
    Calls Try.prog 47 #[.pointer (some ⟨b, 0, none⟩), .slice ka keep.length kc] w fun e w' => e = .returned (.tuple #[]) ∧ ∃ F', RefAt w' b (D.crash keep) M F' ∧ Upd F w w' ∧ (∀ k, F' k → F k ∨ w.heap.size ≤ k) := by
  obtain ⟨hOk, hFb, hFlt, dn, dv, wv, hdn, hMM, hb, hdv, hwv, hFd, hFw, hdw⟩ := id hD
  obtain ⟨xa, xc, rfl⟩ := (sees_of_row hwv).shape
  refine (rcrash_core b _ _ _ dv xa xc dn D.waits ka kc keep w hb hdv (fun k hk => (hFd k hk).2) hwv (fun x hx => by subst hx; exact ⟨(hFw _ rfl).2, fun h => hdw _ h rfl⟩) (by omega) hke (fun x hx h0 => ⟨fun e => hkF x hx h0 (by rw [e]; exact hFb), fun e => hkF x hx h0 (hFd _ e).1⟩)).mono ?_
  rintro e w' ⟨rfl, dv', hb2, hdv2, hu, hn⟩
  have hlen := done_length (kept D.waits keep) D.secs
  have hkl : ∀ (l : List (Nat × Bytes)) (q : List Bool), (kept l q).length ≤ l.length := by
    intro l
    induction l with
    | nil => intro q; simp [kept]
    | cons a r ih =>
      intro q
      cases q with
      | nil => simp [kept]
      | cons c s =>
        have := ih s
        cases c <;> simp [kept] <;> omega
  refine ⟨rfl, fun k => F k ∨ dv'.ownBlock = some k, ⟨⟨by show 1 ≤ (done D.secs _).length; rw [hlen]; exact hOk.one, by show (done D.secs _).length ≤ 4096; rw [hlen]; exact hOk.most, done_ok hOk.secs (fun p hp => (hOk.waits p (kept_mem p hp)).2), (fun p hp => by cases hp), by show (-1 : Int) ≤ -1; omega, by show (-1 : Int) ≤ 9223372036854775807; omega⟩,
      .inl hFb, fun k hk => ?_, dn ++ kept D.waits keep, dv', .slice none 0 0, fun i hi => ?_, ?_, ?_, hdv2, ⟨by simp [putsV, DSt.crash], .inl ⟨rfl, rfl⟩⟩, fun k hk => ⟨.inr hk, (hn k hk).1⟩, (fun k hk => by cases hk), (fun k hk h => by cases h)⟩, hu.mono (fun k _ h => ?_), fun k hk => ?_⟩
  · rcases hk with hk | hk
    · exact Nat.lt_of_lt_of_le (hFlt k hk) hu.size
    · exact (World.ownsRow.lt hdv2 k hk).2
  · have hi2 : i < D.secs.length := by rw [← hlen]; exact hi
    rw [lastOf_append, ← hdn i hi2]
    exact done_last (kept D.waits keep) D.secs i hi2
  · show (dn ++ kept D.waits keep).length + 0 ≤ M
    have := hkl D.waits keep
    simp; omega
  · show w'.heap[b]? = some (.cells #[.int .i64 (done D.secs (kept D.waits keep)).length, dv', .slice none 0 0, .int .i64 (-1), .bool false] _ _)
    rw [hlen]; exact hb2
  · rcases h with rfl | h
    · exact hFb
    · exact (hFd k h).1
  · rcases hk with hk | hk
    · exact .inl hk
    · exact ((hn k hk).2).imp (fun h => (hFd k h).1) id

/-- The fuel, said from outside. -/
theorem RefAt.fuel_set {w : World} {b : Nat} {D : DSt} {M : Nat} {F : Nat → Prop} (hD : RefAt w b D M F) (n : Int) (hn : n ≤ 9223372036854775807) : RefAt (w.setCell ⟨b, 3, none⟩ (.int .i64 (max n (-1)))) b (D.setFuel n) M F ∧ Upd F w (w.setCell ⟨b, 3, none⟩ (.int .i64 (max n (-1)))) := by
  have hF := hD.2.1
  refine ⟨?_, (Upd.refl _ _).setCell _ (.inl hF)⟩
  refine hD.turn (max n (-1)) D.dead (by omega) (by omega) ((Upd.refl _ _).setCell _ (.inl rfl)) (fun dv wv h => ?_)
  rw [stored h]
  rfl
end Go.Proofs.Ytlcbgcbocikkkaa

/- DiskPlays, walked. -/
import Derived.Test.YtlcbgcbocikkkaaRef8
import Derived.Test.YtlcbgcbocikkkaaRegionD
namespace Go.Proofs.Ytlcbgcbocikkkaa
open Go.RowKit
set_option linter.unusedSimpArgs false
set_option linter.unusedVariables false
set_option maxRecDepth 100000

/-- Both disks, all blocks new since W0. -/
def PlaysR (W0 : World) (b rb : Nat) (D : DSt) (M : Nat) (w : World) : Prop :=
  ∃ F G, DiskAt w b D F ∧ RefAt w rb D M G ∧ (∀ k, F k → ¬ G k) ∧ Upd (fun _ => False) W0 w ∧ (∀ k, F k → W0.heap.size ≤ k) ∧ (∀ k, G k → W0.heap.size ≤ k)
theorem PlaysR.pair {W0 w w' : World} {b rb : Nat} {F G : Nat → Prop} {D' : DSt} {M' : Nat} (hU : Upd (fun _ => False) W0 w) (hF : ∀ k, F k → W0.heap.size ≤ k) (hG : ∀ k, G k → W0.heap.size ≤ k)
    (h : Pair w b rb F G D' M' w') : PlaysR W0 b rb D' M' w' := by
  obtain ⟨F', G', h1, h2, h3, h4, h5, h6⟩ := h
  have := hU.size
  refine ⟨F', G', h1, h2, h3, hU.then h4 (fun i hi => .inr (hi.elim (hF i) (hG i))), fun k hk => ?_, fun k hk => ?_⟩
  · exact (h5 k hk).elim (hF k) (fun h => by omega)
  · exact (h6 k hk).elim (hG k) (fun h => by omega)
theorem PlaysR.upd {W0 w w' : World} {b rb : Nat} {D : DSt} {M : Nat} (h : PlaysR W0 b rb D M w) (hu : Upd (fun _ => False) w w') : PlaysR W0 b rb D M w' := by
  obtain ⟨F, G, h1, h2, h3, h4, h5, h6⟩ := h
  exact ⟨F, G, h1.upd hu (fun _ _ h => h), h2.upd hu (fun _ _ h => h), h3, h4.trans hu, h5, h6⟩
theorem PlaysR.drew {W0 w : World} {b rb : Nat} {D : DSt} {M : Nat} (h : PlaysR W0 b rb D M w) : PlaysR W0 b rb D M w.drew := h.upd (Upd.refl _ _).drew
def playsD (D : DSt) (l : List OpR) : DSt := l.foldl stepD D
theorem playsD_snoc (D : DSt) (l : List OpR) (o : OpR) : playsD D (l ++ [o]) = stepD (playsD D l) o := by simp [playsD]
theorem playsD_waits (D : DSt) : ∀ l : List OpR, (playsD D l).waits.length ≤ D.waits.length + l.length := by
  intro l
  induction l generalizing D with
  | nil => simp [playsD]
  | cons o r ih =>
    have h1 := ih (stepD D o)
    have h2 := stepD_waits D o
    rw [playsD, List.foldl_cons]
    rw [playsD] at h1
    simp; omega
theorem new_waits (n : Int) : (DSt.new n).waits = [] := rfl

/-- The facts of an Op in a slice. -/
theorem op_at {xa : Option Addr} {xc : Nat} {l : List OpR} {w : World} (hl : Sees w 4 (.slice xa l.length xc) l.length (l.flatMap opV)) (k : Nat) (hk : k < l.length) :
    ∃ xb xo, xa = some ⟨xb, xo, none⟩ ∧ w.rangeAt xb (xo + k * 4) (opV l[k]) := by
  obtain ⟨_, _, x', c', e', hc⟩ := hl
  cases e'
  obtain ⟨xb, xo, rfl, hr⟩ := hc (by omega)
  refine ⟨xb, xo, rfl, rangeAt.sub hr (k * 4) ?_⟩
  rw [opV_length]
  exact flat_piece opV 4 l k hk (fun o _ => opV_length o)
theorem sizeOp : (Try.prog.info? 50).map (·.size) = some 4 := by kernel_rfl

set_option maxHeartbeats 4000000 in
theorem diskPlays_walk (n : Int) (xa : Option Addr) (xc : Nat) (l : List OpR) (hm : l.length ≤ 1048576) (w : World) (hl : Sees w 4 (.slice xa l.length xc) l.length (l.flatMap opV)) (ho : ∀ o ∈ l, o.Ok w) :
    Calls Try.prog 12 #[.int .i64 n, .slice xa l.length xc] w fun e w' => e = .returned (.bool true) ∧ Below w.heap.size w w' := by
  have hm2 : (l.length : Int) ≤ 1048576 := by omega
  have Hl := Lib.hid (And.intro hl (And.intro ho hm))
  clear hl ho hm
  go_enter Try.func12, Try.ntmps12
  go_wp2_with fail
  refine (fixed_ok w).mono ?_
  rintro e w0 ⟨rfl, hu0⟩
  dsimp only
  go_wp2_with fail
  refine (new_disk n w0).mono ?_
  rintro e w1 ⟨b, F, rfl, hD, hu1, hF⟩
  dsimp only
  go_wp2_with fail
  refine (ref_new n w1).mono ?_
  rintro e w2 ⟨rb, G, rfl, hR, hu2, hG⟩
  dsimp only
  have hFl := hD.lt
  have hPl : PlaysR w b rb (DSt.new n) 0 w2 := ⟨F, G, hD.upd hu2 (fun _ _ h => h), hR, fun k hk hg => by have := hFl k hk; have := hG k hg; omega, (hu0.trans hu1).trans hu2, fun k hk => by have := hF k hk; have := hu0.size; omega, fun k hk => by have := hG k hk; have := hu0.size; have := hu1.size; omega⟩
  have HPl := Lib.hid hPl
  have hD2 := hD.upd hu2 (fun _ _ h => h)
  obtain ⟨_, _, _, dn, dv, wv, _, _, hrb, _⟩ := id hR
  obtain ⟨c0, c1, c2, c3, c4⟩ := five hrb
  have HD2 := Lib.hid hD2
  clear hFl hPl hD hF hR hG hu0 hu1 hu2 hD2 hrb c1 c2 c3 c4
  go_wp2_with fail
  have HS : DiskAt w2.drew b (DSt.new n) F ∧ w2.drew.cell? ⟨rb, 0, none⟩ = some (.int .i64 (DSt.new n).secs.length) := ⟨HD2.out.upd ((Upd.refl (fun _ => False) _).drew) (fun _ _ h => h), c0⟩
  refine wp_region_planD (fun w' => DiskAt w' b (DSt.new n) F ∧ w'.cell? ⟨rb, 0, none⟩ = some (.int .i64 (DSt.new n).secs.length)) 11 [(0, true), (1, true), (2, true), (3, true), (4, true), (5, true), (6, true), (7, true), (8, true), (9, true), (10, true)] (by kernel_rfl) (by kernel_rfl) (fun d _ _ _ _ h => by cases d <;> exact h) HS ?_
  iterate 4 (first | (apply planD_held rfl rfl rfl (by simp) HS; (intro w' hS K hK; go_simp; exact hK)) | (apply planD_wanted rfl rfl rfl (by simp) HS; (intro w' hS K hK; go_simp; exact hK)))
  refine planD_call (.int .i64 (DSt.new n).secs.length) rfl rfl (fun w' hS => ⟨35, #[.pointer (some ⟨b, 0, none⟩)], by go_simp, size_disk hS.1⟩) ?_
  try (simp only [Act.put, List.setIfInBounds_toArray, List.set_cons_zero, List.set_cons_succ])
  iterate 6 (first | (apply planD_held rfl rfl rfl (by simp) HS; (intro w' hS K hK; go_simp; exact hK)) | (apply planD_wanted rfl rfl rfl (by simp) HS; (intro w' hS K hK; go_simp; exact hK)))
  refine planD_nil ?_
  go_wp2_with fail
  go_loopw [7] (fun v wr => ∃ k : Nat, k ≤ l.length ∧ v = .int .i64 k ∧ PlaysR w b rb (playsD (DSt.new n) (l.take k)) k wr) (fun v _ => l.length - (intOf v).toNat)
  case atStart => exact ⟨0, Nat.zero_le _, rfl, HPl.out.drew⟩
  case round =>
    clear HPl HD2 c0
    obtain ⟨k, hkl, rfl, hP⟩ := hrel
    by_cases hlt : k < l.length
    · have hlt2 : (k : Int) < (l.length : Int) := by omega
      obtain ⟨o, hoe⟩ : ∃ o, l[k] = o := ⟨_, rfl⟩
      obtain ⟨D, hDe⟩ : ∃ D, playsD (DSt.new n) (l.take k) = D := ⟨_, rfl⟩
      have hwl := playsD_waits (DSt.new n) (l.take k)
      have hnx : playsD (DSt.new n) (l.take (k + 1)) = stepD D o := by rw [List.take_succ_eq_append_getElem hlt, playsD_snoc, hDe, hoe]
      rw [hDe] at hP hwl
      have hok := Hl.out.2.1 o (hoe ▸ List.getElem_mem hlt)
      obtain ⟨xb, xo, rfl, hr⟩ := op_at Hl.out.1 k hlt
      rw [hoe] at hr
      obtain ⟨F1, G1, hD, hR, hdis, hU, hF, hG⟩ := hP
      have hxb : xb < w.heap.size := by
        have := rangeAt.cell hr 0 rfl
        exact World.block_lt_of_cell? _ _ this
      have hro : wr.drew.rangeAt xb (xo + k * 4) (opV o) := (hU.drew).range hr (fun h => h)
      have hokr : o.Ok wr.drew := ⟨hok.kind, hok.lo, hok.hi, hok.data, hok.keep.upd hU.drew (fun _ _ _ h => h), fun x hx h0 => Nat.lt_of_lt_of_le (hok.lt x hx h0) hU.size⟩
      have hst := step_ok (hD.upd (Upd.refl (fun _ => False) wr).drew (fun _ _ h => h)) (hR.upd (Upd.refl (fun _ => False) wr).drew (fun _ _ h => h)) hdis (by omega) (by rw [List.length_take] at hwl; rw [new_waits] at hwl; simp at hwl; omega) o hokr
        (fun x hx h0 => ⟨fun h => by have := hok.lt x hx h0; have := hF _ h; omega, fun h => by have := hok.lt x hx h0; have := hG _ h; omega⟩)
      have Hst := Lib.hid hst
      have HP := Lib.hid (And.intro hU (And.intro hF (And.intro hG hxb)))
      have Hnx := Lib.hid hnx
      clear hst hnx hwl hok hokr hoe hDe hD hR hdis hU hF hG hr hxb
      go_wp2_with fail
      have HS := hro
      refine wp_region_planD (fun w' => w'.rangeAt xb (xo + k * 4) (opV o)) 27 [(0, true), (1, true), (2, true), (3, true), (4, true), (5, true), (6, false), (7, true), (8, true), (9, true), (10, true), (11, true), (12, true), (13, true), (14, true), (15, true), (16, true), (17, true), (18, true), (19, true), (20, true), (21, true), (22, true), (23, true), (24, true), (25, true), (26, true)] (by kernel_rfl) (by kernel_rfl) (fun d _ _ _ _ h => by cases d <;> exact h) HS ?_
      iterate 5 (first | (apply planD_held rfl rfl rfl (by simp) HS; (intro w' hS K hK; go_simp; exact hK)) | (apply planD_wanted rfl rfl rfl (by simp) HS; (intro w' hS K hK; go_simp; exact hK)))
      apply planD_held rfl rfl rfl (by simp) HS
      · intro w' hS K hK
        exact gives_load_mid xb (xo + k * 4) rfl (opV o) _ hS Try.underlying50 rfl sizeOp hK
      try (simp only [Act.put, List.setIfInBounds_toArray, List.set_cons_zero, List.set_cons_succ])
      refine planD_op rfl rfl (fun K hK => ?_)
      go_simp
      refine Hst.out.mono ?_
      rintro e w3 ⟨rfl, hp⟩
      dsimp only
      have hP3 := PlaysR.pair HP.out.1.drew HP.out.2.1 HP.out.2.2.1 hp
      obtain ⟨F3, G3, hD3, hR3, hdis3, hU3, hF3, hG3⟩ := id hP3
      have hr3 : w3.rangeAt xb (xo + k * 4) (opV o) := by
        obtain ⟨_, _, _, _, _, hu, _, _⟩ := hp
        refine hu.range HS (fun h => ?_)
        have := HP.out.2.2.2
        rcases h with h | h
        · have := HP.out.2.1 _ h; omega
        · have := HP.out.2.2.1 _ h; omega
      obtain ⟨_, _, _, dn, dv, wv, _, _, hrb, _, hwv, _⟩ := id hR3
      obtain ⟨c0, c1, c2, c3, c4⟩ := five hrb
      obtain ⟨wa, wc, rfl⟩ := (sees_of_row hwv).shape
      have HS : w3.rangeAt xb (xo + k * 4) (opV o) ∧ DiskAt w3 b (stepD D o) F3 ∧ w3.cell? ⟨rb, 2, none⟩ = some (.slice wa (stepD D o).waits.length wc) ∧ w3.cell? ⟨rb, 4, none⟩ = some (.bool (stepD D o).dead) := ⟨hr3, hD3, c2, c4⟩
      have HP3 := Lib.hid hP3
      refine hK (fun u => u.rangeAt xb (xo + k * 4) (opV o) ∧ DiskAt u b (stepD D o) F3 ∧ u.cell? ⟨rb, 2, none⟩ = some (.slice wa (stepD D o).waits.length wc) ∧ u.cell? ⟨rb, 4, none⟩ = some (.bool (stepD D o).dead)) _ _ (fun _ h => h.1) (fun _ => HS) ?_
      clear hK hP3 hD3 hR3 hdis3 hU3 hF3 hG3 hr3 hrb hwv c0 c1 c2 c3 c4 hp
      try (simp only [Act.put, List.setIfInBounds_toArray, List.set_cons_zero, List.set_cons_succ])
      iterate 3 (first | (apply planD_held rfl rfl rfl (by simp) HS; (intro w' hS K hK; go_simp; exact hK)) | (apply planD_wanted rfl rfl rfl (by simp) HS; (intro w' hS K hK; go_simp; exact hK)))
      refine planD_call (.int .i64 (stepD D o).waits.length) rfl rfl (fun w' hS => ⟨21, #[.pointer (some ⟨b, 0, none⟩)], by go_simp, pending_disk hS.2.1⟩) ?_
      try (simp only [Act.put, List.setIfInBounds_toArray, List.set_cons_zero, List.set_cons_succ])
      iterate 6 (first | (apply planD_held rfl rfl rfl (by simp) HS; (intro w' hS K hK; go_simp; exact hK)) | (apply planD_wanted rfl rfl rfl (by simp) HS; (intro w' hS K hK; go_simp; exact hK)))
      iterate 3 (first | (apply planD_held rfl rfl rfl (by simp) HS; (intro w' hS K hK; go_simp; exact hK)) | (apply planD_wanted rfl rfl rfl (by simp) HS; (intro w' hS K hK; go_simp; exact hK)))
      refine planD_call (.bool (stepD D o).dead) rfl rfl (fun w' hS => ⟨22, #[.pointer (some ⟨b, 0, none⟩)], by go_simp, dead_disk hS.2.1⟩) ?_
      try (simp only [Act.put, List.setIfInBounds_toArray, List.set_cons_zero, List.set_cons_succ])
      iterate 6 (first | (apply planD_held rfl rfl rfl (by simp) HS; (intro w' hS K hK; go_simp; exact hK)) | (apply planD_wanted rfl rfl rfl (by simp) HS; (intro w' hS K hK; go_simp; exact hK)))
      refine planD_nil ?_
      have HF : Hid (PlaysR w b rb (playsD (DSt.new n) (l.take (k + 1))) (k + 1) w3) := by
        show PlaysR _ _ _ _ _ _
        rw [Hnx.out]
        exact HP3.out
      clear HS
      go_wp2_with fail
      exact ⟨⟨k + 1, by omega, by go_num, HF.out⟩, by simp [intOf]; omega⟩
    · obtain rfl : k = l.length := by omega
      have HB := Lib.hid (hP.choose_spec.choose_spec.2.2.2.1)
      clear hP
      go_wp2_with fail
      go_ret
      exact ⟨rfl, HB.out.below0⟩
end Go.Proofs.Ytlcbgcbocikkkaa

/- The walk of DiskFlushed. -/
import Derived.Test.YtlcbgcbocikkkaaLaw2c
namespace Go.Proofs.Ytlcbgcbocikkkaa
open Go.RowKit
set_option linter.unusedSimpArgs false
set_option maxRecDepth 100000

theorem DiskAt.F_sub {w : World} {b : Nat} {D : DSt} {F : Nat → Prop} (h : DiskAt w b D F) : F b := h.2.1

set_option maxHeartbeats 2000000 in
theorem diskFlushed_walk (xa : Option Addr) (xc : Nat) (l : List OpR) (ka : Option Addr) (kc : Nat) (keep : List Bool) (w : World) (hl : Sees w 4 (.slice xa l.length xc) l.length (l.flatMap opV)) (ho : ∀ o ∈ l, o.Ok w)
    (hk : Sees w 1 (.slice ka keep.length kc) keep.length (boolsV keep)) (hkb : ∀ x, ka = some x → 0 < keep.length → x.block < w.heap.size) :
    Calls Try.prog 9 #[.slice xa l.length xc, .slice ka keep.length kc] w fun e w' => e = .returned (.bool true) ∧ Below w.heap.size w w' := by
  have Hl := Lib.hid (And.intro hl ho)
  have Hk := Lib.hid hk
  clear hl ho hk
  go_enter Try.func9, Try.ntmps9
  go_wp2_with fail
  refine (fixed_ok w).mono ?_
  rintro e w0 ⟨rfl, hu0⟩
  dsimp only
  have Hl0 : Hid (Sees w0 4 (.slice xa l.length xc) l.length (l.flatMap opV) ∧ ∀ o ∈ l, o.Ok w0) := ⟨Hl.out.1.upd hu0 (fun _ _ _ h => h), fun o ho => by
    obtain ⟨a1, a2, a3, a4, a5, a6⟩ := Hl.out.2 o ho
    exact ⟨a1, a2, a3, a4, a5.upd hu0 (fun _ _ _ h => h), fun x hx h0 => Nat.lt_of_lt_of_le (a6 x hx h0) hu0.size⟩⟩
  go_wp2_with fail
  refine (written_ok xa xc l 200 (Nat.le_refl _) w0 Hl0.out.1 Hl0.out.2).mono ?_
  rintro e w1 ⟨b1, rfl, F1, hD1, hu1, hF1⟩
  dsimp only
  have Hl1 : Hid (Sees w1 4 (.slice xa l.length xc) l.length (l.flatMap opV) ∧ ∀ o ∈ l, o.Ok w1) := ⟨Hl0.out.1.upd hu1 (fun _ _ _ h => h), fun o ho => by
    obtain ⟨a1, a2, a3, a4, a5, a6⟩ := Hl0.out.2 o ho
    exact ⟨a1, a2, a3, a4, a5.upd hu1 (fun _ _ _ h => h), fun x hx h0 => Nat.lt_of_lt_of_le (a6 x hx h0) hu1.size⟩⟩
  go_wp2_with fail
  refine (written_ok xa xc l 200 (Nat.le_refl _) w1 Hl1.out.1 Hl1.out.2).mono ?_
  rintro e w2 ⟨b2, rfl, F2, hD2, hu2, hF2⟩
  dsimp only
  have hFF : ∀ k, F1 k → ¬ F2 k := fun k h1 h2 => by have := hD1.lt k h1; have := hF2 k h2; omega
  have hFF' : ∀ k, F2 k → ¬ F1 k := fun k h2 h1 => hFF k h1 h2
  have hD1 := hD1.upd hu2 (fun _ _ h => h)
  have hU := (hu0.trans hu1).trans hu2
  have hF1 : ∀ k, F1 k → w.heap.size ≤ k := fun k h => Nat.le_trans hu0.size (hF1 k h)
  have hF2 : ∀ k, F2 k → w.heap.size ≤ k := fun k h => Nat.le_trans (hu0.trans hu1).size (hF2 k h)
  obtain ⟨f1, f2, f3, f4, _⟩ := writtenD_facts (l.take 200)
  generalize writtenD (l.take 200) = D at *
  have f4 : D.waits.length ≤ 200 := Nat.le_trans f4 (by simp; omega)
  have Hf := Lib.hid (And.intro f1 (And.intro f2 (And.intro f3 f4)))
  have H1 := Lib.hid hD1
  have H2 := Lib.hid hD2
  have HU := Lib.hid hU
  clear hu0 hu1 hu2 hD1 hD2 hU f1 f2 f3 f4
  go_wp2_with fail
  refine (flush_disk H1.out (by have := Hf.out.2.2.2; omega) (DSt.flush_eq Hf.out.1 (by rw [Hf.out.2.1]; decide))).mono ?_
  rintro e w3 ⟨rfl, hD1, u3⟩
  dsimp only
  have H1 := Lib.hid hD1
  have H2 := Lib.hid (H2.out.upd u3 hFF')
  have HU := Lib.hid (HU.out.then u3 (fun i hi => .inr (hF1 i hi)))
  clear hD1 u3
  go_wp2_with fail
  refine (flush_disk H2.out (by have := Hf.out.2.2.2; omega) (DSt.flush_eq Hf.out.1 (by rw [Hf.out.2.1]; decide))).mono ?_
  rintro e w4 ⟨rfl, hD2, u4⟩
  dsimp only
  have H1 := Lib.hid (H1.out.upd u4 hFF)
  have H2 := Lib.hid hD2
  have HU := Lib.hid (HU.out.then u4 (fun i hi => .inr (hF2 i hi)))
  clear hD2 u4
  go_wp2_with fail
  refine (flush_disk H2.out (by show 0 < _; decide) (DSt.flush_eq Hf.out.1 (by show burnt D.fuel ≠ 0; rw [Hf.out.2.1]; decide))).mono ?_
  rintro e w5 ⟨rfl, hD2, u5⟩
  dsimp only
  have H1 := Lib.hid (H1.out.upd u5 hFF)
  have H2 := Lib.hid hD2
  have HU := Lib.hid (HU.out.then u5 (fun i hi => .inr (hF2 i hi)))
  clear hD2 u5
  go_wp2_with fail
  refine (crash_disk H1.out (by show 0 < _; decide) ka kc keep (Hk.out.upd HU.out (fun _ _ _ h => h)) (fun x hx h0 h => by have := hkb x hx h0; have := hF1 _ h; omega)).mono ?_
  rintro e w6 ⟨rfl, hD1, u6⟩
  dsimp only
  have H1 := Lib.hid hD1
  have H2 := Lib.hid (H2.out.upd u6 hFF')
  have HU := Lib.hid (HU.out.then u6 (fun i hi => .inr (hF1 i hi)))
  clear hD1 u6
  go_wp2_with fail
  have hs4 : (done D.secs D.waits).length = 4 := by rw [done_length, Hf.out.2.2.1]; rfl
  have Hs := Lib.hid hs4
  clear hs4
  refine (full_true b1 b2 _ _ F1 F2 w6 H1.out H2.out rfl Hf.out.1 rfl (by show 0 < _; decide) (by show 0 < _; decide) (fun i hi => ?_)).mono ?_
  · have hi4 : i < 4 := by have h : i < (done D.secs D.waits).length := hi; rw [Hs.out] at h; exact h
    have e1 : ((DSt.crash { D with secs := done D.secs D.waits, waits := [], fuel := burnt D.fuel } keep)).secs.length = 4 := Hs.out
    refine ⟨?_, rfl⟩
    have e2 : DSt.read { D with secs := done (done D.secs D.waits) [], waits := [], fuel := burnt (burnt D.fuel) } (i : Int) = _ := DSt.read_eq Hf.out.1 (by omega) (by show (i : Int) < ((done (done D.secs D.waits) []).length : Nat); rw [done_length, Hs.out]; omega)
    rw [DSt.read_eq rfl (by omega) (by rw [e1]; omega)]
    refine Eq.trans ?_ e2.symm
    rfl
  rintro e w7 ⟨rfl, u7⟩
  dsimp only
  have H1 := Lib.hid (H1.out.upd u7 (fun _ _ h => h))
  have HU := Lib.hid (HU.out.trans u7)
  clear u7
  go_wp2_with fail
  refine (pending_disk H1.out).mono ?_
  rintro e w8 ⟨rfl, rfl⟩
  dsimp only
  have e0 : ((DSt.crash { D with secs := done D.secs D.waits, waits := [], fuel := burnt D.fuel } keep).waits.length : Int) = 0 := rfl
  rw [e0]
  go_wp2_with fail
  go_ret
  exact ⟨rfl, HU.out.below0⟩
end Go.Proofs.Ytlcbgcbocikkkaa

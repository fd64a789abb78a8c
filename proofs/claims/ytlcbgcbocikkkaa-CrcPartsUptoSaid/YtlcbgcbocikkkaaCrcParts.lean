/- The walk of CrcParts. -/
import Derived.Test.YtlcbgcbocikkkaaCrcLinear
namespace Go.Proofs.Ytlcbgcbocikkkaa
open Go.RowKit
set_option linter.unusedSimpArgs false
set_option linter.unusedVariables false
set_option maxRecDepth 100000

theorem parts_law (a b c : List UInt8) : updB 0 (a ++ b ++ c) = updB (updB (updB 0 a) b) c := by rw [updB_append, updB_append]

set_option maxHeartbeats 4000000 in
theorem crcParts_walk (xa : Option Addr) (ca : Nat) (la : List UInt8) (xb : Option Addr) (cb : Nat) (lb : List UInt8) (xc : Option Addr) (cc : Nat) (lc : List UInt8) (w : World) (ha : Sees w 1 (.slice xa la.length ca) la.length (bvs la))
    (hb : Sees w 1 (.slice xb lb.length cb) lb.length (bvs lb)) (hc : Sees w 1 (.slice xc lc.length cc) lc.length (bvs lc)) (hra : la.length ≤ 1048576) (hrb : lb.length ≤ 1048576) (hrc : lc.length ≤ 1048576) :
    Calls Try.prog 5 #[.slice xa la.length ca, .slice xb lb.length cb, .slice xc lc.length cc] w fun e w' => e = .returned (.bool true) ∧ Below w.heap.size w w' := by
  have Ha := Lib.hid ha
  have Hb := Lib.hid hb
  have Hc := Lib.hid hc
  have Hr := Lib.hid (And.intro hra (And.intro hrb hrc))
  clear ha hb hc hra hrb hrc
  go_enter Try.func5, Try.ntmps5
  go_wp2_with fail
  refine (crc_fixed w).mono ?_
  rintro e w0 ⟨rfl, hu0⟩
  dsimp only
  have HU0 := Lib.hid hu0
  clear hu0
  go_wp2_with ((with_reducible apply wpl_append_sees w0.heap.size 5 1 1 _ (.slice (some ⟨w0.heap.size, 0, none⟩) 0 0) 0 [] la.length (bvs la)))
  · exact Try.underlying22
  · exact infoU8
  · rfl
  · decide
  · rfl
  · exact World.ownsRow_made w0 #[] 0 (Nat.le_refl _) (Nat.zero_le _) (by simp)
  · exact Sees.upd ((HU0.out).alloc _) Ha.out (fun _ _ _ h => h)
  · exact bvs_one _
  · have := Hr.out; unfold maxLen; omega
  · have := Hr.out; omega
  · simp
  intro x1 c1 w1 hown hg hbk
  simp only [Act.put, List.setIfInBounds_toArray, List.set_cons_zero, List.set_cons_succ]
  simp only [Nat.zero_add, List.nil_append] at hown hbk ⊢
  have HU1 : Hid (Upd (fun _ => False) w w1) := ((HU0.out.alloc (.cells #[] 5)).grown hg (fun q hq => .inr (by
    simp [Value.ownBlock] at hq
    subst hq
    exact HU0.out.size)))
  have HB1 : Hid (∀ q, (Value.slice x1 la.length c1).ownBlock = some q → w0.heap.size ≤ q) := fun q hq => by
    rcases hbk with h | h <;> rw [h] at hq
    · simp [Value.ownBlock] at hq; omega
    · simp at hq; omega
  have HO1 := Lib.hid hown
  have HZ1 : Hid (w0.heap.size ≤ w1.heap.size) := Nat.le_trans (by simp) hg.size
  clear hown hg hbk
  go_wp2_with ((with_reducible apply wpl_append_sees w0.heap.size 5 1 1 _ (.slice x1 la.length c1) la.length (bvs la) lb.length (bvs lb)))
  · exact Try.underlying22
  · exact infoU8
  · rfl
  · decide
  · rfl
  · exact HO1.out
  · exact Sees.upd HU1.out Hb.out (fun _ _ _ h => h)
  · exact bvs_one _
  · have := Hr.out; unfold maxLen; omega
  · have := Hr.out; omega
  · exact HZ1.out
  intro x2 c2 w2 hown hg hbk
  simp only [Act.put, List.setIfInBounds_toArray, List.set_cons_zero, List.set_cons_succ]
  have HU2 : Hid (Upd (fun _ => False) w w2) := HU1.out.grown hg (fun q hq => .inr (Nat.le_trans HU0.out.size (HB1.out q hq)))
  have HB2 : Hid (∀ q, (Value.slice x2 (la.length + lb.length) c2).ownBlock = some q → w0.heap.size ≤ q) := fun q hq => by
    rcases hbk with h | h <;> rw [h] at hq
    · exact HB1.out q hq
    · simp at hq; have := HZ1.out; omega
  have HO2 := Lib.hid hown
  have HZ2 : Hid (w0.heap.size ≤ w2.heap.size) := Nat.le_trans HZ1.out hg.size
  clear hown hg hbk HO1 HB1
  go_wp2_with ((with_reducible apply wpl_append_sees w0.heap.size 5 1 1 _ (.slice x2 (la.length + lb.length) c2) (la.length + lb.length) (bvs la ++ bvs lb) lc.length (bvs lc)))
  · exact Try.underlying22
  · exact infoU8
  · rfl
  · decide
  · rfl
  · exact HO2.out
  · exact Sees.upd HU2.out Hc.out (fun _ _ _ h => h)
  · exact bvs_one _
  · have := Hr.out; unfold maxLen; omega
  · have := Hr.out; omega
  · exact HZ2.out
  intro x3 c3 w3 hown hg hbk
  simp only [Act.put, List.setIfInBounds_toArray, List.set_cons_zero, List.set_cons_succ]
  have HU3 : Hid (Upd (fun _ => False) w w3) := HU2.out.grown hg (fun q hq => .inr (Nat.le_trans HU0.out.size (HB2.out q hq)))
  obtain ⟨all, hall⟩ : ∃ all, la ++ lb ++ lc = all := ⟨_, rfl⟩
  have hal : la.length + lb.length + lc.length = all.length := by rw [← hall, List.length_append, List.length_append]
  have hO3 := sees_of_row hown
  rw [hal, ← bvs_append, ← bvs_append, hall] at hO3
  rw [hal]
  have HO3 := Lib.hid hO3
  have HA := Lib.hid (Ha.out.upd HU3.out (fun _ _ _ h => h))
  have HB := Lib.hid (Hb.out.upd HU3.out (fun _ _ _ h => h))
  have HC := Lib.hid (Hc.out.upd HU3.out (fun _ _ _ h => h))
  have hlaw := parts_law la lb lc
  rw [hall] at hlaw
  obtain ⟨p, hp⟩ : ∃ p : BitVec 32, updB 0 la = p := ⟨_, rfl⟩
  obtain ⟨q, hq⟩ : ∃ q : BitVec 32, updB p lb = q := ⟨_, rfl⟩
  obtain ⟨r, hr⟩ : ∃ r : BitVec 32, updB q lc = r := ⟨_, rfl⟩
  rw [hp, hq, hr] at hlaw
  have s1 : Hid (Calls Try.prog 26 #[.slice xa la.length ca] w3 fun e w' => e = .returned (.int .u32 p.toNat) ∧ w3 = w') := by have := sum_ok _ _ _ HA.out; rwa [hp] at this
  have s2 : Hid (Calls Try.prog 25 #[.int .u32 p.toNat, .slice xb lb.length cb] w3 fun e w' => e = .returned (.int .u32 q.toNat) ∧ w3 = w') := by have := update_ok p _ _ _ HB.out; rwa [hq] at this
  have s3 : Hid (Calls Try.prog 25 #[.int .u32 q.toNat, .slice xc lc.length cc] w3 fun e w' => e = .returned (.int .u32 r.toNat) ∧ w3 = w') := by have := update_ok q _ _ _ HC.out; rwa [hr] at this
  have s4 : Hid (Calls Try.prog 26 #[.slice x3 all.length c3] w3 fun e w' => e = .returned (.int .u32 r.toNat) ∧ w3 = w') := by have := sum_ok _ _ _ HO3.out; rwa [hlaw] at this
  have s5 : Hid (Calls Try.prog 25 #[.int .u32 p.toNat, .slice none 0 0] w3 fun e w' => e = .returned (.int .u32 p.toNat) ∧ w3 = w') := by have := update_ok p _ [] _ (Sees.zero w3 1 none 0); rwa [updB_nil] at this
  have s6 : Hid (Calls Try.prog 25 #[.int .u32 0, .slice xa la.length ca] w3 fun e w' => e = .returned (.int .u32 p.toNat) ∧ w3 = w') := by have := update_ok 0 _ _ _ HA.out; rwa [hp] at this
  clear hO3 hown hg hbk hall hal hlaw hp hq hr HO2 HB2 HO3
  go_wp2_with fail
  refine s1.out.mono ?_
  rintro e w' ⟨rfl, rfl⟩
  dsimp only
  go_wp2_with fail
  refine s2.out.mono ?_
  rintro e w' ⟨rfl, rfl⟩
  dsimp only
  go_wp2_with fail
  refine s3.out.mono ?_
  rintro e w' ⟨rfl, rfl⟩
  dsimp only
  go_wp2_with fail
  refine s4.out.mono ?_
  rintro e w' ⟨rfl, rfl⟩
  dsimp only
  go_wp2_with fail
  refine s1.out.mono ?_
  rintro e w' ⟨rfl, rfl⟩
  dsimp only
  go_wp2_with fail
  refine s5.out.mono ?_
  rintro e w' ⟨rfl, rfl⟩
  dsimp only
  go_wp2_with fail
  refine s1.out.mono ?_
  rintro e w' ⟨rfl, rfl⟩
  dsimp only
  go_wp2_with fail
  refine s6.out.mono ?_
  rintro e w' ⟨rfl, rfl⟩
  dsimp only
  go_wp2_with fail
  refine s1.out.mono ?_
  rintro e w' ⟨rfl, rfl⟩
  dsimp only
  go_wp2_with fail
  go_ret
  exact ⟨rfl, HU3.out.below0⟩
end Go.Proofs.Ytlcbgcbocikkkaa

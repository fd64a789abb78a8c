/- docketlaw03.WalNeeds: its walk. -/
import Derived.Test.YtocameknhglklaaWalRound
import Derived.Test.YtocameknhglklaaOpenS
namespace Go.Proofs.Ytocameknhglklaa
open Go.ChangeShapes Go.WideShapes Go.ChangeAt Go.RowKit Go.Deep
set_option linter.unusedSimpArgs false
set_option linter.unusedVariables false
set_option maxRecDepth 100000

theorem bytesOf_append (a b : Batch) : bytesOf (a ++ b) + 16 = bytesOf a + bytesOf b := by
  rw [bytesOf_eq, bytesOf_eq, bytesOf_eq]
  have : bodyB (a ++ b) = bodyB a ++ bodyB b := by simp [bodyB]
  rw [this, List.length_append]; omega
theorem strsV_one (b : Batch) : ∀ u ∈ strsV b, u.oneCell' = true := by
  intro u hu
  obtain ⟨r, _, rfl⟩ := List.mem_map.1 hu
  rfl
set_option maxHeartbeats 2000000 in
theorem walNeeds_walk (xa : Option Addr) (ca : Nat) (a : Batch) (xb : Option Addr) (cb : Nat) (b : Batch) (w : World) (ha : Sees w 1 (.slice xa a.length ca) a.length (strsV a)) (hb : Sees w 1 (.slice xb b.length cb) b.length (strsV b))
    (ha2 : a.length ≤ 1048576) (hb2 : b.length ≤ 1048576) (ha3 : bytesOf a ≤ 100000000) (hb3 : bytesOf b ≤ 100000000) :
    Calls Try.prog 3 #[.slice xa a.length ca, .slice xb b.length cb] w fun e w' => e = .returned (.bool true) ∧ Below w.heap.size w w' := by
  have hab := bytesOf_append a b
  have h16a : 16 ≤ bytesOf a := by rw [bytesOf_eq]; omega
  have h16b : 16 ≤ bytesOf b := by rw [bytesOf_eq]; omega
  obtain ⟨na, hna⟩ : ∃ na, needB a = na := ⟨_, rfl⟩
  obtain ⟨nb, hnb⟩ : ∃ nb, needB b = nb := ⟨_, rfl⟩
  obtain ⟨nc, hnc⟩ : ∃ nc, needB (a ++ b) = nc := ⟨_, rfl⟩
  have q1 : (1 : Int) ≤ (na : Int) := by unfold needB at hna; omega
  have q2 : (1 : Int) ≤ (nb : Int) := by unfold needB at hnb; omega
  have q3 : (nc : Int) ≤ (na : Int) + (nb : Int) := by unfold needB at hna hnb hnc; omega
  have q4 : na ≤ nc := by unfold needB at hna hnc; omega
  have q5 : nb ≤ nc := by unfold needB at hnb hnc; omega
  have b1 : (na : Int) ≤ 1000000 := by unfold needB at hna; omega
  have b2 : (nb : Int) ≤ 1000000 := by unfold needB at hnb; omega
  have H := Lib.hid (And.intro ha (And.intro hb (And.intro ha2 (And.intro hb2 (And.intro ha3 (And.intro hb3 (And.intro hab (And.intro hna (And.intro hnb hnc)))))))))
  have Hq := Lib.hid (And.intro q1 (And.intro q2 (And.intro q3 (And.intro q4 (And.intro q5 (And.intro b1 b2))))))
  clear ha hb ha3 hb3 hab h16a h16b hna hnb hnc q1 q2 q3 q4 q5 b1 b2
  go_enter Try.func3, Try.ntmps3
  go_wp2_with fail
  refine (wal_fixed _).mono ?_
  rintro e w1 ⟨rfl, hu1⟩
  dsimp only
  have n1 := need_ok xa ca a w1 (H.out.1.upd hu1 (fun _ _ _ h => h)) (by have := H.out.2.2.2.2.1; omega)
  have n2 := need_ok xb cb b w1 (H.out.2.1.upd hu1 (fun _ _ _ h => h)) (by have := H.out.2.2.2.2.2.1; omega)
  rw [H.out.2.2.2.2.2.2.2.1] at n1
  rw [H.out.2.2.2.2.2.2.2.2.1] at n2
  have Hn := Lib.hid (And.intro n1 (And.intro n2 hu1))
  clear n1 n2 hu1
  go_wp2_with fail
  refine Hn.out.1.mono ?_
  rintro e w2 ⟨rfl, rfl⟩
  dsimp only
  go_wp2_with fail
  refine Hn.out.2.1.mono ?_
  rintro e w2 ⟨rfl, rfl⟩
  dsimp only
  have HZ0 : Hid (w.heap.size ≤ w1.heap.size) := Hn.out.2.2.size
  have HU0 := Lib.hid Hn.out.2.2
  go_wp2_with ((with_reducible apply wpl_append_sees w1.heap.size 9 1 16 _ (.slice (some ⟨w1.heap.size, 0, none⟩) 0 0) 0 [] a.length (strsV a)))
  · exact Try.underlying22
  · exact infoS
  · rfl
  · decide
  · rfl
  · exact World.ownsRow_made w1 #[] 0 (Nat.le_refl _) (Nat.zero_le _) (by simp)
  · exact Sees.upd ((HU0.out).alloc _) H.out.1 (fun _ _ _ h => h)
  · exact strsV_one a
  · have := H.out.2.2.1; unfold maxLen; omega
  · have := H.out.2.2.1; omega
  · simp
  intro x1 c1 w2 hown hg hbk
  simp only [Act.put, List.setIfInBounds_toArray, List.set_cons_zero, List.set_cons_succ]
  simp only [Nat.zero_add, List.nil_append] at hown hbk ⊢
  have HU1 : Hid (Upd (fun _ => False) w w2) := ((HU0.out.alloc (.cells #[] 9)).grown hg (fun q hq => .inr (by
    simp [Value.ownBlock] at hq
    subst hq
    exact HU0.out.size)))
  have HB1 : Hid (∀ q, (Value.slice x1 a.length c1).ownBlock = some q → w1.heap.size ≤ q) := fun q hq => by
    rcases hbk with h | h <;> rw [h] at hq
    · simp [Value.ownBlock] at hq; omega
    · simp at hq; omega
  have HO1 := Lib.hid hown
  have HZ1 : Hid (w1.heap.size ≤ w2.heap.size) := Nat.le_trans (by simp) hg.size
  clear hown hg hbk
  go_wp2_with ((with_reducible apply wpl_append_sees w1.heap.size 9 1 16 _ (.slice x1 a.length c1) a.length (strsV a) b.length (strsV b)))
  · exact Try.underlying22
  · exact infoS
  · rfl
  · decide
  · rfl
  · exact HO1.out
  · exact Sees.upd HU1.out H.out.2.1 (fun _ _ _ h => h)
  · exact strsV_one b
  · have := H.out.2.2.1; have := H.out.2.2.2.1; unfold maxLen; omega
  · have := H.out.2.2.1; have := H.out.2.2.2.1; omega
  · exact HZ1.out
  intro x2 c2 w3 hown hg hbk
  simp only [Act.put, List.setIfInBounds_toArray, List.set_cons_zero, List.set_cons_succ]
  have HU2 : Hid (Upd (fun _ => False) w w3) := HU1.out.grown hg (fun q hq => .inr (Nat.le_trans HU0.out.size (HB1.out q hq)))
  have hs3 := sees_of_row hown
  rw [show strsV a ++ strsV b = strsV (a ++ b) from (List.map_append ..).symm, ← List.length_append] at hs3
  have n3 := need_ok x2 c2 (a ++ b) w3 hs3 (by have := H.out.2.2.2.2.1; have := H.out.2.2.2.2.2.1; have := H.out.2.2.2.2.2.2.1; omega)
  rw [H.out.2.2.2.2.2.2.2.2.2, List.length_append] at n3
  have Hn3 := Lib.hid n3
  clear hs3 n3 hown hg hbk HO1 HB1
  go_wp2_with fail
  refine Hn3.out.mono ?_
  rintro e w4 ⟨rfl, rfl⟩
  dsimp only
  obtain ⟨q1, q2, q3, q4, q5, b1, b2⟩ := Hq.out
  clear Hn3
  go_wp2_with fail
  go_ret
  exact ⟨rfl, HU2.out.below0⟩
end Go.Proofs.Ytocameknhglklaa

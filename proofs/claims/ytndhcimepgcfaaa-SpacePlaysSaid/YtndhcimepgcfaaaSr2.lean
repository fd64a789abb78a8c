/- docketref05: Make, Again. -/
import Derived.Test.YtndhcimepgcfaaaSr1
import Derived.Test.YtndhcimepgcfaaaRegionE
namespace Go.Proofs.Ytndhcimepgcfaaa
open Go Go.RowKit
set_option linter.unusedSimpArgs false
set_option linter.unusedVariables false
set_option maxRecDepth 100000
section
variable {P : Program} {ops : Array Oper} {Q : Exit → Act → World → Prop} {md : Region.Mode} {S : World → Prop} {z : Nat}
def pairOk (md : Region.Mode) (ops : Array Oper) (L : Array Bool) (i j : Nat) : Bool :=
  decide (Region.ready md ops L = [i, j]) && decide (Region.ready md ops (L.setIfInBounds i true) = [j]) && decide (Region.ready md ops (L.setIfInBounds j true) = [i]) && ((L.setIfInBounds i true).setIfInBounds j true == (L.setIfInBounds j true).setIfInBounds i true)
/-- Two operations that may come up in either order. -/
theorem two_ops (L : Array Bool) (i j n : Nat) (hok : pairOk md ops L i j = true) (I : Act → World → Prop) (hS : ∀ a w, I a w → S w) {a : Act} {w : World}
    (h1 : wpOp P ops Q i (fun a' w' => S w' ∧ wpOp P ops Q j I a' w') a w) (h2 : wpOp P ops Q j (fun a' w' => S w' ∧ wpOp P ops Q i I a' w') a w)
    (hend : ∀ a w, I a w → wpAnyZ P md ops Q S z n ((L.setIfInBounds i true).setIfInBounds j true) a w) : wpAnyZ P md ops Q S z (2 + n) L a w := by
  simp only [pairOk, Bool.and_eq_true, decide_eq_true_eq, beq_iff_eq] at hok
  obtain ⟨⟨⟨hr, hi⟩, hj⟩, he⟩ := hok
  have e : 2 + n = (n + 1) + 1 := by omega
  rw [e]
  refine ⟨fun h0 => (by rw [hr] at h0; cases h0), fun k hk => ?_⟩
  rw [hr] at hk
  simp only [List.mem_cons, List.not_mem_nil, or_false] at hk
  rcases hk with rfl | rfl
  · refine wpOp_mono (fun a' w' h' => ⟨fun _ => h'.1, ?_⟩) h1
    refine ⟨fun h0 => (by rw [hi] at h0; cases h0), fun k hk => ?_⟩
    rw [hi] at hk
    simp only [List.mem_cons, List.not_mem_nil, or_false] at hk
    subst hk
    exact wpOp_mono (fun a2 w2 h2' => ⟨fun _ => hS _ _ h2', hend _ _ h2'⟩) h'.2
  · refine wpOp_mono (fun a' w' h' => ⟨fun _ => h'.1, ?_⟩) h2
    refine ⟨fun h0 => (by rw [hj] at h0; cases h0), fun k hk => ?_⟩
    rw [hj] at hk
    simp only [List.mem_cons, List.not_mem_nil, or_false] at hk
    subst hk
    exact wpOp_mono (fun a2 w2 h2' => ⟨fun _ => hS _ _ h2', by rw [← he]; exact hend _ _ h2'⟩) h'.2
end
theorem mk_falses (N : Nat) (h1 : N ≤ 4096) (u : World) : (Instr.makeSlice 22 (.int .i64 (N : Int)) (.int .i64 (N : Int))).run Try.prog u =
    .ok (.slice (some ⟨u.heap.size, 0, none⟩) N N) (u.alloc (.cells (fnV N (fun _ => false)).toArray 4)) := by
  have h := mk_bools N h1 0 u
  have e : outV N 0 0 = fnV N (fun _ => false) := fnV_congr (fun c _ => by simp)
  rw [e] at h
  exact h
def NewM (w w' : World) (rb nb ob N nc oc : Nat) (f g : Nat → Bool) : Prop := RefM w' rb nb ob N nc oc f g ∧ Upd (fun _ => False) w w' ∧ (∀ q, ownM rb nb ob q → w.heap.size ≤ q)
set_option maxHeartbeats 4000000 in
theorem rmake_ok (w : World) (N : Nat) (h2 : 2 ≤ N) (hN : N ≤ 4096) : Calls Try.prog 16 #[.int .i64 N] w fun e w' => ∃ rb nb ob, e = .returned (.pointer (some ⟨rb, 0, none⟩)) ∧ NewM w w' rb nb ob N N N (fun c => decide (c < 2)) (fun c => decide (c < 2)) := by
  have hNI : (N : Int) ≤ 4096 := by omega
  have hNI2 : (2 : Int) ≤ (N : Int) := by omega
  have hmk := mk_falses N hN
  go_enter Try.func16, Try.ntmps16
  go_wp2_with fail
  have HS : Upd (fun _ => False) w w.drew := (Upd.refl _ _).drew
  refine wp_region_planT (fun w' => Upd (fun _ => False) w w') [0, 2] 5 (by kernel_rfl) (by kernel_rfl) (fun d _ _ _ _ h => by cases d <;> exact h) HS ?_
  iterate 2 (apply planT_held rfl rfl rfl (by simp) HS; (intro w' hS K hK; go_simp; exact hK))
  refine planT_nil ?_
  let I : Act → World → Prop := fun a w' => ∃ nb ob, Upd (fun _ => False) w w' ∧ w.heap.size ≤ nb ∧ w.heap.size ≤ ob ∧ nb ≠ ob ∧ CellsA w' nb 4 (fnV N (fun _ => false)) ∧ CellsA w' ob 4 (fnV N (fun _ => false)) ∧
    a = ⟨#[.int .i64 N, undef, .pointer none, undef, undef, .int .i64 N, .slice (some ⟨nb, 0, none⟩) N N, .int .i64 N, .slice (some ⟨ob, 0, none⟩) N N, undef, undef, undef, undef, undef, undef, undef, undef, undef, undef, undef, undef, undef, undef, undef, undef, undef, undef, undef], []⟩
  refine two_ops (S := fun w' => Upd (fun _ => False) w w') _ 1 3 3 (by kernel_rfl) I (fun a w' h => by obtain ⟨_, _, h, _⟩ := h; exact h) ?_ ?_ ?_
  · refine wpOp_one rfl rfl ?_
    go_simp
    refine ⟨HS.alloc _, wpOp_one rfl rfl ?_⟩
    try (simp only [Act.put, List.setIfInBounds_toArray, List.set_cons_zero, List.set_cons_succ])
    go_simp
    refine ⟨w.heap.size, w.heap.size + 1, (HS.alloc _).alloc _, Nat.le_refl _, by omega, by omega, ?_, ?_, ?_⟩
    · exact (CellsA.new w.drew 4 (fnV N (fun _ => false))).upd ((Upd.refl (fun _ => False) _).alloc _) (fun h => h)
    · have := (CellsA.new (w.alloc (.cells (fnV N (fun _ => false)).toArray 4)) 4 (fnV N (fun _ => false))).upd ((Upd.refl (fun _ => False) _).drew) (fun h => h)
      simpa using this
    · simp
  · refine wpOp_one rfl rfl ?_
    go_simp
    refine ⟨HS.alloc _, wpOp_one rfl rfl ?_⟩
    try (simp only [Act.put, List.setIfInBounds_toArray, List.set_cons_zero, List.set_cons_succ])
    go_simp
    refine ⟨w.heap.size + 1, w.heap.size, (HS.alloc _).alloc _, by omega, Nat.le_refl _, by omega, ?_, ?_, ?_⟩
    · have := (CellsA.new (w.alloc (.cells (fnV N (fun _ => false)).toArray 4)) 4 (fnV N (fun _ => false))).upd ((Upd.refl (fun _ => False) _).drew) (fun h => h)
      simpa using this
    · exact (CellsA.new w.drew 4 (fnV N (fun _ => false))).upd ((Upd.refl (fun _ => False) _).alloc _) (fun h => h)
    · simp
  · rintro a w1 ⟨nb, ob, hu, hn1, hn2, hne, hc1, hc2, rfl⟩
    refine chains_end (by kernel_rfl) (fun d _ _ _ _ h => by cases d <;> exact h) (Nat.le_refl _) [(4, true), (5, false), (6, true)] 3 rfl _ _ _ (by kernel_rfl) hu ?_
    (first | (apply planD_held rfl rfl rfl (by simp) hu; (intro w' hS K hK; go_simp; exact hK)) | (apply planD_wanted rfl rfl rfl (by simp) hu; (intro w' hS K hK; go_simp; exact hK)))
    refine planD_op rfl rfl (fun K hK => ?_)
    go_simp
    have hu1 : Upd (fun _ => False) w1 (w1.alloc (.cells #[.slice (some ⟨nb, 0, none⟩) N N, .slice (some ⟨ob, 0, none⟩) N N] 49)) := (Upd.refl _ _).alloc _
    have hS2 := hu.trans hu1
    have HN : Hid (NewM w (w1.alloc (.cells #[.slice (some ⟨nb, 0, none⟩) N N, .slice (some ⟨ob, 0, none⟩) N N] 49)) w1.heap.size nb ob N N N (fun c => decide (c < 0)) (fun c => decide (c < 0))) := by
      have l1 := hc1.lt
      have l2 := hc2.lt
      have hsz := hu.size
      have e : fnV N (fun c => decide (c < 0)) = fnV N (fun _ => false) := fnV_congr (fun c _ => by simp)
      refine ⟨⟨CellsA.new w1 _ [_, _], ⟨[], by rw [List.append_nil, e]; exact hc1.upd hu1 (fun h => h)⟩, ⟨[], by rw [List.append_nil, e]; exact hc2.upd hu1 (fun h => h)⟩, by omega, by omega, hne⟩, hS2, ?_⟩
      rintro q (rfl | rfl | rfl) <;> omega
    refine hK _ _ _ (fun _ h => h) (fun _ => hS2) ?_
    clear hK
    try (simp only [Act.put, List.setIfInBounds_toArray, List.set_cons_zero, List.set_cons_succ])
    (first | (apply planD_held rfl rfl rfl (by simp) hS2; (intro w' hS K hK; go_simp; exact hK)) | (apply planD_wanted rfl rfl rfl (by simp) hS2; (intro w' hS K hK; go_simp; exact hK)))
    refine planD_nil ?_
    clear hu hu1 hS2 hc1 hc2 hn1 hn2 hne HS hmk
    generalize w1.alloc (.cells #[.slice (some ⟨nb, 0, none⟩) N N, .slice (some ⟨ob, 0, none⟩) N N] 49) = w2 at *
    generalize w1.heap.size = rb at *
    go_wp2_with fail
    go_loopw [4] (fun i wr => ∃ k : Nat, k ≤ 2 ∧ i = .int .i64 k ∧ Hid (NewM w wr rb nb ob N N N (fun c => decide (c < k)) (fun c => decide (c < k)))) (fun i _ => 2 - (intOf i).toNat)
    case atStart => exact ⟨0, Nat.zero_le _, rfl, HN⟩
    case round =>
      clear HN
      obtain ⟨k, hk, rfl, HR⟩ := hrel
      by_cases hlt : k < 2
      · have hkI : (k : Int) < 2 := by omega
        have hkN : (k : Int) < (N : Int) := by omega
        have c0 := HR.out.1.cells.cell 0
        have c1 := HR.out.1.cells.cell 1
        simp only [List.getElem?_cons_zero, List.getElem?_cons_succ] at c0 c1
        have d0 := HR.out.1.nowc k (by omega)
        have f0 := HR.out.1.nowf k
        have HM1 := Lib.hid (HR.out.1.set k (by omega) true)
        have e1 := HM1.out.cells.cell 1
        simp only [List.getElem?_cons_zero, List.getElem?_cons_succ] at e1
        have e2 := HM1.out.oldc k (by omega)
        have f2 := HM1.out.oldf k
        have HM2 := Lib.hid (HM1.out.setOld k (by omega) true)
        have HRn : Hid (NewM w ((wr.setCell ⟨nb, k, none⟩ (.bool true)).setCell ⟨ob, k, none⟩ (.bool true)) rb nb ob N N N (fun c => decide (c < k + 1)) (fun c => decide (c < k + 1))) := by
          have ht : ∀ c, c < N → turnF (fun c => decide (c < k)) k true c = decide (c < k + 1) := fun c _ => by
            unfold turnF
            by_cases e : c = k
            · simp [e]
            · rw [if_neg e]
              have : c < k ↔ c < k + 1 := by omega
              simp [this]
          exact ⟨HM2.out.congr ht ht, (HR.out.2.1.setCell _ (.inr (HR.out.2.2 nb (.inr (.inl rfl))))).setCell _ (.inr (HR.out.2.2 ob (.inr (.inr rfl)))), HR.out.2.2⟩
        go_wp2_with fail
        exact ⟨⟨k + 1, by omega, by go_num, HRn⟩, by simp [intOf]; omega⟩
      · obtain rfl : k = 2 := by omega
        clear hlt
        go_wp2_with fail
        go_ret
        exact ⟨rb, nb, ob, rfl, HR.out⟩
end Go.Proofs.Ytndhcimepgcfaaa

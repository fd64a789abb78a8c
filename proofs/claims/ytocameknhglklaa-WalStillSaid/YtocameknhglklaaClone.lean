/- Contracts of slices.Clone at three instances. -/
import Derived.Test.YtocameknhglklaaDisk
import Derived.WalkSpells
namespace Go.Proofs.Ytocameknhglklaa
open Go.RowKit
set_option linter.unusedSimpArgs false

theorem infoB : (Try.prog.info? 5).map (fun i => (i.zero, i.size, i.bytes)) = some (some (.int .u8 0), 1, 1) := by kernel_rfl
theorem infoK : (Try.prog.info? 118).map (fun i => (i.zero, i.size, i.bytes)) = some (some (.agg (bvs zeros512).toArray), 512, 512) := by kernel_rfl


set_option maxRecDepth 100000 in
theorem cloneB_nil (w : World) : Calls Try.prog 56 #[.slice none 0 0] w fun e w' => e = .returned (.slice none 0 0) ∧ w = w' := by
  have hq : (binOp .eql 98 (.slice none 0 0) (.slice none 0 0)).run Try.prog w = .ok (.bool true) w := Lib.run_eql_slice_nil w _ _ none 0 0 0 0 Try.underlying98
  go_enter Try.func56, Try.ntmps56
  go_wp2_with fail
  go_ret
  exact ⟨rfl, rfl⟩
set_option maxRecDepth 100000 in
theorem cloneB_some (x : Addr) (m c : Nat) (news : List Value) (w : World) (hx : Sees w 1 (.slice (some x) m c) m news) (h1 : ∀ u ∈ news, u.oneCell' = true) (hm : m * 1 ≤ 140737488355328) :
    Calls Try.prog 56 #[.slice (some x) m c] w fun e w' => ∃ x' c', e = .returned (.slice (some x') m c') ∧ w'.ownsRow w.heap.size 5 1 (.slice (some x') m c') m news ∧ Upd (fun _ => False) w w' := by
  have hq : (binOp .eql 98 (.slice (some x) m c) (.slice none 0 0)).run Try.prog w = .ok (.bool false) w := Lib.run_eql_slice_nil w _ _ (some x) m c 0 0 Try.underlying98
  have Hm := Lib.hid hm
  clear hm
  go_enter Try.func56, Try.ntmps56
  go_wp2_with ((with_reducible apply wpl_append_sees w.heap.size 5 1 1 _ (.slice (some ⟨w.heap.size, 0, none⟩) 0 0) 0 [] m news))
  · exact Try.underlying98
  · exact infoB
  · rfl
  · decide
  · rfl
  · exact World.ownsRow_made w #[] 0 (Nat.le_refl _) (Nat.zero_le _) (by simp)
  · exact Sees.upd ((Upd.refl (fun _ => False) w).alloc _) hx (fun _ _ _ h => h)
  · exact h1
  · have := Hm.out; unfold maxLen; omega
  · have := Hm.out; omega
  · simp
  intro x' c' w' hown hg hb
  simp only [Act.put, List.setIfInBounds_toArray, List.set_cons_zero, List.set_cons_succ]
  simp only [Nat.zero_add, List.nil_append] at hown hb ⊢
  obtain ⟨y, rfl⟩ : ∃ y, x' = some y := by
    rcases hb with hb | hb <;> (cases x' with
      | none => simp [Value.ownBlock] at hb
      | some y => exact ⟨y, rfl⟩)
  go_wp2_with fail
  go_ret
  exact ⟨y, c', rfl, hown, ((Upd.refl (fun _ => False) w).alloc _).grown hg (fun k hk => .inr (by simp [Value.ownBlock] at hk; omega))⟩


end Go.Proofs.Ytocameknhglklaa

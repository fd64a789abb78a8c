/- docketlaw03.WalNone: its walk. -/
import Derived.Test.YtocameknhglklaaWalG
import Derived.Test.YtocameknhglklaaOpen3
namespace Go.Proofs.Ytocameknhglklaa
open Go.RowKit
set_option linter.unusedSimpArgs false
set_option linter.unusedVariables false
set_option maxRecDepth 100000

theorem room_nil (w : World) : Calls Try.prog 19 #[.pointer none] w fun e w' => e = .returned (.int .i64 0) ∧ w = w' := by
  go_enter Try.func19, Try.ntmps19
  go_wp2_with fail
  go_ret
  exact ⟨rfl, rfl⟩
theorem first_nil (w : World) : Calls Try.prog 20 #[.pointer none] w fun e w' => e = .returned (.int .i64 0) ∧ w = w' := by
  go_enter Try.func20, Try.ntmps20
  go_wp2_with fail
  go_ret
  exact ⟨rfl, rfl⟩
theorem last_nil (w : World) : Calls Try.prog 22 #[.pointer none] w fun e w' => e = .returned (.int .i64 0) ∧ w = w' := by
  go_enter Try.func22, Try.ntmps22
  go_wp2_with fail
  go_ret
  exact ⟨rfl, rfl⟩
theorem synced_nil (w : World) : Calls Try.prog 33 #[.pointer none] w fun e w' => e = .returned (.int .i64 0) ∧ w = w' := by
  go_enter Try.func33, Try.ntmps33
  go_wp2_with fail
  go_ret
  exact ⟨rfl, rfl⟩
set_option maxHeartbeats 1000000 in
theorem walNone_walk (o : WOp) (w : World) (ho : o.Ok w) : Calls Try.prog 8 #[.agg (wopV o).toArray] w fun e w' => e = .returned (.bool true) ∧ Below w.heap.size w w' := by
  have hu0 : Upd (fun _ => False) w (w.alloc (.cells (wopV o).toArray 55)) := (Upd.refl _ w).alloc _
  have hn := heap_alloc_new w (.cells (wopV o).toArray 55)
  obtain ⟨k, ba, bc, batch, n⟩ := o
  simp only [wopV] at hu0 hn ⊢
  obtain ⟨bl, hbl⟩ : ∃ bl, batch.length = bl := ⟨_, rfl⟩
  rw [hbl] at hu0 hn ⊢
  clear hbl
  go_enter Try.func8, Try.ntmps8
  go_wp2_with fail
  obtain ⟨ob, hob⟩ : ∃ ob, w.heap.size = ob := ⟨_, rfl⟩
  rw [hob] at hn ⊢
  generalize w.alloc (.cells [Value.int .u8 k, .slice ba bl bc, .int .i64 n].toArray 55) = w0 at *
  refine (wal_fixed _).mono ?_
  rintro e w1 ⟨rfl, hu1⟩
  dsimp only
  have hn1 := hu1.heap hn (fun h => h)
  have c1 : w1.cell? ⟨ob, 1, none⟩ = some (.slice ba bl bc) := by simp [World.cell?, hn1]
  have c2 : w1.cell? ⟨ob, 2, none⟩ = some (.int .i64 n) := by simp [World.cell?, hn1]
  have HU := Lib.hid (And.intro (hu0.trans hu1) hob)
  clear hu0 hu1 hn hn1 hob ho
  go_wp2_with fail
  refine (append_nil _ _).mono ?_
  rintro e w2 ⟨rfl, rfl⟩
  dsimp only
  go_wp2_with fail
  refine (sync_nil _).mono ?_
  rintro e w2 ⟨rfl, rfl⟩
  dsimp only
  go_wp2_with fail
  refine (trim_nil _ _).mono ?_
  rintro e w2 ⟨rfl, rfl⟩
  dsimp only
  go_wp2_with fail
  refine (room_nil _).mono ?_
  rintro e w2 ⟨rfl, rfl⟩
  dsimp only
  go_wp2_with fail
  refine (first_nil _).mono ?_
  rintro e w2 ⟨rfl, rfl⟩
  dsimp only
  go_wp2_with fail
  refine (last_nil _).mono ?_
  rintro e w2 ⟨rfl, rfl⟩
  dsimp only
  go_wp2_with fail
  refine (synced_nil _).mono ?_
  rintro e w2 ⟨rfl, rfl⟩
  dsimp only
  go_wp2_with fail
  go_ret
  exact ⟨rfl, HU.out.1.below0⟩
end Go.Proofs.Ytocameknhglklaa

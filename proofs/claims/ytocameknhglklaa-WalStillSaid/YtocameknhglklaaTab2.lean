/- sync.Once over the table: the parts. -/
import Derived.Test.YtocameknhglklaaTab1
namespace Go.Proofs.Ytocameknhglklaa
open Go.RowKit
set_option linter.unusedSimpArgs false
set_option maxRecDepth 100000

theorem race_disable (w : World) : (callFunc 70 #[]).run Try.prog w = .ok (.value (.tuple #[])) w := run_call_mark0 Try.func70 (by kernel_rfl) (by kernel_rfl) (by kernel_rfl) .disable (by kernel_rfl) w
theorem race_enable (w : World) : (callFunc 72 #[]).run Try.prog w = .ok (.value (.tuple #[])) w := run_call_mark0 Try.func72 (by kernel_rfl) (by kernel_rfl) (by kernel_rfl) .enable (by kernel_rfl) w
theorem race_acquire (a : Addr) (w : World) : (callFunc 73 #[.pointer (some a)]).run Try.prog w = .ok (.value (.tuple #[])) w := run_call_marked Try.func73 (by kernel_rfl) (by kernel_rfl) (by kernel_rfl) .acquire (by kernel_rfl) a w
theorem race_releaseMerge (a : Addr) (w : World) : (callFunc 75 #[.pointer (some a)]).run Try.prog w = .ok (.value (.tuple #[])) w := run_call_marked Try.func75 (by kernel_rfl) (by kernel_rfl) (by kernel_rfl) .releaseMerge (by kernel_rfl) a w

/-- '(*sync/atomic.Bool).Store(true)', entered as a deferred call. -/
theorem bool_store_deferred (a : Addr) (x : Value) (u : FrameMode) (w : World) (hc : w.cell? a = some x) (hz : w.frozen? a = false) :
    CallsD Try.prog 65 #[.pointer (some a), .bool true] u w fun e u' w' => u' = u ∧ (e = .returned (.tuple #[]) ∧ w' = w.drew.setCell a (.int .u32 1)) := by
  have hc' : w.drew.cell? a = some x := by go_simp
  have hz' : w.drew.frozen? a = false := by go_simp
  have hst := run_call_store (P := Try.prog) Try.func68 (by kernel_rfl) (by kernel_rfl) (by kernel_rfl) (by kernel_rfl) (k := .u32) (y := 1) hc' hz'
  go_enter_d Try.func65, Try.ntmps65
  go_wp2
  go_region_calls
  all_goals (go_end0; exact ⟨rfl, rfl⟩)

/-- '(*sync.Mutex).Unlock', entered as a deferred call, the lock held and nobody waiting. -/
theorem mutex_unlock_deferred (a : Addr) (u : FrameMode) (w : World) (hc : w.cell? a = some (.int .i32 1)) (hz : w.frozen? a = false) :
    CallsD Try.prog 64 #[.pointer (some a)] u w fun e u' w' => u' = u ∧ (e = .returned (.tuple #[]) ∧ w' = w.setCell a (.int .i32 0)) := by
  have hd := race_disable
  have he := race_enable
  have hr := race_releaseMerge
  have hadd := run_call_add (P := Try.prog) Try.func76 (by kernel_rfl) (by kernel_rfl) (by kernel_rfl) .i32 (by kernel_rfl) (y := -1) (s := 0) hc hz (by simp [go_sem]; rfl)
  have hcv := run_convert_to_unsafe (P := Try.prog) (src := 141) (dst := 145) Try.underlying141 Try.underlying145 (by kernel_rfl) hc
  go_enter_d Try.func64, Try.ntmps64
  go_wp2
  go_end0
  go_wp2
  go_end0
  exact ⟨rfl, rfl⟩

/-- '(*sync.Mutex).Lock', the lock free. -/
theorem mutex_lock_free (a : Addr) (w : World) (hc : w.cell? a = some (.int .i32 0)) (hz : w.frozen? a = false) :
    Calls Try.prog 63 #[.pointer (some a)] w fun e w' => e = .returned (.tuple #[]) ∧ w' = w.setCell a (.int .i32 1) := by
  have hd := race_disable
  have he := race_enable
  have ha := race_acquire
  have hcas := run_call_cas_hit (P := Try.prog) Try.func71 (by kernel_rfl) (by kernel_rfl) (by kernel_rfl) .i32 (by kernel_rfl) (y := 1) hc hz
  have hc' : (w.setCell a (.int .i32 1)).cell? a = some (.int .i32 1) := World.cell?_setCell_same w a _ hc
  have hcv := run_convert_to_unsafe (P := Try.prog) (src := 141) (dst := 145) Try.underlying141 Try.underlying145 (by kernel_rfl) hc'
  go_enter Try.func63, Try.ntmps63
  go_wp2
  first | go_end0 | (simp only [Exit.inBlock, Exit.then]; refine bodyPost_ret (results_none rfl _ _ _) rfl ?_) | refine bodyPost_ret (results_none rfl _ _ _) rfl ?_
  go_wp2
  go_end0
  exact ⟨rfl, rfl⟩

set_option maxHeartbeats 1600000 in
/-- doSlow, not yet done: the function it was handed is fill. -/
theorem slow_ok (b o : Nat) (pre post : List Value) (t : TypeId) (rows : List (BitVec 32)) (c : Int) (w : World) (hT : TabAt w b o pre post t 0 0 rows c) :
    Calls Try.prog 59 #[.pointer (some ⟨b, o, none⟩), .func (.func 54) #[.pointer (some ⟨b, o, none⟩)] #[]] w fun e w' => e = .returned (.tuple #[]) ∧ Upd (fun j => j = b) w w' ∧ TabAt w' b o pre post t 1 0 fullRows c := by
  have hT1 := hT.set1 1
  have hl := run_call_load (P := Try.prog) Try.func62 (by kernel_rfl) (by kernel_rfl) (by kernel_rfl) .u32 (by kernel_rfl) (w := w.setCell ⟨b, o + 1, none⟩ (.int .i32 1)) (a := ⟨b, o, none⟩) (x := 0) hT1.cell0
  have hnot : ∀ (x : Bool) (w : World), (Op.unary .not (.bool x)).run Try.prog w = .ok (.bool (!x)) w := fun _ _ => rfl
  have hc1 := hT.cell1
  have hz1 := unfrozen hT.heap (o + 1)
  have hU1 : Upd (fun j => j = b) w (w.setCell ⟨b, o + 1, none⟩ (.int .i32 1)) := (Upd.refl _ _).setCell _ (.inl rfl)
  have HT1 := Lib.hid (And.intro hU1 hT1)
  clear hT hT1 hU1
  go_enter_defers Try.func59, Try.ntmps59
  go_wp2_with (first | (go_at_call 63; refine (mutex_lock_free ⟨b, o + 1, none⟩ _ (by go_simp) (by go_simp)).mono ?_; rintro e w' ⟨rfl, rfl⟩) | (go_at_call 58; go_in))
  refine (fill_ok b o pre post t 0 1 rows c _ HT1.out.2).mono ?_
  rintro e w2 ⟨rfl, hU2, hT2⟩
  have HT2 := Lib.hid (And.intro (HT1.out.1.trans hU2) hT2)
  clear hU2 hT2
  dsimp only
  go_wp2
  refine leaves_cons (f := 65) (args := #[.pointer (some ⟨b, o, none⟩), .bool true]) (by simp) (by simp [go_sem]) ?_
  refine (bool_store_deferred ⟨b, o, none⟩ (.int .u32 0) .returning _ HT2.out.2.cell0 (unfrozen HT2.out.2.heap o)).mono ?_
  rintro e u' w3 ⟨rfl, rfl, rfl⟩
  have hT2 : TabAt w2.drew b o pre post t 0 1 fullRows c := HT2.out.2
  have HT3 := Lib.hid (And.intro (HT2.out.1.drew.setCell (p := ⟨b, o, none⟩) (.int .u32 1) (.inl rfl)) (hT2.set0 1))
  clear hT2
  refine leaves_cons (f := 64) (args := #[.pointer (some ⟨b, o + 1, none⟩)]) (by simp [settle]) (by simp [go_sem]) ?_
  refine (mutex_unlock_deferred ⟨b, o + 1, none⟩ _ _ HT3.out.2.cell1 (unfrozen HT3.out.2.heap (o + 1))).mono ?_
  rintro e u' w4 ⟨rfl, rfl, rfl⟩
  have HT4 := Lib.hid (And.intro (HT3.out.1.setCell (p := ⟨b, o + 1, none⟩) (.int .i32 0) (.inl rfl)) (HT3.out.2.set1 0))
  simp [Leaves, settle, results, Try.results59]
  exact HT4.out

/-- Do, not yet done. -/
theorem do_first (b o : Nat) (pre post : List Value) (t : TypeId) (rows : List (BitVec 32)) (c : Int) (w : World) (hT : TabAt w b o pre post t 0 0 rows c) :
    Calls Try.prog 53 #[.pointer (some ⟨b, o, none⟩), .func (.func 54) #[.pointer (some ⟨b, o, none⟩)] #[]] w fun e w' => e = .returned (.tuple #[]) ∧ Upd (fun j => j = b) w w' ∧ TabAt w' b o pre post t 1 0 fullRows c := by
  have hl := run_call_load (P := Try.prog) Try.func62 (by kernel_rfl) (by kernel_rfl) (by kernel_rfl) .u32 (by kernel_rfl) hT.cell0
  have hnot : ∀ (x : Bool) (w : World), (Op.unary .not (.bool x)).run Try.prog w = .ok (.bool (!x)) w := fun _ _ => rfl
  have Hs := Lib.hid (slow_ok b o pre post t rows c w hT)
  clear hT
  go_enter Try.func53, Try.ntmps53
  go_wp2_with ((go_at_call 58; go_in))
  refine Hs.out.mono ?_
  rintro e w2 ⟨rfl, hU, hT⟩
  have HT := Lib.hid (And.intro hU hT)
  clear hU hT
  dsimp only
  go_wp2_with fail
  go_end0
  exact ⟨rfl, HT.out⟩

/-- Do, done already. -/
theorem do_done (a : Addr) (fv : Value) (w : World) (h0 : w.cell? a = some (.int .u32 1)) :
    Calls Try.prog 53 #[.pointer (some a), fv] w fun e w' => e = .returned (.tuple #[]) ∧ w = w' := by
  have hl := run_call_load (P := Try.prog) Try.func62 (by kernel_rfl) (by kernel_rfl) (by kernel_rfl) .u32 (by kernel_rfl) h0
  have hnot : ∀ (x : Bool) (w : World), (Op.unary .not (.bool x)).run Try.prog w = .ok (.bool (!x)) w := fun _ _ => rfl
  go_enter Try.func53, Try.ntmps53
  go_wp2
  go_end0
  exact ⟨rfl, rfl⟩
end Go.Proofs.Ytocameknhglklaa

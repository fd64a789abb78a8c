/- Contracts of package disk. -/
import Derived.Test.YtocameknhglklaaRows
import Derived.WalkKit
import Derived.ProofKit
import Derived.Deep.QuietTactic
import Derived.BigQuiet
import Derived.Below
namespace Go.Proofs.Ytocameknhglklaa
open Go.RowKit

theorem check_nil (i : Int) (w : World) :
    Calls Try.prog 50 #[.pointer none, .int .i64 i] w fun e w' => e = .returned (.int .i64 2) ∧ w = w' := by
  go_enter Try.func50, Try.ntmps50
  go_wp2
  go_ret
  exact ⟨rfl, rfl⟩

theorem check_dead (b : Nat) (i : Int) (w : World) (h3 : w.cell? ⟨b, 3, none⟩ = some (.bool true)) :
    Calls Try.prog 50 #[.pointer (some ⟨b, 0, none⟩), .int .i64 i] w fun e w' => e = .returned (.int .i64 10) ∧ w = w' := by
  go_enter Try.func50, Try.ntmps50
  go_wp2
  go_ret
  exact ⟨rfl, rfl⟩

theorem check_neg (b : Nat) (i : Int) (w : World) (h3 : w.cell? ⟨b, 3, none⟩ = some (.bool false)) (hi : i < 0) :
    Calls Try.prog 50 #[.pointer (some ⟨b, 0, none⟩), .int .i64 i] w fun e w' => e = .returned (.int .i64 1) ∧ w = w' := by
  go_enter Try.func50, Try.ntmps50
  go_wp2
  go_ret
  exact ⟨rfl, rfl⟩

theorem check_big (b n c : Nat) (sa : Option Addr) (i : Int) (w : World) (h3 : w.cell? ⟨b, 3, none⟩ = some (.bool false)) (h0 : w.cell? ⟨b, 0, none⟩ = some (.slice sa n c)) (hi : 0 ≤ i) (hn : n ≤ i) :
    Calls Try.prog 50 #[.pointer (some ⟨b, 0, none⟩), .int .i64 i] w fun e w' => e = .returned (.int .i64 1) ∧ w = w' := by
  go_enter Try.func50, Try.ntmps50
  go_wp2
  go_ret
  exact ⟨rfl, rfl⟩

theorem check_ok (b n c : Nat) (sa : Option Addr) (i : Int) (w : World) (h3 : w.cell? ⟨b, 3, none⟩ = some (.bool false)) (h0 : w.cell? ⟨b, 0, none⟩ = some (.slice sa n c)) (hi : 0 ≤ i) (hn : i < n) :
    Calls Try.prog 50 #[.pointer (some ⟨b, 0, none⟩), .int .i64 i] w fun e w' => e = .returned (.int .i64 0) ∧ w = w' := by
  go_enter Try.func50, Try.ntmps50
  go_wp2
  go_ret
  exact ⟨rfl, rfl⟩
end Go.Proofs.Ytocameknhglklaa

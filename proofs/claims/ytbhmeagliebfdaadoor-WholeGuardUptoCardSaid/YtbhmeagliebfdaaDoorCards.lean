/-
  DERIVED. GIVEN WITH THE SEED: THE CARDS: each row of YtbhmeagliebfdaaDoorRows.lean that lists a variable, with what it lists TIED to the program's text (the seventh form; the later family's looks); each row that meets fmt, with fmt's text TOLD by the authors' own Lean function (tested against real Go, not proved from fmt's source: count such statements apart). THE CARD IS WHAT COUNTS. Prove the row's statement (the work); the ties are given (YtbhmeagliebfdaaDoorTie.lean); close each card by the builder's one call (the guide's Derived/Test/ToyasCard.lean, 'card_holds'). Laid BY PROGRAM, IN A SANDBOX (cutbox-door.mjs). By AI agents, Wed Nov 11 2026. No macro, syntax, notation, axiom, sorry.
-/
import Derived.Test.YtbhmeagliebfdaaDoorRows
import GoSem.ClaimSeven
namespace Go.Proofs.YtbhmeagliebfdaaDoor
namespace Rows

/-- THE TIED CARD OF 'dockettop.WholeGuard'. -/
def wholeGuardCard : Claim7 := { stood := { row := wholeGuardRow, standIns := [], harness := (true, "5c434386ac5abdb754f76512dfcd67824cf0ed14ca51df4dfff646da74519c21"), looks := false }, kinds := [], alts := [], laidByText := true, laidKinds := [.data, .pinned], laidTests := true, laidLooks := .later }
def WholeGuardCardSaid : Prop := Claim7.holds Tryd.pinned (.plain (OpenSpec.ofChange wholeGuardSpec)) wholeGuardCard

/-- THE SECOND FORM's CARD OF 'dockettop.WholeGuard'. -/
def wholeGuardUptoCard : Claim7 := { stood := { row := wholeGuardUptoRow, standIns := [], harness := (true, "5c434386ac5abdb754f76512dfcd67824cf0ed14ca51df4dfff646da74519c21"), looks := false }, kinds := [], alts := [], laidByText := true, laidKinds := [.data, .pinned], laidTests := true, laidLooks := .later }
def WholeGuardUptoCardSaid : Prop := Claim7.holds Tryd.pinned (.plain (OpenSpec.upto wholeGuardSpec)) wholeGuardUptoCard
end Rows
end Go.Proofs.YtbhmeagliebfdaaDoor

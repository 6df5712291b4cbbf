/-
  DERIVED. GIVEN WITH THE SEED: THE CARDS: each row of YtfafhfjmoijaeaaGreatDoorRows.lean that lists a variable, with what it lists TIED to the program's text (the seventh form; the later family's looks); each row that meets fmt, with fmt's text TOLD by the authors' own Lean function (tested against real Go, not proved from fmt's source: count such statements apart). THE CARD IS WHAT COUNTS. Prove the row's statement (the work); the ties are given (YtfafhfjmoijaeaaGreatDoorTie.lean); close each card by the builder's one call (the guide's Derived/Test/ToyasCard.lean, 'card_holds'). Laid BY PROGRAM, IN A SANDBOX (cutbox-door.mjs). By AI agents, Wed Nov 11 2026. No macro, syntax, notation, axiom, sorry.
-/
import Derived.Test.YtfafhfjmoijaeaaGreatDoorRows
import GoSem.ClaimSeven
namespace Go.Proofs.YtfafhfjmoijaeaaGreatDoor
namespace Rows

/-- THE TIED CARD OF 'towpathlaw11.DepsPlays'. -/
def depsPlaysCard : Claim7 := { stood := { row := depsPlaysRow, standIns := [], harness := (true, "e1cdc9cdcf42d2ba148d2a17801bd61436d8128bfacdaf8da62f8e78b6864001"), looks := false }, kinds := [], alts := [], laidByText := true, laidKinds := [.data, .data, .data], laidTests := true, laidLooks := .later }
def DepsPlaysCardSaid : Prop := Claim7.holds Tryz.pinned (.plain (OpenSpec.ofChange depsPlaysSpec)) depsPlaysCard

/-- THE SECOND FORM's CARD OF 'towpathlaw11.DepsPlays'. -/
def depsPlaysUptoCard : Claim7 := { stood := { row := depsPlaysUptoRow, standIns := [], harness := (true, "e1cdc9cdcf42d2ba148d2a17801bd61436d8128bfacdaf8da62f8e78b6864001"), looks := false }, kinds := [], alts := [], laidByText := true, laidKinds := [.data, .data, .data], laidTests := true, laidLooks := .later }
def DepsPlaysUptoCardSaid : Prop := Claim7.holds Tryz.pinned (.plain (OpenSpec.upto depsPlaysSpec)) depsPlaysUptoCard
end Rows
end Go.Proofs.YtfafhfjmoijaeaaGreatDoor

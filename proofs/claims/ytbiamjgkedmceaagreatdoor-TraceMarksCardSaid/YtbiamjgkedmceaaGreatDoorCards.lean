/-
  DERIVED. GIVEN WITH THE SEED: THE CARDS: each row of YtbiamjgkedmceaaGreatDoorRows.lean that lists a variable, with what it lists TIED to the program's text (the seventh form; the later family's looks); each row that meets fmt, with fmt's text TOLD by the authors' own Lean function (tested against real Go, not proved from fmt's source: count such statements apart). THE CARD IS WHAT COUNTS. Prove the row's statement (the work); the ties are given (YtbiamjgkedmceaaGreatDoorTie.lean); close each card by the builder's one call (the guide's Derived/Test/ToyasCard.lean, 'card_holds'). Laid BY PROGRAM, IN A SANDBOX (cutbox-door.mjs). By AI agents, Wed Nov 11 2026. No macro, syntax, notation, axiom, sorry.
-/
import Derived.Test.YtbiamjgkedmceaaGreatDoorRows
import GoSem.ClaimSeven
namespace Go.Proofs.YtbiamjgkedmceaaGreatDoor
namespace Rows

/-- THE TIED CARD OF 'towpathlaw21.TraceMarks'. -/
def traceMarksCard : Claim7 := { stood := { row := traceMarksRow, standIns := [], harness := (true, "ea882f727c81af8a8ba426bcb6784c22293852e5bdf61fc1f7573083b406e401"), looks := false }, kinds := [], alts := [], laidByText := true, laidKinds := [.data, .data, .data], laidTests := true, laidLooks := .later }
def TraceMarksCardSaid : Prop := Claim7.holds Tryz.pinned (.plain (OpenSpec.ofChange traceMarksSpec)) traceMarksCard

/-- THE SECOND FORM's CARD OF 'towpathlaw21.TraceMarks'. -/
def traceMarksUptoCard : Claim7 := { stood := { row := traceMarksUptoRow, standIns := [], harness := (true, "ea882f727c81af8a8ba426bcb6784c22293852e5bdf61fc1f7573083b406e401"), looks := false }, kinds := [], alts := [], laidByText := true, laidKinds := [.data, .data, .data], laidTests := true, laidLooks := .later }
def TraceMarksUptoCardSaid : Prop := Claim7.holds Tryz.pinned (.plain (OpenSpec.upto traceMarksSpec)) traceMarksUptoCard
end Rows
end Go.Proofs.YtbiamjgkedmceaaGreatDoor

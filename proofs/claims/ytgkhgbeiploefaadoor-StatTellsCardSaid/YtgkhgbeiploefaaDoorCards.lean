/-
  DERIVED. GIVEN WITH THE SEED: THE CARDS: each row of YtgkhgbeiploefaaDoorRows.lean that lists a variable, with what it lists TIED to the program's text (the seventh form; the later family's looks); each row that meets fmt, with fmt's text TOLD by the authors' own Lean function (tested against real Go, not proved from fmt's source: count such statements apart). THE CARD IS WHAT COUNTS. Prove the row's statement (the work); the ties are given (YtgkhgbeiploefaaDoorTie.lean); close each card by the builder's one call (the guide's Derived/Test/ToyasCard.lean, 'card_holds'). Laid BY PROGRAM, IN A SANDBOX (cutbox-door.mjs). By AI agents, Wed Nov 11 2026. No macro, syntax, notation, axiom, sorry.
-/
import Derived.Test.YtgkhgbeiploefaaDoorRows
import GoSem.ClaimSeven
namespace Go.Proofs.YtgkhgbeiploefaaDoor
namespace Rows

/-- THE TIED CARD OF 'towpathlaw26.StatTells'. -/
def statTellsCard : Claim7 := { stood := { row := statTellsRow, standIns := [], harness := (true, "fe657304cd1afc01f852e1a765f03e71b341e62fd8e20a8de66f73b53095dac1"), looks := false }, kinds := [], alts := [], laidByText := true, laidKinds := [.data, .data, .data], laidTests := true, laidLooks := .later }
def StatTellsCardSaid : Prop := Claim7.holds Tryd.pinned (.plain (OpenSpec.ofChange statTellsSpec)) statTellsCard

/-- THE SECOND FORM's CARD OF 'towpathlaw26.StatTells'. -/
def statTellsUptoCard : Claim7 := { stood := { row := statTellsUptoRow, standIns := [], harness := (true, "fe657304cd1afc01f852e1a765f03e71b341e62fd8e20a8de66f73b53095dac1"), looks := false }, kinds := [], alts := [], laidByText := true, laidKinds := [.data, .data, .data], laidTests := true, laidLooks := .later }
def StatTellsUptoCardSaid : Prop := Claim7.holds Tryd.pinned (.plain (OpenSpec.upto statTellsSpec)) statTellsUptoCard
end Rows
end Go.Proofs.YtgkhgbeiploefaaDoor

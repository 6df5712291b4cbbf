/-
  DERIVED. GIVEN WITH THE SEED: THE CARDS: each row of YtafghiekpgjniaaGreatDoorRows.lean that lists a variable, with what it lists TIED to the program's text (the seventh form; the later family's looks); each row that meets fmt, with fmt's text TOLD by the authors' own Lean function (tested against real Go, not proved from fmt's source: count such statements apart). THE CARD IS WHAT COUNTS. Prove the row's statement (the work); the ties are given (YtafghiekpgjniaaGreatDoorTie.lean); close each card by the builder's one call (the guide's Derived/Test/ToyasCard.lean, 'card_holds'). Laid BY PROGRAM, IN A SANDBOX (cutbox-door.mjs). By AI agents, Wed Nov 11 2026. No macro, syntax, notation, axiom, sorry.
-/
import Derived.Test.YtafghiekpgjniaaGreatDoorRows
import GoSem.ClaimSeven
namespace Go.Proofs.YtafghiekpgjniaaGreatDoor
namespace Rows

/-- THE TIED CARD OF 'towpathlaw07.FoldStores'. -/
def foldStoresCard : Claim7 := { stood := { row := foldStoresRow, standIns := [], harness := (true, "a9e87e55d7645000e47490d4f353261e00081fba47e80ba154ed0f668c2ac413"), looks := false }, kinds := [], alts := [], laidByText := true, laidKinds := [.data, .data, .data], laidTests := true, laidLooks := .later }
def FoldStoresCardSaid : Prop := Claim7.holds Tryz.pinned (.plain (OpenSpec.ofChange foldStoresSpec)) foldStoresCard

/-- THE TIED CARD OF 'towpathlaw11.DepsPlays'. -/
def depsPlaysCard : Claim7 := { stood := { row := depsPlaysRow, standIns := [], harness := (true, "a9e87e55d7645000e47490d4f353261e00081fba47e80ba154ed0f668c2ac413"), looks := false }, kinds := [], alts := [], laidByText := true, laidKinds := [.data, .data, .data], laidTests := true, laidLooks := .later }
def DepsPlaysCardSaid : Prop := Claim7.holds Tryz.pinned (.plain (OpenSpec.ofChange depsPlaysSpec)) depsPlaysCard

/-- THE TIED CARD OF 'towpathlaw09.ShardPlays'. -/
def shardPlaysCard : Claim7 := { stood := { row := shardPlaysRow, standIns := [], harness := (true, "a9e87e55d7645000e47490d4f353261e00081fba47e80ba154ed0f668c2ac413"), looks := false }, kinds := [], alts := [], laidByText := true, laidKinds := [.data, .data, .data], laidTests := true, laidLooks := .later }
def ShardPlaysCardSaid : Prop := Claim7.holds Tryz.pinned (.plain (OpenSpec.ofChange shardPlaysSpec)) shardPlaysCard

/-- THE TIED CARD OF 'towpathlaw15.OwnerOwn'. -/
def ownerOwnCard : Claim7 := { stood := { row := ownerOwnRow, standIns := [], harness := (true, "a9e87e55d7645000e47490d4f353261e00081fba47e80ba154ed0f668c2ac413"), looks := false }, kinds := [], alts := [], laidByText := true, laidKinds := [.data, .data, .data], laidTests := true, laidLooks := .later }
def OwnerOwnCardSaid : Prop := Claim7.holds Tryz.pinned (.plain (OpenSpec.ofChange ownerOwnSpec)) ownerOwnCard

/-- THE SECOND FORM's CARD OF 'towpathlaw07.FoldStores'. -/
def foldStoresUptoCard : Claim7 := { stood := { row := foldStoresUptoRow, standIns := [], harness := (true, "a9e87e55d7645000e47490d4f353261e00081fba47e80ba154ed0f668c2ac413"), looks := false }, kinds := [], alts := [], laidByText := true, laidKinds := [.data, .data, .data], laidTests := true, laidLooks := .later }
def FoldStoresUptoCardSaid : Prop := Claim7.holds Tryz.pinned (.plain (OpenSpec.upto foldStoresSpec)) foldStoresUptoCard

/-- THE SECOND FORM's CARD OF 'towpathlaw11.DepsPlays'. -/
def depsPlaysUptoCard : Claim7 := { stood := { row := depsPlaysUptoRow, standIns := [], harness := (true, "a9e87e55d7645000e47490d4f353261e00081fba47e80ba154ed0f668c2ac413"), looks := false }, kinds := [], alts := [], laidByText := true, laidKinds := [.data, .data, .data], laidTests := true, laidLooks := .later }
def DepsPlaysUptoCardSaid : Prop := Claim7.holds Tryz.pinned (.plain (OpenSpec.upto depsPlaysSpec)) depsPlaysUptoCard

/-- THE SECOND FORM's CARD OF 'towpathlaw09.ShardPlays'. -/
def shardPlaysUptoCard : Claim7 := { stood := { row := shardPlaysUptoRow, standIns := [], harness := (true, "a9e87e55d7645000e47490d4f353261e00081fba47e80ba154ed0f668c2ac413"), looks := false }, kinds := [], alts := [], laidByText := true, laidKinds := [.data, .data, .data], laidTests := true, laidLooks := .later }
def ShardPlaysUptoCardSaid : Prop := Claim7.holds Tryz.pinned (.plain (OpenSpec.upto shardPlaysSpec)) shardPlaysUptoCard

/-- THE SECOND FORM's CARD OF 'towpathlaw15.OwnerOwn'. -/
def ownerOwnUptoCard : Claim7 := { stood := { row := ownerOwnUptoRow, standIns := [], harness := (true, "a9e87e55d7645000e47490d4f353261e00081fba47e80ba154ed0f668c2ac413"), looks := false }, kinds := [], alts := [], laidByText := true, laidKinds := [.data, .data, .data], laidTests := true, laidLooks := .later }
def OwnerOwnUptoCardSaid : Prop := Claim7.holds Tryz.pinned (.plain (OpenSpec.upto ownerOwnSpec)) ownerOwnUptoCard
end Rows
end Go.Proofs.YtafghiekpgjniaaGreatDoor

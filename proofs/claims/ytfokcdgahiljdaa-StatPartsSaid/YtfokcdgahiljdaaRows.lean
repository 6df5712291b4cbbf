/-
  No cell of these rows narrows 'for every input' (looked for: loops, veiled, ifaces, maps, wideKeys, modest, calm, conditions, laid).
  DERIVED. THE GIVEN ROWS OF THIS SEAT. 5 by the template 'for every input the law returns true; each argument reads behind the call as it read before'; 0 by the template 'total and deterministic' (their statements: YtfokcdgahiljdaaTotals.lean).
  GIVEN WITH THE SEED: the statements are not yours to turn. If you find one false, say at which input.
  Laid BY PROGRAM, IN A SANDBOX (cutbox-rows.mjs): the forced cells as the released guide's own fill.sh prints them over the translation be621f08c217dad7… (all of the seat's roots in one cut). By AI agents, Wed Nov 11 2026. No macro, syntax, notation, axiom, sorry.
-/
import Derived.Test.YtfokcdgahiljdaaChecked
import GoSem.Claim
import GoSem.ClaimJoined
import GoSem.ClaimMapViews
import Derived.JoinedTies
import Derived.KernelRfl
namespace Go.Proofs.Ytfokcdgahiljdaa
/- THE CELL 'sum', in the pinned program and in every row, IS THE sha256 OF THE DUMP (.gsa) THAT YtfokcdgahiljdaaProg.lean LOADS. Nothing in Lean hashes anything: it is a label: what it is worth is what the hold of that sum in a sandbox is worth. -/
noncomputable def Try.pinned : Pinned := { name := "ytfokcdgahiljdaa", sum := "be621f08c217dad7fcc320853f2cd2ffc7e6d29aafb15739ed18f2828e52b9ce", checked := Try.checked }
namespace Rows
def none {H : Type} : Left H := { results := [], args := [] }

/-- 'towpathlaw22.CountTxns': WHATEVER THE INPUT: true; the input reads as it did. -/
def countTxnsSpec : ChangeSpec := { name := "countTxns", fn := fun _ => fun
  | [d1, d2] => { results := [.lit (.bool true)], args := [d1, d2] }
  | _ => none }
def countTxnsRow : OpenClaim := { program := "ytfokcdgahiljdaa", sum := "be621f08c217dad7fcc320853f2cd2ffc7e6d29aafb15739ed18f2828e52b9ce", func := "towpath/towpathlaw22.CountTxns", spec := "countTxns", unfollowed := true, recurses := true, apart := false }
def CountTxnsSaid : Prop := countTxnsRow.holds Try.pinned (OpenSpec.ofChange countTxnsSpec)

/-- ITS FALSE NEIGHBOUR: 'it returns false'. Refute it at one input. -/
def countTxnsWrong : ChangeSpec := { name := "countTxns", fn := fun _ => fun
  | [d1, d2] => { results := [.lit (.bool false)], args := [d1, d2] }
  | _ => none }
def CountTxnsWrongFalsely : Prop := countTxnsRow.holds Try.pinned (OpenSpec.ofChange countTxnsWrong)

/-- 'towpathlaw26.StatParts': WHATEVER THE INPUT: true; the input reads as it did. -/
def statPartsSpec : ChangeSpec := { name := "statParts", fn := fun _ => fun
  | [d1, d2, d3] => { results := [.lit (.bool true)], args := [d1, d2, d3] }
  | _ => none }
def statPartsRow : OpenClaim := { program := "ytfokcdgahiljdaa", sum := "be621f08c217dad7fcc320853f2cd2ffc7e6d29aafb15739ed18f2828e52b9ce", func := "towpath/towpathlaw26.StatParts", spec := "statParts", unfollowed := true, recurses := true, apart := false }
def StatPartsSaid : Prop := statPartsRow.holds Try.pinned (OpenSpec.ofChange statPartsSpec)

/-- ITS FALSE NEIGHBOUR: 'it returns false'. Refute it at one input. -/
def statPartsWrong : ChangeSpec := { name := "statParts", fn := fun _ => fun
  | [d1, d2, d3] => { results := [.lit (.bool false)], args := [d1, d2, d3] }
  | _ => none }
def StatPartsWrongFalsely : Prop := statPartsRow.holds Try.pinned (OpenSpec.ofChange statPartsWrong)

/-- 'towpathlaw22.CountCalls': WHATEVER THE INPUT: true; the input reads as it did. -/
def countCallsSpec : ChangeSpec := { name := "countCalls", fn := fun _ => fun
  | [d1, d2] => { results := [.lit (.bool true)], args := [d1, d2] }
  | _ => none }
def countCallsRow : OpenClaim := { program := "ytfokcdgahiljdaa", sum := "be621f08c217dad7fcc320853f2cd2ffc7e6d29aafb15739ed18f2828e52b9ce", func := "towpath/towpathlaw22.CountCalls", spec := "countCalls", unfollowed := true, recurses := true, apart := false }
def CountCallsSaid : Prop := countCallsRow.holds Try.pinned (OpenSpec.ofChange countCallsSpec)

/-- ITS FALSE NEIGHBOUR: 'it returns false'. Refute it at one input. -/
def countCallsWrong : ChangeSpec := { name := "countCalls", fn := fun _ => fun
  | [d1, d2] => { results := [.lit (.bool false)], args := [d1, d2] }
  | _ => none }
def CountCallsWrongFalsely : Prop := countCallsRow.holds Try.pinned (OpenSpec.ofChange countCallsWrong)

/-- 'towpathlaw22.CountLogs': WHATEVER THE INPUT: true; the input reads as it did. -/
def countLogsSpec : ChangeSpec := { name := "countLogs", fn := fun _ => fun
  | [d1, d2, d3] => { results := [.lit (.bool true)], args := [d1, d2, d3] }
  | _ => none }
def countLogsRow : OpenClaim := { program := "ytfokcdgahiljdaa", sum := "be621f08c217dad7fcc320853f2cd2ffc7e6d29aafb15739ed18f2828e52b9ce", func := "towpath/towpathlaw22.CountLogs", spec := "countLogs", unfollowed := true, recurses := true, apart := false }
def CountLogsSaid : Prop := countLogsRow.holds Try.pinned (OpenSpec.ofChange countLogsSpec)

/-- ITS FALSE NEIGHBOUR: 'it returns false'. Refute it at one input. -/
def countLogsWrong : ChangeSpec := { name := "countLogs", fn := fun _ => fun
  | [d1, d2, d3] => { results := [.lit (.bool false)], args := [d1, d2, d3] }
  | _ => none }
def CountLogsWrongFalsely : Prop := countLogsRow.holds Try.pinned (OpenSpec.ofChange countLogsWrong)

/-- 'towpathlaw22.CountAdds': WHATEVER THE INPUT: true; the input reads as it did. -/
def countAddsSpec : ChangeSpec := { name := "countAdds", fn := fun _ => fun
  | [d1, d2] => { results := [.lit (.bool true)], args := [d1, d2] }
  | _ => none }
def countAddsRow : OpenClaim := { program := "ytfokcdgahiljdaa", sum := "be621f08c217dad7fcc320853f2cd2ffc7e6d29aafb15739ed18f2828e52b9ce", func := "towpath/towpathlaw22.CountAdds", spec := "countAdds", unfollowed := true, recurses := true, apart := false }
def CountAddsSaid : Prop := countAddsRow.holds Try.pinned (OpenSpec.ofChange countAddsSpec)

/-- ITS FALSE NEIGHBOUR: 'it returns false'. Refute it at one input. -/
def countAddsWrong : ChangeSpec := { name := "countAdds", fn := fun _ => fun
  | [d1, d2] => { results := [.lit (.bool false)], args := [d1, d2] }
  | _ => none }
def CountAddsWrongFalsely : Prop := countAddsRow.holds Try.pinned (OpenSpec.ofChange countAddsWrong)

/- THE SECOND FORM. 'bulk': how many values and letters a reading holds, each counted each time it is reached (what is shared counts as often as it is met; a slice's spare places count too). A statement '..UptoSaid' is the law's where the arguments, and the package variables that the reading takes, are together of bulk at most 1048576: NARROWER than '..Said'. Prove '..Said' where nothing that the law and all that it calls make is longer than what came in: it says more and counts as full. Else prove '..UptoSaid'. A law counts once. -/
mutual
def uptoBulk {H : Type} : DataW H → Nat
  | .lit (.string bytes) => bytes.length + 1
  | .lit _ => 1
  | .nil => 1
  | .ptr d => uptoBulk d + 1
  | .slice elems spare => uptoBulkAll elems + uptoBulkAll spare + 1
  | .agg parts => uptoBulkAll parts + 1
  | .iface _ d => uptoBulk d + 1
  | .map entries => uptoBulkEntries entries + 1
  | .held _ => 1
def uptoBulkAll {H : Type} : List (DataW H) → Nat
  | [] => 0
  | d :: r => uptoBulk d + uptoBulkAll r
def uptoBulkEntries {H : Type} : List (Lit × DataW H) → Nat
  | [] => 0
  | x :: r => uptoBulkEntry x + uptoBulkEntries r
def uptoBulkEntry {H : Type} : Lit × DataW H → Nat
  | (.string bytes, d) => bytes.length + uptoBulk d + 1
  | (_, d) => uptoBulk d + 1
 end
def uptoSmall : (H : Type) → List (DataW H) → Bool := fun _ ds => decide (uptoBulkAll ds ≤ 1048576)
def OpenSpec.upto (s : _root_.Go.ChangeSpec) : _root_.Go.OpenSpec := { _root_.Go.OpenSpec.ofChange s with cond := some uptoSmall }

/-- 'towpathlaw22.CountTxns', WHERE WHAT IT READS IS OF BULK AT MOST 1048576: true; the input reads as it did. -/
def countTxnsUptoRow : OpenClaim := { program := "ytfokcdgahiljdaa", sum := "be621f08c217dad7fcc320853f2cd2ffc7e6d29aafb15739ed18f2828e52b9ce", func := "towpath/towpathlaw22.CountTxns", spec := "countTxns", unfollowed := true, recurses := true, apart := false, narrowed := true }
def CountTxnsUptoSaid : Prop := countTxnsUptoRow.holds Try.pinned (OpenSpec.upto countTxnsSpec)

/-- 'towpathlaw26.StatParts', WHERE WHAT IT READS IS OF BULK AT MOST 1048576: true; the input reads as it did. -/
def statPartsUptoRow : OpenClaim := { program := "ytfokcdgahiljdaa", sum := "be621f08c217dad7fcc320853f2cd2ffc7e6d29aafb15739ed18f2828e52b9ce", func := "towpath/towpathlaw26.StatParts", spec := "statParts", unfollowed := true, recurses := true, apart := false, narrowed := true }
def StatPartsUptoSaid : Prop := statPartsUptoRow.holds Try.pinned (OpenSpec.upto statPartsSpec)

/-- 'towpathlaw22.CountCalls', WHERE WHAT IT READS IS OF BULK AT MOST 1048576: true; the input reads as it did. -/
def countCallsUptoRow : OpenClaim := { program := "ytfokcdgahiljdaa", sum := "be621f08c217dad7fcc320853f2cd2ffc7e6d29aafb15739ed18f2828e52b9ce", func := "towpath/towpathlaw22.CountCalls", spec := "countCalls", unfollowed := true, recurses := true, apart := false, narrowed := true }
def CountCallsUptoSaid : Prop := countCallsUptoRow.holds Try.pinned (OpenSpec.upto countCallsSpec)

/-- 'towpathlaw22.CountLogs', WHERE WHAT IT READS IS OF BULK AT MOST 1048576: true; the input reads as it did. -/
def countLogsUptoRow : OpenClaim := { program := "ytfokcdgahiljdaa", sum := "be621f08c217dad7fcc320853f2cd2ffc7e6d29aafb15739ed18f2828e52b9ce", func := "towpath/towpathlaw22.CountLogs", spec := "countLogs", unfollowed := true, recurses := true, apart := false, narrowed := true }
def CountLogsUptoSaid : Prop := countLogsUptoRow.holds Try.pinned (OpenSpec.upto countLogsSpec)

/-- 'towpathlaw22.CountAdds', WHERE WHAT IT READS IS OF BULK AT MOST 1048576: true; the input reads as it did. -/
def countAddsUptoRow : OpenClaim := { program := "ytfokcdgahiljdaa", sum := "be621f08c217dad7fcc320853f2cd2ffc7e6d29aafb15739ed18f2828e52b9ce", func := "towpath/towpathlaw22.CountAdds", spec := "countAdds", unfollowed := true, recurses := true, apart := false, narrowed := true }
def CountAddsUptoSaid : Prop := countAddsUptoRow.holds Try.pinned (OpenSpec.upto countAddsSpec)

end Rows
end Go.Proofs.Ytfokcdgahiljdaa

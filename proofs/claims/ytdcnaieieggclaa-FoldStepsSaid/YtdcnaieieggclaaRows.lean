/-
  No cell of these rows narrows 'for every input' (looked for: loops, veiled, ifaces, maps, wideKeys, modest, calm, conditions, laid).
  DERIVED. THE GIVEN ROWS OF THIS SEAT. 9 by the template 'for every input the law returns true; each argument reads behind the call as it read before'; 0 by the template 'total and deterministic' (their statements: YtdcnaieieggclaaTotals.lean).
  GIVEN WITH THE SEED: the statements are not yours to turn. If you find one false, say at which input.
  Laid BY PROGRAM, IN A SANDBOX (cutbox-rows.mjs): the forced cells as the released guide's own fill.sh prints them over the translation e73d14781b5242d0… (all of the seat's roots in one cut). By AI agents, Wed Nov 11 2026. No macro, syntax, notation, axiom, sorry.
-/
import Derived.Test.YtdcnaieieggclaaChecked
import GoSem.Claim
import GoSem.ClaimJoined
import GoSem.ClaimMapViews
import Derived.JoinedTies
import Derived.KernelRfl
namespace Go.Proofs.Ytdcnaieieggclaa
/- THE CELL 'sum', in the pinned program and in every row, IS THE sha256 OF THE DUMP (.gsa) THAT YtdcnaieieggclaaProg.lean LOADS. Nothing in Lean hashes anything: it is a label: what it is worth is what the hold of that sum in a sandbox is worth. -/
noncomputable def Try.pinned : Pinned := { name := "ytdcnaieieggclaa", sum := "e73d14781b5242d088b3f898b8b956a1d4d0406e9081a1292af336f25a71a5dc", checked := Try.checked }
namespace Rows
def none {H : Type} : Left H := { results := [], args := [] }

/-- 'towpathlaw07.FoldChains': WHATEVER THE INPUT: true; the input reads as it did. -/
def foldChainsSpec : ChangeSpec := { name := "foldChains", fn := fun _ => fun
  | [d1, d2, d3] => { results := [.lit (.bool true)], args := [d1, d2, d3] }
  | _ => none }
def foldChainsRow : OpenClaim := { program := "ytdcnaieieggclaa", sum := "e73d14781b5242d088b3f898b8b956a1d4d0406e9081a1292af336f25a71a5dc", func := "towpath/towpathlaw07.FoldChains", spec := "foldChains", unfollowed := true, recurses := true, plainKeys := false, apart := false }
def FoldChainsSaid : Prop := foldChainsRow.holds Try.pinned (OpenSpec.ofChange foldChainsSpec)

/-- ITS FALSE NEIGHBOUR: 'it returns false'. Refute it at one input. -/
def foldChainsWrong : ChangeSpec := { name := "foldChains", fn := fun _ => fun
  | [d1, d2, d3] => { results := [.lit (.bool false)], args := [d1, d2, d3] }
  | _ => none }
def FoldChainsWrongFalsely : Prop := foldChainsRow.holds Try.pinned (OpenSpec.ofChange foldChainsWrong)

/-- 'towpathlaw07.FoldLinks': WHATEVER THE INPUT: true; the input reads as it did. -/
def foldLinksSpec : ChangeSpec := { name := "foldLinks", fn := fun _ => fun
  | [d] => { results := [.lit (.bool true)], args := [d] }
  | _ => none }
def foldLinksRow : OpenClaim := { program := "ytdcnaieieggclaa", sum := "e73d14781b5242d088b3f898b8b956a1d4d0406e9081a1292af336f25a71a5dc", func := "towpath/towpathlaw07.FoldLinks", spec := "foldLinks", unfollowed := true, recurses := true, plainKeys := false, apart := false }
def FoldLinksSaid : Prop := foldLinksRow.holds Try.pinned (OpenSpec.ofChange foldLinksSpec)

/-- ITS FALSE NEIGHBOUR: 'it returns false'. Refute it at one input. -/
def foldLinksWrong : ChangeSpec := { name := "foldLinks", fn := fun _ => fun
  | [d] => { results := [.lit (.bool false)], args := [d] }
  | _ => none }
def FoldLinksWrongFalsely : Prop := foldLinksRow.holds Try.pinned (OpenSpec.ofChange foldLinksWrong)

/-- 'towpathlaw07.FoldCounts': WHATEVER THE INPUT: true; the input reads as it did. -/
def foldCountsSpec : ChangeSpec := { name := "foldCounts", fn := fun _ => fun
  | [d1, d2] => { results := [.lit (.bool true)], args := [d1, d2] }
  | _ => none }
def foldCountsRow : OpenClaim := { program := "ytdcnaieieggclaa", sum := "e73d14781b5242d088b3f898b8b956a1d4d0406e9081a1292af336f25a71a5dc", func := "towpath/towpathlaw07.FoldCounts", spec := "foldCounts", unfollowed := true, recurses := true, plainKeys := false, apart := false }
def FoldCountsSaid : Prop := foldCountsRow.holds Try.pinned (OpenSpec.ofChange foldCountsSpec)

/-- ITS FALSE NEIGHBOUR: 'it returns false'. Refute it at one input. -/
def foldCountsWrong : ChangeSpec := { name := "foldCounts", fn := fun _ => fun
  | [d1, d2] => { results := [.lit (.bool false)], args := [d1, d2] }
  | _ => none }
def FoldCountsWrongFalsely : Prop := foldCountsRow.holds Try.pinned (OpenSpec.ofChange foldCountsWrong)

/-- 'towpathlaw07.FoldReads': WHATEVER THE INPUT: true; the input reads as it did. -/
def foldReadsSpec : ChangeSpec := { name := "foldReads", fn := fun _ => fun
  | [d1, d2] => { results := [.lit (.bool true)], args := [d1, d2] }
  | _ => none }
def foldReadsRow : OpenClaim := { program := "ytdcnaieieggclaa", sum := "e73d14781b5242d088b3f898b8b956a1d4d0406e9081a1292af336f25a71a5dc", func := "towpath/towpathlaw07.FoldReads", spec := "foldReads", unfollowed := true, recurses := true, plainKeys := false, apart := false }
def FoldReadsSaid : Prop := foldReadsRow.holds Try.pinned (OpenSpec.ofChange foldReadsSpec)

/-- ITS FALSE NEIGHBOUR: 'it returns false'. Refute it at one input. -/
def foldReadsWrong : ChangeSpec := { name := "foldReads", fn := fun _ => fun
  | [d1, d2] => { results := [.lit (.bool false)], args := [d1, d2] }
  | _ => none }
def FoldReadsWrongFalsely : Prop := foldReadsRow.holds Try.pinned (OpenSpec.ofChange foldReadsWrong)

/-- 'towpathlaw07.FoldSteps': WHATEVER THE INPUT: true; the input reads as it did. -/
def foldStepsSpec : ChangeSpec := { name := "foldSteps", fn := fun _ => fun
  | [d1, d2] => { results := [.lit (.bool true)], args := [d1, d2] }
  | _ => none }
def foldStepsRow : OpenClaim := { program := "ytdcnaieieggclaa", sum := "e73d14781b5242d088b3f898b8b956a1d4d0406e9081a1292af336f25a71a5dc", func := "towpath/towpathlaw07.FoldSteps", spec := "foldSteps", unfollowed := true, recurses := true, plainKeys := false, apart := false }
def FoldStepsSaid : Prop := foldStepsRow.holds Try.pinned (OpenSpec.ofChange foldStepsSpec)

/-- ITS FALSE NEIGHBOUR: 'it returns false'. Refute it at one input. -/
def foldStepsWrong : ChangeSpec := { name := "foldSteps", fn := fun _ => fun
  | [d1, d2] => { results := [.lit (.bool false)], args := [d1, d2] }
  | _ => none }
def FoldStepsWrongFalsely : Prop := foldStepsRow.holds Try.pinned (OpenSpec.ofChange foldStepsWrong)

/-- 'towpathlaw11.DepsEnds': WHATEVER THE INPUT: true; the input reads as it did. -/
def depsEndsSpec : ChangeSpec := { name := "depsEnds", fn := fun _ => fun
  | [d1, d2] => { results := [.lit (.bool true)], args := [d1, d2] }
  | _ => none }
def depsEndsRow : OpenClaim := { program := "ytdcnaieieggclaa", sum := "e73d14781b5242d088b3f898b8b956a1d4d0406e9081a1292af336f25a71a5dc", func := "towpath/towpathlaw11.DepsEnds", spec := "depsEnds", unfollowed := true, recurses := true, plainKeys := false, apart := false }
def DepsEndsSaid : Prop := depsEndsRow.holds Try.pinned (OpenSpec.ofChange depsEndsSpec)

/-- ITS FALSE NEIGHBOUR: 'it returns false'. Refute it at one input. -/
def depsEndsWrong : ChangeSpec := { name := "depsEnds", fn := fun _ => fun
  | [d1, d2] => { results := [.lit (.bool false)], args := [d1, d2] }
  | _ => none }
def DepsEndsWrongFalsely : Prop := depsEndsRow.holds Try.pinned (OpenSpec.ofChange depsEndsWrong)

/-- 'towpathlaw11.DepsLast': WHATEVER THE INPUT: true; the input reads as it did. -/
def depsLastSpec : ChangeSpec := { name := "depsLast", fn := fun _ => fun
  | [d1, d2] => { results := [.lit (.bool true)], args := [d1, d2] }
  | _ => none }
def depsLastRow : OpenClaim := { program := "ytdcnaieieggclaa", sum := "e73d14781b5242d088b3f898b8b956a1d4d0406e9081a1292af336f25a71a5dc", func := "towpath/towpathlaw11.DepsLast", spec := "depsLast", unfollowed := true, recurses := true, plainKeys := false, apart := false }
def DepsLastSaid : Prop := depsLastRow.holds Try.pinned (OpenSpec.ofChange depsLastSpec)

/-- ITS FALSE NEIGHBOUR: 'it returns false'. Refute it at one input. -/
def depsLastWrong : ChangeSpec := { name := "depsLast", fn := fun _ => fun
  | [d1, d2] => { results := [.lit (.bool false)], args := [d1, d2] }
  | _ => none }
def DepsLastWrongFalsely : Prop := depsLastRow.holds Try.pinned (OpenSpec.ofChange depsLastWrong)

/-- 'towpathlaw07.FoldKeys': WHATEVER THE INPUT: true; the input reads as it did. -/
def foldKeysSpec : ChangeSpec := { name := "foldKeys", fn := fun _ => fun
  | [d1, d2] => { results := [.lit (.bool true)], args := [d1, d2] }
  | _ => none }
def foldKeysRow : OpenClaim := { program := "ytdcnaieieggclaa", sum := "e73d14781b5242d088b3f898b8b956a1d4d0406e9081a1292af336f25a71a5dc", func := "towpath/towpathlaw07.FoldKeys", spec := "foldKeys", unfollowed := true, recurses := true, plainKeys := false, apart := false }
def FoldKeysSaid : Prop := foldKeysRow.holds Try.pinned (OpenSpec.ofChange foldKeysSpec)

/-- ITS FALSE NEIGHBOUR: 'it returns false'. Refute it at one input. -/
def foldKeysWrong : ChangeSpec := { name := "foldKeys", fn := fun _ => fun
  | [d1, d2] => { results := [.lit (.bool false)], args := [d1, d2] }
  | _ => none }
def FoldKeysWrongFalsely : Prop := foldKeysRow.holds Try.pinned (OpenSpec.ofChange foldKeysWrong)

/-- 'towpathlaw11.DepsChains': WHATEVER THE INPUT: true; the input reads as it did. -/
def depsChainsSpec : ChangeSpec := { name := "depsChains", fn := fun _ => fun
  | [d1, d2] => { results := [.lit (.bool true)], args := [d1, d2] }
  | _ => none }
def depsChainsRow : OpenClaim := { program := "ytdcnaieieggclaa", sum := "e73d14781b5242d088b3f898b8b956a1d4d0406e9081a1292af336f25a71a5dc", func := "towpath/towpathlaw11.DepsChains", spec := "depsChains", unfollowed := true, recurses := true, plainKeys := false, apart := false }
def DepsChainsSaid : Prop := depsChainsRow.holds Try.pinned (OpenSpec.ofChange depsChainsSpec)

/-- ITS FALSE NEIGHBOUR: 'it returns false'. Refute it at one input. -/
def depsChainsWrong : ChangeSpec := { name := "depsChains", fn := fun _ => fun
  | [d1, d2] => { results := [.lit (.bool false)], args := [d1, d2] }
  | _ => none }
def DepsChainsWrongFalsely : Prop := depsChainsRow.holds Try.pinned (OpenSpec.ofChange depsChainsWrong)

/- THE SECOND FORM. 'bulk': how many values and letters a reading holds, each counted each time it is reached (what is shared counts as often as it is met; a slice's spare places count too). A statement '..UptoSaid' is the law's where the arguments, and the package variables that the reading takes, are together of bulk at most 1048576: NARROWER than '..Said'. Prove '..Said' where nothing that the law and all that it calls make is longer than what came in: it says more and counts as full. Else prove '..UptoSaid'. A law counts once. -/
mutual
def uptoBulk {H : Type} : DataW H → Nat
  | .lit (.string bytes) => bytes.length + 1
  | .lit _ => 1
  | .nil => 1
  | .ptr d => uptoBulk d + 1
  | .slice elems spare => uptoBulkAll elems + uptoBulkAll spare + 1
  | .agg parts => uptoBulkAll parts + 1
  | .iface _ d => uptoBulk d + 1
  | .map entries => uptoBulkEntries entries + 1
  | .held _ => 1
def uptoBulkAll {H : Type} : List (DataW H) → Nat
  | [] => 0
  | d :: r => uptoBulk d + uptoBulkAll r
def uptoBulkEntries {H : Type} : List (Lit × DataW H) → Nat
  | [] => 0
  | x :: r => uptoBulkEntry x + uptoBulkEntries r
def uptoBulkEntry {H : Type} : Lit × DataW H → Nat
  | (.string bytes, d) => bytes.length + uptoBulk d + 1
  | (_, d) => uptoBulk d + 1
 end
def uptoSmall : (H : Type) → List (DataW H) → Bool := fun _ ds => decide (uptoBulkAll ds ≤ 1048576)
def OpenSpec.upto (s : _root_.Go.ChangeSpec) : _root_.Go.OpenSpec := { _root_.Go.OpenSpec.ofChange s with cond := some uptoSmall }

/-- 'towpathlaw07.FoldChains', WHERE WHAT IT READS IS OF BULK AT MOST 1048576: true; the input reads as it did. -/
def foldChainsUptoRow : OpenClaim := { program := "ytdcnaieieggclaa", sum := "e73d14781b5242d088b3f898b8b956a1d4d0406e9081a1292af336f25a71a5dc", func := "towpath/towpathlaw07.FoldChains", spec := "foldChains", unfollowed := true, recurses := true, plainKeys := false, apart := false, narrowed := true }
def FoldChainsUptoSaid : Prop := foldChainsUptoRow.holds Try.pinned (OpenSpec.upto foldChainsSpec)

/-- 'towpathlaw07.FoldLinks', WHERE WHAT IT READS IS OF BULK AT MOST 1048576: true; the input reads as it did. -/
def foldLinksUptoRow : OpenClaim := { program := "ytdcnaieieggclaa", sum := "e73d14781b5242d088b3f898b8b956a1d4d0406e9081a1292af336f25a71a5dc", func := "towpath/towpathlaw07.FoldLinks", spec := "foldLinks", unfollowed := true, recurses := true, plainKeys := false, apart := false, narrowed := true }
def FoldLinksUptoSaid : Prop := foldLinksUptoRow.holds Try.pinned (OpenSpec.upto foldLinksSpec)

/-- 'towpathlaw07.FoldCounts', WHERE WHAT IT READS IS OF BULK AT MOST 1048576: true; the input reads as it did. -/
def foldCountsUptoRow : OpenClaim := { program := "ytdcnaieieggclaa", sum := "e73d14781b5242d088b3f898b8b956a1d4d0406e9081a1292af336f25a71a5dc", func := "towpath/towpathlaw07.FoldCounts", spec := "foldCounts", unfollowed := true, recurses := true, plainKeys := false, apart := false, narrowed := true }
def FoldCountsUptoSaid : Prop := foldCountsUptoRow.holds Try.pinned (OpenSpec.upto foldCountsSpec)

/-- 'towpathlaw07.FoldReads', WHERE WHAT IT READS IS OF BULK AT MOST 1048576: true; the input reads as it did. -/
def foldReadsUptoRow : OpenClaim := { program := "ytdcnaieieggclaa", sum := "e73d14781b5242d088b3f898b8b956a1d4d0406e9081a1292af336f25a71a5dc", func := "towpath/towpathlaw07.FoldReads", spec := "foldReads", unfollowed := true, recurses := true, plainKeys := false, apart := false, narrowed := true }
def FoldReadsUptoSaid : Prop := foldReadsUptoRow.holds Try.pinned (OpenSpec.upto foldReadsSpec)

/-- 'towpathlaw07.FoldSteps', WHERE WHAT IT READS IS OF BULK AT MOST 1048576: true; the input reads as it did. -/
def foldStepsUptoRow : OpenClaim := { program := "ytdcnaieieggclaa", sum := "e73d14781b5242d088b3f898b8b956a1d4d0406e9081a1292af336f25a71a5dc", func := "towpath/towpathlaw07.FoldSteps", spec := "foldSteps", unfollowed := true, recurses := true, plainKeys := false, apart := false, narrowed := true }
def FoldStepsUptoSaid : Prop := foldStepsUptoRow.holds Try.pinned (OpenSpec.upto foldStepsSpec)

/-- 'towpathlaw11.DepsEnds', WHERE WHAT IT READS IS OF BULK AT MOST 1048576: true; the input reads as it did. -/
def depsEndsUptoRow : OpenClaim := { program := "ytdcnaieieggclaa", sum := "e73d14781b5242d088b3f898b8b956a1d4d0406e9081a1292af336f25a71a5dc", func := "towpath/towpathlaw11.DepsEnds", spec := "depsEnds", unfollowed := true, recurses := true, plainKeys := false, apart := false, narrowed := true }
def DepsEndsUptoSaid : Prop := depsEndsUptoRow.holds Try.pinned (OpenSpec.upto depsEndsSpec)

/-- 'towpathlaw11.DepsLast', WHERE WHAT IT READS IS OF BULK AT MOST 1048576: true; the input reads as it did. -/
def depsLastUptoRow : OpenClaim := { program := "ytdcnaieieggclaa", sum := "e73d14781b5242d088b3f898b8b956a1d4d0406e9081a1292af336f25a71a5dc", func := "towpath/towpathlaw11.DepsLast", spec := "depsLast", unfollowed := true, recurses := true, plainKeys := false, apart := false, narrowed := true }
def DepsLastUptoSaid : Prop := depsLastUptoRow.holds Try.pinned (OpenSpec.upto depsLastSpec)

/-- 'towpathlaw07.FoldKeys', WHERE WHAT IT READS IS OF BULK AT MOST 1048576: true; the input reads as it did. -/
def foldKeysUptoRow : OpenClaim := { program := "ytdcnaieieggclaa", sum := "e73d14781b5242d088b3f898b8b956a1d4d0406e9081a1292af336f25a71a5dc", func := "towpath/towpathlaw07.FoldKeys", spec := "foldKeys", unfollowed := true, recurses := true, plainKeys := false, apart := false, narrowed := true }
def FoldKeysUptoSaid : Prop := foldKeysUptoRow.holds Try.pinned (OpenSpec.upto foldKeysSpec)

/-- 'towpathlaw11.DepsChains', WHERE WHAT IT READS IS OF BULK AT MOST 1048576: true; the input reads as it did. -/
def depsChainsUptoRow : OpenClaim := { program := "ytdcnaieieggclaa", sum := "e73d14781b5242d088b3f898b8b956a1d4d0406e9081a1292af336f25a71a5dc", func := "towpath/towpathlaw11.DepsChains", spec := "depsChains", unfollowed := true, recurses := true, plainKeys := false, apart := false, narrowed := true }
def DepsChainsUptoSaid : Prop := depsChainsUptoRow.holds Try.pinned (OpenSpec.upto depsChainsSpec)

end Rows
end Go.Proofs.Ytdcnaieieggclaa

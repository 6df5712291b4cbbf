/-
  No cell of these rows narrows 'for every input' (looked for: loops, veiled, ifaces, maps, wideKeys, modest, calm, conditions, laid).
  DERIVED. THE GIVEN ROWS OF THIS SEAT. 3 by the template 'for every input the law returns true; each argument reads behind the call as it read before'; 0 by the template 'total and deterministic' (their statements: YtieiehloapnjgaaTotals.lean).
  GIVEN WITH THE SEED: the statements are not yours to turn. If you find one false, say at which input.
  Laid BY PROGRAM, IN A SANDBOX (cutbox-rows.mjs): the forced cells as the released guide's own fill.sh prints them over the translation b4fb7138c8376c1b… (all of the seat's roots in one cut). By AI agents, Wed Nov 11 2026. No macro, syntax, notation, axiom, sorry.
-/
import Derived.Test.YtieiehloapnjgaaChecked
import GoSem.Claim
import GoSem.ClaimJoined
import GoSem.ClaimMapViews
import Derived.JoinedTies
import Derived.KernelRfl
namespace Go.Proofs.Ytieiehloapnjgaa
/- THE CELL 'sum', in the pinned program and in every row, IS THE sha256 OF THE DUMP (.gsa) THAT YtieiehloapnjgaaProg.lean LOADS. Nothing in Lean hashes anything: it is a label: what it is worth is what the hold of that sum in a sandbox is worth. -/
noncomputable def Try.pinned : Pinned := { name := "ytieiehloapnjgaa", sum := "b4fb7138c8376c1b556e19698d2b05b21af1c3076121f0af33d601397eda2ac4", checked := Try.checked }
namespace Rows
def none {H : Type} : Left H := { results := [], args := [] }

/-- 'towpathlaw15.OwnerScans': WHATEVER THE INPUT: true; the input reads as it did. -/
def ownerScansSpec : ChangeSpec := { name := "ownerScans", fn := fun _ => fun
  | [d] => { results := [.lit (.bool true)], args := [d] }
  | _ => none }
def ownerScansRow : OpenClaim := { program := "ytieiehloapnjgaa", sum := "b4fb7138c8376c1b556e19698d2b05b21af1c3076121f0af33d601397eda2ac4", func := "towpath/towpathlaw15.OwnerScans", spec := "ownerScans", inPlace := ["slices.overlaps[towpath/api.Version]"], unfollowed := true, recurses := true, apart := false }
def OwnerScansSaid : Prop := ownerScansRow.holds Try.pinned (OpenSpec.ofChange ownerScansSpec)

/-- ITS FALSE NEIGHBOUR: 'it returns false'. Refute it at one input. -/
def ownerScansWrong : ChangeSpec := { name := "ownerScans", fn := fun _ => fun
  | [d] => { results := [.lit (.bool false)], args := [d] }
  | _ => none }
def OwnerScansWrongFalsely : Prop := ownerScansRow.holds Try.pinned (OpenSpec.ofChange ownerScansWrong)

/-- 'towpathlaw15.OwnerOrder': WHATEVER THE INPUT: true; the input reads as it did. -/
def ownerOrderSpec : ChangeSpec := { name := "ownerOrder", fn := fun _ => fun
  | [d1, d2] => { results := [.lit (.bool true)], args := [d1, d2] }
  | _ => none }
def ownerOrderRow : OpenClaim := { program := "ytieiehloapnjgaa", sum := "b4fb7138c8376c1b556e19698d2b05b21af1c3076121f0af33d601397eda2ac4", func := "towpath/towpathlaw15.OwnerOrder", spec := "ownerOrder", inPlace := ["slices.overlaps[towpath/api.Version]"], unfollowed := true, recurses := true, apart := false }
def OwnerOrderSaid : Prop := ownerOrderRow.holds Try.pinned (OpenSpec.ofChange ownerOrderSpec)

/-- ITS FALSE NEIGHBOUR: 'it returns false'. Refute it at one input. -/
def ownerOrderWrong : ChangeSpec := { name := "ownerOrder", fn := fun _ => fun
  | [d1, d2] => { results := [.lit (.bool false)], args := [d1, d2] }
  | _ => none }
def OwnerOrderWrongFalsely : Prop := ownerOrderRow.holds Try.pinned (OpenSpec.ofChange ownerOrderWrong)

/-- 'towpathlaw15.OwnerQuiet': WHATEVER THE INPUT: true; the input reads as it did. -/
def ownerQuietSpec : ChangeSpec := { name := "ownerQuiet", fn := fun _ => fun
  | [d1, d2] => { results := [.lit (.bool true)], args := [d1, d2] }
  | _ => none }
def ownerQuietRow : OpenClaim := { program := "ytieiehloapnjgaa", sum := "b4fb7138c8376c1b556e19698d2b05b21af1c3076121f0af33d601397eda2ac4", func := "towpath/towpathlaw15.OwnerQuiet", spec := "ownerQuiet", inPlace := ["slices.overlaps[towpath/api.Version]"], unfollowed := true, recurses := true, apart := false }
def OwnerQuietSaid : Prop := ownerQuietRow.holds Try.pinned (OpenSpec.ofChange ownerQuietSpec)

/-- ITS FALSE NEIGHBOUR: 'it returns false'. Refute it at one input. -/
def ownerQuietWrong : ChangeSpec := { name := "ownerQuiet", fn := fun _ => fun
  | [d1, d2] => { results := [.lit (.bool false)], args := [d1, d2] }
  | _ => none }
def OwnerQuietWrongFalsely : Prop := ownerQuietRow.holds Try.pinned (OpenSpec.ofChange ownerQuietWrong)

/- THE SECOND FORM. 'bulk': how many values and letters a reading holds, each counted each time it is reached (what is shared counts as often as it is met; a slice's spare places count too). A statement '..UptoSaid' is the law's where the arguments, and the package variables that the reading takes, are together of bulk at most 1048576: NARROWER than '..Said'. Prove '..Said' where nothing that the law and all that it calls make is longer than what came in: it says more and counts as full. Else prove '..UptoSaid'. A law counts once. -/
mutual
def uptoBulk {H : Type} : DataW H → Nat
  | .lit (.string bytes) => bytes.length + 1
  | .lit _ => 1
  | .nil => 1
  | .ptr d => uptoBulk d + 1
  | .slice elems spare => uptoBulkAll elems + uptoBulkAll spare + 1
  | .agg parts => uptoBulkAll parts + 1
  | .iface _ d => uptoBulk d + 1
  | .map entries => uptoBulkEntries entries + 1
  | .held _ => 1
def uptoBulkAll {H : Type} : List (DataW H) → Nat
  | [] => 0
  | d :: r => uptoBulk d + uptoBulkAll r
def uptoBulkEntries {H : Type} : List (Lit × DataW H) → Nat
  | [] => 0
  | x :: r => uptoBulkEntry x + uptoBulkEntries r
def uptoBulkEntry {H : Type} : Lit × DataW H → Nat
  | (.string bytes, d) => bytes.length + uptoBulk d + 1
  | (_, d) => uptoBulk d + 1
 end
def uptoSmall : (H : Type) → List (DataW H) → Bool := fun _ ds => decide (uptoBulkAll ds ≤ 1048576)
def OpenSpec.upto (s : _root_.Go.ChangeSpec) : _root_.Go.OpenSpec := { _root_.Go.OpenSpec.ofChange s with cond := some uptoSmall }

/-- 'towpathlaw15.OwnerScans', WHERE WHAT IT READS IS OF BULK AT MOST 1048576: true; the input reads as it did. -/
def ownerScansUptoRow : OpenClaim := { program := "ytieiehloapnjgaa", sum := "b4fb7138c8376c1b556e19698d2b05b21af1c3076121f0af33d601397eda2ac4", func := "towpath/towpathlaw15.OwnerScans", spec := "ownerScans", inPlace := ["slices.overlaps[towpath/api.Version]"], unfollowed := true, recurses := true, apart := false, narrowed := true }
def OwnerScansUptoSaid : Prop := ownerScansUptoRow.holds Try.pinned (OpenSpec.upto ownerScansSpec)

/-- 'towpathlaw15.OwnerOrder', WHERE WHAT IT READS IS OF BULK AT MOST 1048576: true; the input reads as it did. -/
def ownerOrderUptoRow : OpenClaim := { program := "ytieiehloapnjgaa", sum := "b4fb7138c8376c1b556e19698d2b05b21af1c3076121f0af33d601397eda2ac4", func := "towpath/towpathlaw15.OwnerOrder", spec := "ownerOrder", inPlace := ["slices.overlaps[towpath/api.Version]"], unfollowed := true, recurses := true, apart := false, narrowed := true }
def OwnerOrderUptoSaid : Prop := ownerOrderUptoRow.holds Try.pinned (OpenSpec.upto ownerOrderSpec)

/-- 'towpathlaw15.OwnerQuiet', WHERE WHAT IT READS IS OF BULK AT MOST 1048576: true; the input reads as it did. -/
def ownerQuietUptoRow : OpenClaim := { program := "ytieiehloapnjgaa", sum := "b4fb7138c8376c1b556e19698d2b05b21af1c3076121f0af33d601397eda2ac4", func := "towpath/towpathlaw15.OwnerQuiet", spec := "ownerQuiet", inPlace := ["slices.overlaps[towpath/api.Version]"], unfollowed := true, recurses := true, apart := false, narrowed := true }
def OwnerQuietUptoSaid : Prop := ownerQuietUptoRow.holds Try.pinned (OpenSpec.upto ownerQuietSpec)

end Rows
end Go.Proofs.Ytieiehloapnjgaa

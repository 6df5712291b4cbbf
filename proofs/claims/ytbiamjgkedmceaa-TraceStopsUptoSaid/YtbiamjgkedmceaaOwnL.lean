/- Two facts of the program. -/
import Derived.Test.YtbiamjgkedmceaaBase
import Derived.Test.YtbiamjgkedmceaaRows
import Derived.LaidMore
namespace Go.Proofs.Ytbiamjgkedmceaa
open Go.RowKit
set_option linter.unusedVariables false
set_option linter.unusedSimpArgs false

theorem own : ownKnob Try.prog.godebug = none := by kernel_rfl
theorem laidOut : laidOutB Try.prog = true := by kernel_rfl
end Go.Proofs.Ytbiamjgkedmceaa

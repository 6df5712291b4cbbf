/- Two facts of the program. -/
import Derived.Test.YtcjmppjppmiggaaGreatM1
import Derived.Test.YtcjmppjppmiggaaGreatRows
import Derived.LaidMore
namespace Go.Proofs.YtcjmppjppmiggaaGreat
open Go.RowKit
set_option linter.unusedVariables false
set_option linter.unusedSimpArgs false

theorem own : ownKnob Tryz.prog.godebug = none := by kernel_rfl
theorem laidOut : laidOutB Tryz.prog = true := by kernel_rfl
end Go.Proofs.YtcjmppjppmiggaaGreat

/- Lemmas and contracts of functions that a statement of this seat stands on; each holds under the premises typed in its head. -/
import Derived.Test.YtdcnaieieggclaaRow
import Derived.Test.YtdcnaieieggclaaRows
import Derived.Test.YtdcnaieieggclaaT4
namespace Go.Proofs.Ytdcnaieieggclaa
open Go.RowKit
set_option linter.unusedVariables false
set_option linter.unusedSimpArgs false

theorem below_two {w wr : World} {o p : Obj} (h : Below (w.heap.size + 2) ((w.alloc o).alloc p) wr) : Below w.heap.size w wr :=
  (((Below.refl _ _).alloc (Nat.le_refl _) _).alloc (by simp) _).trans (h.mono (by omega))
end Go.Proofs.Ytdcnaieieggclaa

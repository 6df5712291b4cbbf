/- Lemmas and contracts of functions that a statement of this seat stands on; each holds under the premises typed in its head. -/
import Derived.Test.YtdcnaieieggclaaTw
namespace Go.Proofs.Ytdcnaieieggclaa
open Go.RowKit
set_option linter.unusedVariables false
set_option linter.unusedSimpArgs false

def Icell (x : Int) : List Value := [.int .i64 x]
def spI : Int := 7777
theorem len_int (xs : List Int) : ∀ x ∈ xs, (Icell x).length = 1 := fun _ _ => rfl
theorem one_int (x : Int) : ∀ (u : Value), u ∈ Icell x → u.oneCell' = true := by
  intro u hu; simp only [Icell, List.mem_cons, List.not_mem_nil, or_false] at hu; rw [hu]; rfl
theorem info_int : (Try.prog.info? 3).map (fun i => (i.zero, i.size, i.bytes)) = some (some (.int .i64 0), 1, 8) := by kernel_rfl
end Go.Proofs.Ytdcnaieieggclaa

/- Lemmas and contracts of functions that a statement of this seat stands on; each holds under the premises typed in its head. -/
import Derived.Test.YtdcnaieieggclaaRows
import Derived.Test.YtdcnaieieggclaaBase
namespace Go.Proofs.Ytdcnaieieggclaa
open Go.RowKit
set_option linter.unusedVariables false
set_option linter.unusedSimpArgs false

set_option maxHeartbeats 400000 in
theorem wrong_any (x : Wr) (w : World) :
    Calls Try.prog 62 #[x.v] w fun e w' => e = .returned (.bool (!wrB x)) ∧ Below w.heap.size w w' := by
  obtain ⟨k, v, d⟩ := x
  have hfin : ∀ (b : Bool) (w' : World), b = (!wrB ⟨k, v, d⟩) → Below w.heap.size w w' → (Ending.returned (.bool b) = .returned (.bool (!wrB ⟨k, v, d⟩)) ∧ Below w.heap.size w w') := fun b w' h h' => ⟨by rw [h], h'⟩
  have Hf := Lib.hid hfin
  clear hfin
  unfold Wr.v
  go_enter Try.func62, Try.ntmps62
  go_wp2
  all_goals go_ret
  all_goals refine Hf.out _ _ ?_ ((Below.refl _ _).alloc (Nat.le_refl _) _)
  all_goals (have nk := toList_nil k; have nv := toList_nil v; clear Hf)
  all_goals (simp only [wrB, keyB, valB, List.isEmpty_iff]; grind)

theorem key_any (k : ByteArray) (w : World) :
    Calls Try.prog 51 #[.string k] w fun e w' => e = .returned (.bool (keyB k)) ∧ w = w' := by
    go_enter Try.func51, Try.ntmps51
    go_wp2
    all_goals go_ret
    all_goals exact ⟨ret_bool (by simp only [keyB]; grind), rfl⟩

theorem val_any (k : ByteArray) (w : World) :
    Calls Try.prog 97 #[.string k] w fun e w' => e = .returned (.bool (valB k)) ∧ w = w' := by
  go_enter Try.func97, Try.ntmps97
  go_wp2
  go_ret
  exact ⟨ret_bool (by simp only [valB]; grind), rfl⟩

def numB (n : Int) : Bool := decide (1 ≤ n) && decide (n ≤ 65536)
theorem num_any (n : Int) (w : World) :
    Calls Try.prog 81 #[.int .i64 n] w fun e w' => e = .returned (.bool (numB n)) ∧ w = w' := by
    go_enter Try.func81, Try.ntmps81
    go_wp2
    all_goals go_ret
    all_goals exact ⟨ret_bool (by simp only [numB]; grind), rfl⟩

set_option maxHeartbeats 400000 in
theorem refwr_any (x : Wr) (w : World) :
    Calls Try.prog 82 #[x.v] w fun e w' => e = .returned (.bool (wrB x)) ∧ Below w.heap.size w w' := by
  obtain ⟨k, v, d⟩ := x
  have hfin : ∀ (b : Bool) (w' : World), b = (wrB ⟨k, v, d⟩) → Below w.heap.size w w' → (Ending.returned (.bool b) = .returned (.bool (wrB ⟨k, v, d⟩)) ∧ Below w.heap.size w w') := fun b w' h h' => ⟨by rw [h], h'⟩
  have Hf := Lib.hid hfin
  clear hfin
  unfold Wr.v
  go_enter Try.func82, Try.ntmps82
  go_wp2_with (first | (go_at_call 51; refine (key_any _ _).mono ?_; rintro e w' ⟨rfl, rfl⟩) | (go_at_call 97; refine (val_any _ _).mono ?_; rintro e w' ⟨rfl, rfl⟩))
  all_goals go_ret
  all_goals refine Hf.out _ _ ?_ ((Below.refl _ _).alloc (Nat.le_refl _) _)
  all_goals (clear Hf)
  all_goals (simp only [wrB] at *; grind)

end Go.Proofs.Ytdcnaieieggclaa

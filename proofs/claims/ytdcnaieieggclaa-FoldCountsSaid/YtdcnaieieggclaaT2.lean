/- Lemmas and contracts of functions that a statement of this seat stands on; each holds under the premises typed in its head. -/
import Derived.Test.YtdcnaieieggclaaT1
namespace Go.Proofs.Ytdcnaieieggclaa
open Go.RowKit
set_option linter.unusedVariables false
set_option linter.unusedSimpArgs false

set_option maxHeartbeats 400000 in
theorem refcheck_any (n : Int) (A : Option Addr) (len cap : Nat) (ws : List Wr) (w : World) (hw : WsAt w w.heap.size A len ws) :
    Calls Try.prog 70 #[.agg #[.int .i64 n, .slice A len cap]] w fun e w' => e = .returned (.int .i64 (errOf (txB n ws))) ∧ Below w.heap.size w w' := by
  have hfin : ∀ (b : Bool) (w' : World), b = txB n ws → Below w.heap.size w w' → (Ending.returned (.int .i64 (errOf b)) = .returned (.int .i64 (errOf (txB n ws))) ∧ Below w.heap.size w w') := fun b w' h h' => ⟨by rw [h], h'⟩
  have Hf := Lib.hid hfin
  have hlen := Lib.hid hw.len
  clear hfin
  go_enter Try.func70, Try.ntmps70
  go_wp2_with (first | (go_at_call 81; refine (num_any _ _).mono ?_; rintro e w' ⟨rfl, rfl⟩))
  · go_ret
    refine Hf.out false _ ?_ ((Below.refl _ _).alloc (Nat.le_refl _) _)
    have := hlen.out
    simp only [txB]; grind
  · go_loopw [3] (fun i wr => ∃ k : Nat, k ≤ len ∧ i = .int .i64 k ∧ (ws.take k).all wrB = true ∧ Below (w.heap.size + 1) (w.alloc (.cells #[.int .i64 n, .slice A len cap] 37)) wr) (fun i _ => len - (intOf i).toNat)
    case atStart => exact ⟨0, Nat.zero_le _, rfl, rfl, Below.refl _ _⟩
    case round =>
      obtain ⟨k, hk, rfl, hall, hb⟩ := hrel
      have Hall := Lib.hid hall
      clear hall
      have hr := hw.below (below_box hb)
      have Hb := Lib.hid hb
      have hs := size_box hb
      have c0 := cell_box hb 0 rfl
      have c1 := cell_box hb 1 rfl
      clear hb
      by_cases hlt : k < len
      · obtain ⟨b, off, x, rfl, hbl, hx, x0, x1, x2⟩ := WsAt.cell3 hr hlt
        have Hx := Lib.hid hx
        clear hx
        go_wp2_with (go_at_call 82; refine (refwr_any x _).mono ?_; rintro e w' ⟨rfl, hb'⟩)
        · go_ret
          refine Hf.out false _ ?_ ((below_box Hb.out).trans (hb'.mono (by omega)))
          have := all_of_not (p := wrB) Hx.out (by simpa using ‹(!wrB x) = true›)
          simp [txB, this]
        · go_roundw
          case rel => exact ⟨k + 1, by omega, by go_num, by rw [all_take_succ Hx.out, Hall.out]; simpa using ‹(!wrB x) = false›, Hb.out.trans (hb'.mono (by omega))⟩
          case measure => simp [intOf]; omega
      · have hkl : k = len := by omega
        go_wp2
        go_ret
        refine Hf.out true _ ?_ (below_box Hb.out)
        have h2 := Hall.out
        have h3 := hlen.out
        rw [List.take_of_length_le (by omega)] at h2
        have h4 := ‹numB n = true›; clear hw hr Hf Hb c0 c1; simp only [txB, h2, numB] at *; grind
  · go_ret
    refine Hf.out false _ ?_ ((Below.refl _ _).alloc (Nat.le_refl _) _)
    simp only [txB, numB] at *; grind
end Go.Proofs.Ytdcnaieieggclaa

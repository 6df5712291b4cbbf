/- XKd: out of XT1 XT2 XT3 XT4 (pick.py). -/
import Derived.Test.YtfafhfjmoijaeaaGreatDoorRt3
import Derived.Test.YtfafhfjmoijaeaaGreatDoorRk
import Derived.Maps.Own
import Derived.Maps.OwnOps
namespace Go.Proofs.YtfafhfjmoijaeaaGreatDoor
open Go.RowKit
set_option linter.unusedVariables false
set_option linter.unusedSimpArgs false

section
open Go.RowKit
set_option linter.unusedVariables false
set_option linter.unusedSimpArgs false

theorem key_any (k : ByteArray) (w : World) :
    Calls Tryz.prog 106 #[.string k] w fun e w' => e = .returned (.bool (keyB k)) ∧ w = w' := by
    go_enter Tryz.func106, Tryz.ntmps106
    go_wp2
    all_goals go_ret
    all_goals exact ⟨ret_bool (by simp only [keyB]; grind), rfl⟩

theorem val_any (k : ByteArray) (w : World) :
    Calls Tryz.prog 107 #[.string k] w fun e w' => e = .returned (.bool (valB k)) ∧ w = w' := by
  go_enter Tryz.func107, Tryz.ntmps107
  go_wp2
  go_ret
  exact ⟨ret_bool (by simp only [valB]; grind), rfl⟩

def numB (n : Int) : Bool := decide (1 ≤ n) && decide (n ≤ 65536)
theorem num_any (n : Int) (w : World) :
    Calls Tryz.prog 97 #[.int .i64 n] w fun e w' => e = .returned (.bool (numB n)) ∧ w = w' := by
    go_enter Tryz.func97, Tryz.ntmps97
    go_wp2
    all_goals go_ret
    all_goals exact ⟨ret_bool (by simp only [numB]; grind), rfl⟩

set_option maxHeartbeats 400000 in
theorem refwr_any (x : Wr) (w : World) :
    Calls Tryz.prog 98 #[x.v] w fun e w' => e = .returned (.bool (wrB x)) ∧ Below w.heap.size w w' := by
  obtain ⟨k, v, d⟩ := x
  have hfin : ∀ (b : Bool) (w' : World), b = (wrB ⟨k, v, d⟩) → Below w.heap.size w w' → (Ending.returned (.bool b) = .returned (.bool (wrB ⟨k, v, d⟩)) ∧ Below w.heap.size w w') := fun b w' h h' => ⟨by rw [h], h'⟩
  have Hf := Lib.hid hfin
  clear hfin
  unfold Wr.v
  go_enter Tryz.func98, Tryz.ntmps98
  go_wp2_with (first | (go_at_call 106; refine (key_any _ _).mono ?_; rintro e w' ⟨rfl, rfl⟩) | (go_at_call 107; refine (val_any _ _).mono ?_; rintro e w' ⟨rfl, rfl⟩))
  all_goals go_ret
  all_goals refine Hf.out _ _ ?_ ((Below.refl _ _).alloc (Nat.le_refl _) _)
  all_goals (clear Hf)
  all_goals (simp only [wrB] at *; grind)

set_option maxHeartbeats 400000 in
theorem refcheck_any (n : Int) (A : Option Addr) (len cap : Nat) (ws : List Wr) (w : World) (hw : WsAt w w.heap.size A len ws) :
    Calls Tryz.prog 62 #[.agg #[.int .i64 n, .slice A len cap]] w fun e w' => e = .returned (.int .i64 (errOf (txB n ws))) ∧ Below w.heap.size w w' := by
  have hfin : ∀ (b : Bool) (w' : World), b = txB n ws → Below w.heap.size w w' → (Ending.returned (.int .i64 (errOf b)) = .returned (.int .i64 (errOf (txB n ws))) ∧ Below w.heap.size w w') := fun b w' h h' => ⟨by rw [h], h'⟩
  have Hf := Lib.hid hfin
  have hlen := Lib.hid hw.len
  clear hfin
  go_enter Tryz.func62, Tryz.ntmps62
  go_wp2_with (first | (go_at_call 97; refine (num_any _ _).mono ?_; rintro e w' ⟨rfl, rfl⟩))
  · go_ret
    refine Hf.out false _ ?_ ((Below.refl _ _).alloc (Nat.le_refl _) _)
    have := hlen.out
    simp only [txB]; grind
  · go_loopw [3] (fun i wr => ∃ k : Nat, k ≤ len ∧ i = .int .i64 k ∧ (ws.take k).all wrB = true ∧ Below (w.heap.size + 1) (w.alloc (.cells #[.int .i64 n, .slice A len cap] 50)) wr) (fun i _ => len - (RowKit.intOf i).toNat)
    case atStart => exact ⟨0, Nat.zero_le _, rfl, rfl, Below.refl _ _⟩
    case round =>
      obtain ⟨k, hk, rfl, hall, hb⟩ := hrel
      have Hall := Lib.hid hall
      clear hall
      have hr := hw.below (below_box hb)
      have Hb := Lib.hid hb
      have hs := size_box hb
      have c0 := cell_box hb 0 rfl
      have c1 := cell_box hb 1 rfl
      clear hb
      by_cases hlt : k < len
      · obtain ⟨b, off, x, rfl, hbl, hx, x0, x1, x2⟩ := WsAt.cell3 hr hlt
        have Hx := Lib.hid hx
        clear hx
        go_wp2_with (go_at_call 98; refine (refwr_any x _).mono ?_; rintro e w' ⟨rfl, hb'⟩)
        · go_ret
          refine Hf.out false _ ?_ ((below_box Hb.out).trans (hb'.mono (by omega)))
          have := all_of_not (p := wrB) Hx.out (by simpa using ‹(!wrB x) = true›)
          simp [txB, this]
        · go_roundw
          case rel => exact ⟨k + 1, by omega, by go_num, by rw [all_take_succ Hx.out, Hall.out]; simpa using ‹(!wrB x) = false›, Hb.out.trans (hb'.mono (by omega))⟩
          case measure => simp [RowKit.intOf]; omega
      · have hkl : k = len := by omega
        go_wp2
        go_ret
        refine Hf.out true _ ?_ (below_box Hb.out)
        have h2 := Hall.out
        have h3 := hlen.out
        rw [List.take_of_length_le (by omega)] at h2
        have h4 := ‹numB n = true›; clear hw hr Hf Hb c0 c1; simp only [txB, h2, numB] at *; grind
  · go_ret
    refine Hf.out false _ ?_ ((Below.refl _ _).alloc (Nat.le_refl _) _)
    simp only [txB, numB] at *; grind
end
end Go.Proofs.YtfafhfjmoijaeaaGreatDoor

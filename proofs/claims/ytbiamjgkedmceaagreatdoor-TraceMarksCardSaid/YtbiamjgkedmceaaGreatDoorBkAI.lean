/- towpathlaw01.Book: Apart, of lists of ints. -/
import Derived.Test.YtbiamjgkedmceaaGreatDoorBkI
namespace Go.Proofs.YtbiamjgkedmceaaGreatDoor
open Go.RowKit
set_option linter.unusedVariables false
set_option linter.unusedSimpArgs false

set_option maxRecDepth 100000
theorem fillByte_nilI (g : Nat) (w : World) (hg : w.cell? ⟨g, 1, none⟩ = some (.slice none 0 0)) : Calls Tryz.prog 11 #[.pointer (some ⟨g, 0, none⟩)] w fun e w' => e = .returned (.tuple #[]) ∧ w = w' := by
  go_enter Tryz.func11, Tryz.ntmps11
  go_wp2_with fail
  go_loopw [2] (fun i wr => i = .int .i64 0 ∧ wr = w) (fun _ _ => 0)
  case atStart => exact ⟨rfl, rfl⟩
  case round =>
    obtain ⟨rfl, rfl⟩ := hrel
    go_wp2_with fail
    exact bodyPost_end (results_none rfl _ _ _) rfl ⟨rfl, rfl⟩
theorem growByte_nilI (g : Nat) (w : World) (hg : w.cell? ⟨g, 1, none⟩ = some (.slice none 0 0)) : Calls Tryz.prog 22 #[.pointer (some ⟨g, 0, none⟩)] w fun e w' => e = .returned (.tuple #[]) ∧ w = w' := by
  go_enter Tryz.func22, Tryz.ntmps22
  go_wp2_with fail
  go_loopw [2] (fun i wr => i = .int .i64 0 ∧ wr = w) (fun _ _ => 0)
  case atStart => exact ⟨rfl, rfl⟩
  case round =>
    obtain ⟨rfl, rfl⟩ := hrel
    go_wp2_with fail
    exact bodyPost_end (results_none rfl _ _ _) rfl ⟨rfl, rfl⟩
theorem lookByte_nilI (g : Nat) (w : World) (hg : w.cell? ⟨g, 1, none⟩ = some (.slice none 0 0)) : Calls Tryz.prog 33 #[.pointer (some ⟨g, 0, none⟩)] w fun e w' => e = .returned (.bool true) ∧ w = w' := by
  go_enter Tryz.func33, Tryz.ntmps33
  go_wp2_with fail
  go_loopw [3] (fun i wr => i = .int .i64 0 ∧ wr = w) (fun _ _ => 0)
  case atStart => exact ⟨rfl, rfl⟩
  case round =>
    obtain ⟨rfl, rfl⟩ := hrel
    go_wp2_with fail
    go_ret
    exact ⟨rfl, rfl⟩
theorem fillText_nilI (g : Nat) (w : World) (hg : w.cell? ⟨g, 3, none⟩ = some (.slice none 0 0)) : Calls Tryz.prog 13 #[.pointer (some ⟨g, 0, none⟩)] w fun e w' => e = .returned (.tuple #[]) ∧ w = w' := by
  go_enter Tryz.func13, Tryz.ntmps13
  go_wp2_with fail
  go_loopw [2] (fun i wr => i = .int .i64 0 ∧ wr = w) (fun _ _ => 0)
  case atStart => exact ⟨rfl, rfl⟩
  case round =>
    obtain ⟨rfl, rfl⟩ := hrel
    go_wp2_with fail
    exact bodyPost_end (results_none rfl _ _ _) rfl ⟨rfl, rfl⟩
theorem growText_nilI (g : Nat) (w : World) (hg : w.cell? ⟨g, 3, none⟩ = some (.slice none 0 0)) : Calls Tryz.prog 24 #[.pointer (some ⟨g, 0, none⟩)] w fun e w' => e = .returned (.tuple #[]) ∧ w = w' := by
  go_enter Tryz.func24, Tryz.ntmps24
  go_wp2_with fail
  go_loopw [2] (fun i wr => i = .int .i64 0 ∧ wr = w) (fun _ _ => 0)
  case atStart => exact ⟨rfl, rfl⟩
  case round =>
    obtain ⟨rfl, rfl⟩ := hrel
    go_wp2_with fail
    exact bodyPost_end (results_none rfl _ _ _) rfl ⟨rfl, rfl⟩
theorem lookText_nilI (g : Nat) (w : World) (hg : w.cell? ⟨g, 3, none⟩ = some (.slice none 0 0)) : Calls Tryz.prog 35 #[.pointer (some ⟨g, 0, none⟩)] w fun e w' => e = .returned (.bool true) ∧ w = w' := by
  go_enter Tryz.func35, Tryz.ntmps35
  go_wp2_with fail
  go_loopw [3] (fun i wr => i = .int .i64 0 ∧ wr = w) (fun _ _ => 0)
  case atStart => exact ⟨rfl, rfl⟩
  case round =>
    obtain ⟨rfl, rfl⟩ := hrel
    go_wp2_with fail
    go_ret
    exact ⟨rfl, rfl⟩
theorem fillWrite_nilI (g : Nat) (w : World) (hg : w.cell? ⟨g, 4, none⟩ = some (.slice none 0 0)) : Calls Tryz.prog 14 #[.pointer (some ⟨g, 0, none⟩)] w fun e w' => e = .returned (.tuple #[]) ∧ w = w' := by
  go_enter Tryz.func14, Tryz.ntmps14
  go_wp2_with fail
  go_loopw [2] (fun i wr => i = .int .i64 0 ∧ wr = w) (fun _ _ => 0)
  case atStart => exact ⟨rfl, rfl⟩
  case round =>
    obtain ⟨rfl, rfl⟩ := hrel
    go_wp2_with fail
    exact bodyPost_end (results_none rfl _ _ _) rfl ⟨rfl, rfl⟩
theorem growWrite_nilI (g : Nat) (w : World) (hg : w.cell? ⟨g, 4, none⟩ = some (.slice none 0 0)) : Calls Tryz.prog 25 #[.pointer (some ⟨g, 0, none⟩)] w fun e w' => e = .returned (.tuple #[]) ∧ w = w' := by
  go_enter Tryz.func25, Tryz.ntmps25
  go_wp2_with fail
  go_loopw [2] (fun i wr => i = .int .i64 0 ∧ wr = w) (fun _ _ => 0)
  case atStart => exact ⟨rfl, rfl⟩
  case round =>
    obtain ⟨rfl, rfl⟩ := hrel
    go_wp2_with fail
    exact bodyPost_end (results_none rfl _ _ _) rfl ⟨rfl, rfl⟩
theorem lookWrite_nilI (g : Nat) (w : World) (hg : w.cell? ⟨g, 4, none⟩ = some (.slice none 0 0)) : Calls Tryz.prog 36 #[.pointer (some ⟨g, 0, none⟩)] w fun e w' => e = .returned (.bool true) ∧ w = w' := by
  go_enter Tryz.func36, Tryz.ntmps36
  go_wp2_with fail
  go_loopw [3] (fun i wr => i = .int .i64 0 ∧ wr = w) (fun _ _ => 0)
  case atStart => exact ⟨rfl, rfl⟩
  case round =>
    obtain ⟨rfl, rfl⟩ := hrel
    go_wp2_with fail
    go_ret
    exact ⟨rfl, rfl⟩
theorem fillEntry_nilI (g : Nat) (w : World) (hg : w.cell? ⟨g, 5, none⟩ = some (.slice none 0 0)) : Calls Tryz.prog 15 #[.pointer (some ⟨g, 0, none⟩)] w fun e w' => e = .returned (.tuple #[]) ∧ w = w' := by
  go_enter Tryz.func15, Tryz.ntmps15
  go_wp2_with fail
  go_loopw [2] (fun i wr => i = .int .i64 0 ∧ wr = w) (fun _ _ => 0)
  case atStart => exact ⟨rfl, rfl⟩
  case round =>
    obtain ⟨rfl, rfl⟩ := hrel
    go_wp2_with fail
    exact bodyPost_end (results_none rfl _ _ _) rfl ⟨rfl, rfl⟩
theorem growEntry_nilI (g : Nat) (w : World) (hg : w.cell? ⟨g, 5, none⟩ = some (.slice none 0 0)) : Calls Tryz.prog 26 #[.pointer (some ⟨g, 0, none⟩)] w fun e w' => e = .returned (.tuple #[]) ∧ w = w' := by
  go_enter Tryz.func26, Tryz.ntmps26
  go_wp2_with fail
  go_loopw [2] (fun i wr => i = .int .i64 0 ∧ wr = w) (fun _ _ => 0)
  case atStart => exact ⟨rfl, rfl⟩
  case round =>
    obtain ⟨rfl, rfl⟩ := hrel
    go_wp2_with fail
    exact bodyPost_end (results_none rfl _ _ _) rfl ⟨rfl, rfl⟩
theorem lookEntry_nilI (g : Nat) (w : World) (hg : w.cell? ⟨g, 5, none⟩ = some (.slice none 0 0)) : Calls Tryz.prog 37 #[.pointer (some ⟨g, 0, none⟩)] w fun e w' => e = .returned (.bool true) ∧ w = w' := by
  go_enter Tryz.func37, Tryz.ntmps37
  go_wp2_with fail
  go_loopw [3] (fun i wr => i = .int .i64 0 ∧ wr = w) (fun _ _ => 0)
  case atStart => exact ⟨rfl, rfl⟩
  case round =>
    obtain ⟨rfl, rfl⟩ := hrel
    go_wp2_with fail
    go_ret
    exact ⟨rfl, rfl⟩
theorem fillVersion_nilI (g : Nat) (w : World) (hg : w.cell? ⟨g, 6, none⟩ = some (.slice none 0 0)) : Calls Tryz.prog 16 #[.pointer (some ⟨g, 0, none⟩)] w fun e w' => e = .returned (.tuple #[]) ∧ w = w' := by
  go_enter Tryz.func16, Tryz.ntmps16
  go_wp2_with fail
  go_loopw [2] (fun i wr => i = .int .i64 0 ∧ wr = w) (fun _ _ => 0)
  case atStart => exact ⟨rfl, rfl⟩
  case round =>
    obtain ⟨rfl, rfl⟩ := hrel
    go_wp2_with fail
    exact bodyPost_end (results_none rfl _ _ _) rfl ⟨rfl, rfl⟩
theorem growVersion_nilI (g : Nat) (w : World) (hg : w.cell? ⟨g, 6, none⟩ = some (.slice none 0 0)) : Calls Tryz.prog 27 #[.pointer (some ⟨g, 0, none⟩)] w fun e w' => e = .returned (.tuple #[]) ∧ w = w' := by
  go_enter Tryz.func27, Tryz.ntmps27
  go_wp2_with fail
  go_loopw [2] (fun i wr => i = .int .i64 0 ∧ wr = w) (fun _ _ => 0)
  case atStart => exact ⟨rfl, rfl⟩
  case round =>
    obtain ⟨rfl, rfl⟩ := hrel
    go_wp2_with fail
    exact bodyPost_end (results_none rfl _ _ _) rfl ⟨rfl, rfl⟩
theorem lookVersion_nilI (g : Nat) (w : World) (hg : w.cell? ⟨g, 6, none⟩ = some (.slice none 0 0)) : Calls Tryz.prog 38 #[.pointer (some ⟨g, 0, none⟩)] w fun e w' => e = .returned (.bool true) ∧ w = w' := by
  go_enter Tryz.func38, Tryz.ntmps38
  go_wp2_with fail
  go_loopw [3] (fun i wr => i = .int .i64 0 ∧ wr = w) (fun _ _ => 0)
  case atStart => exact ⟨rfl, rfl⟩
  case round =>
    obtain ⟨rfl, rfl⟩ := hrel
    go_wp2_with fail
    go_ret
    exact ⟨rfl, rfl⟩
theorem fillTxn_nilI (g : Nat) (w : World) (hg : w.cell? ⟨g, 7, none⟩ = some (.slice none 0 0)) : Calls Tryz.prog 17 #[.pointer (some ⟨g, 0, none⟩)] w fun e w' => e = .returned (.tuple #[]) ∧ w = w' := by
  go_enter Tryz.func17, Tryz.ntmps17
  go_wp2_with fail
  go_loopw [2] (fun i wr => i = .int .i64 0 ∧ wr = w) (fun _ _ => 0)
  case atStart => exact ⟨rfl, rfl⟩
  case round =>
    obtain ⟨rfl, rfl⟩ := hrel
    go_wp2_with fail
    exact bodyPost_end (results_none rfl _ _ _) rfl ⟨rfl, rfl⟩
theorem growTxn_nilI (g : Nat) (w : World) (hg : w.cell? ⟨g, 7, none⟩ = some (.slice none 0 0)) : Calls Tryz.prog 28 #[.pointer (some ⟨g, 0, none⟩)] w fun e w' => e = .returned (.tuple #[]) ∧ w = w' := by
  go_enter Tryz.func28, Tryz.ntmps28
  go_wp2_with fail
  go_loopw [2] (fun i wr => i = .int .i64 0 ∧ wr = w) (fun _ _ => 0)
  case atStart => exact ⟨rfl, rfl⟩
  case round =>
    obtain ⟨rfl, rfl⟩ := hrel
    go_wp2_with fail
    exact bodyPost_end (results_none rfl _ _ _) rfl ⟨rfl, rfl⟩
theorem lookTxn_nilI (g : Nat) (w : World) (hg : w.cell? ⟨g, 7, none⟩ = some (.slice none 0 0)) : Calls Tryz.prog 39 #[.pointer (some ⟨g, 0, none⟩)] w fun e w' => e = .returned (.bool true) ∧ w = w' := by
  go_enter Tryz.func39, Tryz.ntmps39
  go_wp2_with fail
  go_loopw [3] (fun i wr => i = .int .i64 0 ∧ wr = w) (fun _ _ => 0)
  case atStart => exact ⟨rfl, rfl⟩
  case round =>
    obtain ⟨rfl, rfl⟩ := hrel
    go_wp2_with fail
    go_ret
    exact ⟨rfl, rfl⟩
theorem fillHeld_nilI (g : Nat) (w : World) (hg : w.cell? ⟨g, 8, none⟩ = some (.slice none 0 0)) : Calls Tryz.prog 18 #[.pointer (some ⟨g, 0, none⟩)] w fun e w' => e = .returned (.tuple #[]) ∧ w = w' := by
  go_enter Tryz.func18, Tryz.ntmps18
  go_wp2_with fail
  go_loopw [2] (fun i wr => i = .int .i64 0 ∧ wr = w) (fun _ _ => 0)
  case atStart => exact ⟨rfl, rfl⟩
  case round =>
    obtain ⟨rfl, rfl⟩ := hrel
    go_wp2_with fail
    exact bodyPost_end (results_none rfl _ _ _) rfl ⟨rfl, rfl⟩
theorem growHeld_nilI (g : Nat) (w : World) (hg : w.cell? ⟨g, 8, none⟩ = some (.slice none 0 0)) : Calls Tryz.prog 29 #[.pointer (some ⟨g, 0, none⟩)] w fun e w' => e = .returned (.tuple #[]) ∧ w = w' := by
  go_enter Tryz.func29, Tryz.ntmps29
  go_wp2_with fail
  go_loopw [2] (fun i wr => i = .int .i64 0 ∧ wr = w) (fun _ _ => 0)
  case atStart => exact ⟨rfl, rfl⟩
  case round =>
    obtain ⟨rfl, rfl⟩ := hrel
    go_wp2_with fail
    exact bodyPost_end (results_none rfl _ _ _) rfl ⟨rfl, rfl⟩
theorem lookHeld_nilI (g : Nat) (w : World) (hg : w.cell? ⟨g, 8, none⟩ = some (.slice none 0 0)) : Calls Tryz.prog 40 #[.pointer (some ⟨g, 0, none⟩)] w fun e w' => e = .returned (.bool true) ∧ w = w' := by
  go_enter Tryz.func40, Tryz.ntmps40
  go_wp2_with fail
  go_loopw [3] (fun i wr => i = .int .i64 0 ∧ wr = w) (fun _ _ => 0)
  case atStart => exact ⟨rfl, rfl⟩
  case round =>
    obtain ⟨rfl, rfl⟩ := hrel
    go_wp2_with fail
    go_ret
    exact ⟨rfl, rfl⟩
theorem fillHeldList_nilI (g : Nat) (w : World) (hg : w.cell? ⟨g, 9, none⟩ = some (.slice none 0 0)) : Calls Tryz.prog 19 #[.pointer (some ⟨g, 0, none⟩)] w fun e w' => e = .returned (.tuple #[]) ∧ w = w' := by
  go_enter Tryz.func19, Tryz.ntmps19
  go_wp2_with fail
  go_loopw [2] (fun i wr => i = .int .i64 0 ∧ wr = w) (fun _ _ => 0)
  case atStart => exact ⟨rfl, rfl⟩
  case round =>
    obtain ⟨rfl, rfl⟩ := hrel
    go_wp2_with fail
    exact bodyPost_end (results_none rfl _ _ _) rfl ⟨rfl, rfl⟩
theorem growHeldList_nilI (g : Nat) (w : World) (hg : w.cell? ⟨g, 9, none⟩ = some (.slice none 0 0)) : Calls Tryz.prog 30 #[.pointer (some ⟨g, 0, none⟩)] w fun e w' => e = .returned (.tuple #[]) ∧ w = w' := by
  go_enter Tryz.func30, Tryz.ntmps30
  go_wp2_with fail
  go_loopw [2] (fun i wr => i = .int .i64 0 ∧ wr = w) (fun _ _ => 0)
  case atStart => exact ⟨rfl, rfl⟩
  case round =>
    obtain ⟨rfl, rfl⟩ := hrel
    go_wp2_with fail
    exact bodyPost_end (results_none rfl _ _ _) rfl ⟨rfl, rfl⟩
theorem lookHeldList_nilI (g : Nat) (w : World) (hg : w.cell? ⟨g, 9, none⟩ = some (.slice none 0 0)) : Calls Tryz.prog 41 #[.pointer (some ⟨g, 0, none⟩)] w fun e w' => e = .returned (.bool true) ∧ w = w' := by
  go_enter Tryz.func41, Tryz.ntmps41
  go_wp2_with fail
  go_loopw [3] (fun i wr => i = .int .i64 0 ∧ wr = w) (fun _ _ => 0)
  case atStart => exact ⟨rfl, rfl⟩
  case round =>
    obtain ⟨rfl, rfl⟩ := hrel
    go_wp2_with fail
    go_ret
    exact ⟨rfl, rfl⟩
theorem fillEvent_nilI (g : Nat) (w : World) (hg : w.cell? ⟨g, 10, none⟩ = some (.slice none 0 0)) : Calls Tryz.prog 20 #[.pointer (some ⟨g, 0, none⟩)] w fun e w' => e = .returned (.tuple #[]) ∧ w = w' := by
  go_enter Tryz.func20, Tryz.ntmps20
  go_wp2_with fail
  go_loopw [2] (fun i wr => i = .int .i64 0 ∧ wr = w) (fun _ _ => 0)
  case atStart => exact ⟨rfl, rfl⟩
  case round =>
    obtain ⟨rfl, rfl⟩ := hrel
    go_wp2_with fail
    exact bodyPost_end (results_none rfl _ _ _) rfl ⟨rfl, rfl⟩
theorem growEvent_nilI (g : Nat) (w : World) (hg : w.cell? ⟨g, 10, none⟩ = some (.slice none 0 0)) : Calls Tryz.prog 31 #[.pointer (some ⟨g, 0, none⟩)] w fun e w' => e = .returned (.tuple #[]) ∧ w = w' := by
  go_enter Tryz.func31, Tryz.ntmps31
  go_wp2_with fail
  go_loopw [2] (fun i wr => i = .int .i64 0 ∧ wr = w) (fun _ _ => 0)
  case atStart => exact ⟨rfl, rfl⟩
  case round =>
    obtain ⟨rfl, rfl⟩ := hrel
    go_wp2_with fail
    exact bodyPost_end (results_none rfl _ _ _) rfl ⟨rfl, rfl⟩
theorem lookEvent_nilI (g : Nat) (w : World) (hg : w.cell? ⟨g, 10, none⟩ = some (.slice none 0 0)) : Calls Tryz.prog 42 #[.pointer (some ⟨g, 0, none⟩)] w fun e w' => e = .returned (.bool true) ∧ w = w' := by
  go_enter Tryz.func42, Tryz.ntmps42
  go_wp2_with fail
  go_loopw [3] (fun i wr => i = .int .i64 0 ∧ wr = w) (fun _ _ => 0)
  case atStart => exact ⟨rfl, rfl⟩
  case round =>
    obtain ⟨rfl, rfl⟩ := hrel
    go_wp2_with fail
    go_ret
    exact ⟨rfl, rfl⟩
theorem fillAnswer_nilI (g : Nat) (w : World) (hg : w.cell? ⟨g, 11, none⟩ = some (.slice none 0 0)) : Calls Tryz.prog 21 #[.pointer (some ⟨g, 0, none⟩)] w fun e w' => e = .returned (.tuple #[]) ∧ w = w' := by
  go_enter Tryz.func21, Tryz.ntmps21
  go_wp2_with fail
  go_loopw [2] (fun i wr => i = .int .i64 0 ∧ wr = w) (fun _ _ => 0)
  case atStart => exact ⟨rfl, rfl⟩
  case round =>
    obtain ⟨rfl, rfl⟩ := hrel
    go_wp2_with fail
    exact bodyPost_end (results_none rfl _ _ _) rfl ⟨rfl, rfl⟩
theorem growAnswer_nilI (g : Nat) (w : World) (hg : w.cell? ⟨g, 11, none⟩ = some (.slice none 0 0)) : Calls Tryz.prog 32 #[.pointer (some ⟨g, 0, none⟩)] w fun e w' => e = .returned (.tuple #[]) ∧ w = w' := by
  go_enter Tryz.func32, Tryz.ntmps32
  go_wp2_with fail
  go_loopw [2] (fun i wr => i = .int .i64 0 ∧ wr = w) (fun _ _ => 0)
  case atStart => exact ⟨rfl, rfl⟩
  case round =>
    obtain ⟨rfl, rfl⟩ := hrel
    go_wp2_with fail
    exact bodyPost_end (results_none rfl _ _ _) rfl ⟨rfl, rfl⟩
theorem lookAnswer_nilI (g : Nat) (w : World) (hg : w.cell? ⟨g, 11, none⟩ = some (.slice none 0 0)) : Calls Tryz.prog 43 #[.pointer (some ⟨g, 0, none⟩)] w fun e w' => e = .returned (.bool true) ∧ w = w' := by
  go_enter Tryz.func43, Tryz.ntmps43
  go_wp2_with fail
  go_loopw [3] (fun i wr => i = .int .i64 0 ∧ wr = w) (fun _ _ => 0)
  case atStart => exact ⟨rfl, rfl⟩
  case round =>
    obtain ⟨rfl, rfl⟩ := hrel
    go_wp2_with fail
    go_ret
    exact ⟨rfl, rfl⟩
/-- A book that lies in g: it has been told so many lists. -/
structure BkAtI (w : World) (g Bo cnt : Nat) (xInt : List BkE) : Prop where
  lo : Bo ≤ g ∧ Bo ≤ w.heap.size
  num : cnt ≤ 1152921504606846976
  st : ∃ cs, w.heap[g]? = some (.cells cs 38 (0, 0)) ∧ cs.size = 12 ∧ cs[0]? = some (.int .i64 cnt) ∧ cs[1]? = some (.slice none 0 0) ∧ cs[3]? = some (.slice none 0 0) ∧ cs[4]? = some (.slice none 0 0) ∧ cs[5]? = some (.slice none 0 0) ∧ cs[6]? = some (.slice none 0 0) ∧ cs[7]? = some (.slice none 0 0) ∧ cs[8]? = some (.slice none 0 0) ∧ cs[9]? = some (.slice none 0 0) ∧ cs[10]? = some (.slice none 0 0) ∧ cs[11]? = some (.slice none 0 0) ∧ KdQ 61 2 (fun w e => P0 mkInt 1 3 17592186044345 w Bo e) w Bo cs xInt
  lInt : xInt.length ≤ 2199023255552
/-- No block of a book, of its own lists, of the lists that it was told. -/
def FarBI (w : World) (g : Nat) (xInt : List BkE) (b : Nat) : Prop := b ≠ g ∧ ¬ InE xInt b ∧ (∀ cs, w.heap[b]? ≠ some (.cells cs 61 (0, 0)))
theorem BkAtI.kept {w w' : World} {g Bo cnt : Nat} {xInt : List BkE} {X : Nat → Prop} (h : BkAtI w g Bo cnt xInt) (k : Kept w w' X) (hX : ∀ b, X b → FarBI w g xInt b) : BkAtI w' g Bo cnt xInt := by
  obtain ⟨lo, num, ⟨cs, hg, hz, h0, nByte, nText, nWrite, nEntry, nVersion, nTxn, nHeld, nHeldList, nEvent, nAnswer, kInt⟩, lInt⟩ := h
  refine ⟨⟨lo.1, Nat.le_trans lo.2 k.size⟩, num, ⟨cs, k.blk hg (blk_lt hg) (fun hx => (hX _ hx).1 rfl), hz, h0, nByte, nText, nWrite, nEntry, nVersion, nTxn, nHeld, nHeldList, nEvent, nAnswer, ?_⟩, lInt⟩
  · obtain ⟨SA, sc, q1, q2, q3, q4⟩ := kInt
    exact ⟨SA, sc, q1, q2.kept k (fun a ea hx => by obtain ⟨c, hc⟩ := q2.ty ea; exact (hX _ hx).2.2 c hc), fun e he => (q3 e he).more k (fun a ea hx => (hX _ hx).2.1 ⟨e, he, a, ea, rfl⟩), q4⟩
set_option maxHeartbeats 2000000 in
theorem tellIntI_any (g Bo cnt : Nat) (xInt : List BkE) (A : Option Addr) (len cap : Nat) (w : World) (h : BkAtI w g Bo cnt xInt) (hp : P0 mkInt 1 3 17592186044345 w Bo ⟨A, len, cap, cnt + 1, none, 0, 0⟩) (hd : ∀ e ∈ xInt, ∀ a c, e.A = some a → A = some c → a.block ≠ c.block) (hc : cnt + 1 ≤ 1152921504606846976) (hl : xInt.length + 1 ≤ 2199023255552) :
    Calls Tryz.prog 10 #[.pointer (some ⟨g, 0, none⟩), .slice A len cap] w fun e w' => e = .returned (.tuple #[]) ∧ BkAtI w' g Bo (cnt + 1) (xInt ++ [⟨A, len, cap, cnt + 1, none, 0, 0⟩]) ∧ Kept w w' (fun b => b = g ∨ ∃ cs, w.heap[b]? = some (.cells cs 61 (0, 0))) ∧ Below Bo w w' := by
  obtain ⟨lo, num, ⟨cs, hg, hz, h0, nByte, nText, nWrite, nEntry, nVersion, nTxn, nHeld, nHeldList, nEvent, nAnswer, kInt⟩, lInt⟩ := h
  obtain ⟨SA, sc, q1, q2, q3, q4⟩ := kInt
  refine (keepInt_any g Bo cnt cs xInt SA sc A len cap w hg hz h0 q1 q2 lo.2 (by omega) num).mono fun e w' he => ?_
  obtain ⟨rfl, SA', sc', g1, g2, g3, g4⟩ := he
  have hX : ∀ b, (b = g ∨ ∃ a, SA = some a ∧ b = a.block) → ∃ c t, w.heap[b]? = some (.cells c t (0, 0)) ∧ (t = 38 ∨ t = 61) := fun b hb => by
    rcases hb with rfl | ⟨a, ea, rfl⟩
    · exact ⟨_, _, hg, Or.inl rfl⟩
    · obtain ⟨c, hc⟩ := q2.ty ea; exact ⟨c, _, hc, Or.inr rfl⟩
  refine ⟨rfl, ⟨⟨lo.1, Nat.le_trans lo.2 g3.size⟩, hc, ⟨_, g1, by simp [hz], by rw [Array.getElem?_setIfInBounds_ne (by omega), Array.getElem?_setIfInBounds_self_of_lt (by rw [hz]; omega)], by rw [Array.getElem?_setIfInBounds_ne (by omega), Array.getElem?_setIfInBounds_ne (by omega)]; exact nByte, by rw [Array.getElem?_setIfInBounds_ne (by omega), Array.getElem?_setIfInBounds_ne (by omega)]; exact nText, by rw [Array.getElem?_setIfInBounds_ne (by omega), Array.getElem?_setIfInBounds_ne (by omega)]; exact nWrite, by rw [Array.getElem?_setIfInBounds_ne (by omega), Array.getElem?_setIfInBounds_ne (by omega)]; exact nEntry, by rw [Array.getElem?_setIfInBounds_ne (by omega), Array.getElem?_setIfInBounds_ne (by omega)]; exact nVersion, by rw [Array.getElem?_setIfInBounds_ne (by omega), Array.getElem?_setIfInBounds_ne (by omega)]; exact nTxn, by rw [Array.getElem?_setIfInBounds_ne (by omega), Array.getElem?_setIfInBounds_ne (by omega)]; exact nHeld, by rw [Array.getElem?_setIfInBounds_ne (by omega), Array.getElem?_setIfInBounds_ne (by omega)]; exact nHeldList, by rw [Array.getElem?_setIfInBounds_ne (by omega), Array.getElem?_setIfInBounds_ne (by omega)]; exact nEvent, by rw [Array.getElem?_setIfInBounds_ne (by omega), Array.getElem?_setIfInBounds_ne (by omega)]; exact nAnswer, ?_⟩, by simpa using hl⟩, ?_, ?_⟩
  · refine ⟨SA', sc', by rw [Array.getElem?_setIfInBounds_self_of_lt (by simp [hz])]; simp, by simpa using g2, fun e he => ?_, ?_⟩
    · rcases List.mem_append.1 he with he | he
      · exact (q3 e he).more g3 (fun a ea hx => by obtain ⟨c1, h1⟩ := (q3 e he).tk.ty ea; obtain ⟨c2, t2, h2, rfl | rfl⟩ := hX _ hx <;> exact blk_ne2 h1 h2 (by decide) rfl)
      · simp at he; subst he
        exact hp.more g3 (fun a ea hx => by obtain ⟨c1, h1⟩ := hp.tk.ty ea; obtain ⟨c2, t2, h2, rfl | rfl⟩ := hX _ hx <;> exact blk_ne2 h1 h2 (by decide) rfl)
    · refine List.pairwise_append.2 ⟨q4, List.pairwise_singleton _ _, fun e he f hf a c ea ec => ?_⟩
      simp at hf; subst hf
      exact hd e he a c ea ec
  · exact g3.mono fun b hb => hb.imp id (fun ⟨a, ea, eb⟩ => by rw [eb]; exact q2.ty ea)
  · exact g3.below lo.2 (fun b hb => by rcases hb with rfl | ⟨a, ea, rfl⟩; exact lo.1; exact (q2.lt ea).1)
set_option maxHeartbeats 16000000 in
theorem apartI_any (g Bo cnt : Nat) (xInt : List BkE) (w : World) (h : BkAtI w g Bo cnt xInt) (hT : TabB Tryz.prog Bo w) :
    Calls Tryz.prog 8 #[.pointer (some ⟨g, 0, none⟩)] w fun e w' => e = .returned (.bool true) ∧ Kept w w' (fun b => InE xInt b ∨ (∃ cs, w.heap[b]? = some (.cells cs 61 (0, 0)))) ∧ Below Bo w w' := by
  have HT := Lib.hid hT
  obtain ⟨⟨lo1, lo2⟩, num, ⟨cs, hg, hz, h0, nByte, nText, nWrite, nEntry, nVersion, nTxn, nHeld, nHeldList, nEvent, nAnswer, kInt⟩, lInt⟩ := h
  obtain ⟨SAInt, scInt, fInt, sInt, qInt, dInt⟩ := kInt
  have HFInt := Lib.hid fInt
  have HSInt_0 := Lib.hid sInt
  have HQInt_0 := Lib.hid qInt
  have HDInt := Lib.hid dInt
  obtain ⟨X, hX⟩ : ∃ X : Nat → Prop, X = fun b => InE xInt b ∨ (∃ a, SAInt = some a ∧ b = a.block) := ⟨_, rfl⟩
  have HXl : Hid (∀ b, X b → Bo ≤ b) := Lib.hid (fun b hb => by
    rw [hX] at hb
    rcases hb with hb | ⟨a, ea, rfl⟩
    · exact InE.lo (fun e he a ha => ((qInt e he).tk.lt ha).1) b hb
    · exact (sInt.lt ea).1)
  have HXiInt : Hid (∀ b, InE xInt b → X b) := Lib.hid (fun b hb => by rw [hX]; exact Or.inl hb)
  have HXsInt : Hid (∀ b, (∃ a, SAInt = some a ∧ b = a.block) → X b) := Lib.hid (fun b hb => by rw [hX]; exact Or.inr (hb))
  have HXe : Hid (∀ b, X b → InE xInt b ∨ (∃ cs, w.heap[b]? = some (.cells cs 61 (0, 0)))) := Lib.hid (fun b hb => by
    rw [hX] at hb
    rcases hb with hb | ⟨a, ea, rfl⟩
    · exact Or.inl hb
    · exact Or.inr ((sInt.ty ea)))
  have HG_0 := Lib.hid hg
  have HK_0 : Hid (Kept w w X) := Lib.hid (Kept.refl _ _)
  have HNByte := Lib.hid nByte
  have HNText := Lib.hid nText
  have HNWrite := Lib.hid nWrite
  have HNEntry := Lib.hid nEntry
  have HNVersion := Lib.hid nVersion
  have HNTxn := Lib.hid nTxn
  have HNHeld := Lib.hid nHeld
  have HNHeldList := Lib.hid nHeldList
  have HNEvent := Lib.hid nEvent
  have HNAnswer := Lib.hid nAnswer
  clear hg hT hX h0 hz nByte nText nWrite nEntry nVersion nTxn nHeld nHeldList nEvent nAnswer fInt sInt qInt dInt
  go_enter Tryz.func8, Tryz.ntmps8
  go_wp2_with fail
  refine (fillByte_nilI g _ ((blk_cell HG_0.out 1).trans HNByte.out)).mono ?_
  rintro e wz ⟨rfl, rfl⟩
  go_wp2_with fail
  refine (fillInt_any g Bo xInt SAInt scInt _ ⟨cs, HG_0.out, HFInt.out⟩ HSInt_0.out HQInt_0.out HDInt.out (Nat.le_trans lo2 HK_0.out.size) (HT.out.next (HK_0.out.below lo2 HXl.out)) (by omega)).mono ?_
  rintro e w1 ⟨rfl, hk, hq⟩
  have hxx : ∀ b, InE xInt b → ∃ c, w.heap[b]? = some (.cells c 3 (0, 0)) := fun b ⟨e, he, a, ha, hb⟩ => by rw [hb]; exact (HQInt_0.out e he).tk.ty ha
  have HK_1 : Hid (Kept w w1 X) := Lib.hid (HK_0.out.trans (hk.mono HXiInt.out))
  have HG_1 : Hid (w1.heap[g]? = some (.cells cs 38 (0, 0))) := Lib.hid (hk.blk HG_0.out (blk_lt HG_0.out) (fun hx => by have h1 := HG_0.out; obtain ⟨c2, h2⟩ := hxx _ hx; exact blk_ne2 h1 h2 (by decide) rfl))
  have HSInt_1 := Lib.hid (HSInt_0.out.kept hk (fun a ea hx => by obtain ⟨c1, h1⟩ := HSInt_0.out.ty ea; obtain ⟨c2, h2⟩ := hxx _ hx; exact blk_ne2 h1 h2 (by decide) rfl))
  have HQInt_1 : Hid (∀ e ∈ xInt, e.len ≤ 17592186044345 ∧ e.n ≤ 1152921504606846976 ∧ P1 mkInt 1 3 w1 Bo e) := Lib.hid (fun e he => ⟨(HQInt_0.out e he).lim, (HQInt_0.out e he).num, hq e he⟩)
  clear hk hxx hq HG_0 HK_0 HSInt_0 HQInt_0
  go_wp2_with fail
  refine (fillText_nilI g _ ((blk_cell HG_1.out 3).trans HNText.out)).mono ?_
  rintro e wz ⟨rfl, rfl⟩
  go_wp2_with fail
  refine (fillWrite_nilI g _ ((blk_cell HG_1.out 4).trans HNWrite.out)).mono ?_
  rintro e wz ⟨rfl, rfl⟩
  go_wp2_with fail
  refine (fillEntry_nilI g _ ((blk_cell HG_1.out 5).trans HNEntry.out)).mono ?_
  rintro e wz ⟨rfl, rfl⟩
  go_wp2_with fail
  refine (fillVersion_nilI g _ ((blk_cell HG_1.out 6).trans HNVersion.out)).mono ?_
  rintro e wz ⟨rfl, rfl⟩
  go_wp2_with fail
  refine (fillTxn_nilI g _ ((blk_cell HG_1.out 7).trans HNTxn.out)).mono ?_
  rintro e wz ⟨rfl, rfl⟩
  go_wp2_with fail
  refine (fillHeld_nilI g _ ((blk_cell HG_1.out 8).trans HNHeld.out)).mono ?_
  rintro e wz ⟨rfl, rfl⟩
  go_wp2_with fail
  refine (fillHeldList_nilI g _ ((blk_cell HG_1.out 9).trans HNHeldList.out)).mono ?_
  rintro e wz ⟨rfl, rfl⟩
  go_wp2_with fail
  refine (fillEvent_nilI g _ ((blk_cell HG_1.out 10).trans HNEvent.out)).mono ?_
  rintro e wz ⟨rfl, rfl⟩
  go_wp2_with fail
  refine (fillAnswer_nilI g _ ((blk_cell HG_1.out 11).trans HNAnswer.out)).mono ?_
  rintro e wz ⟨rfl, rfl⟩
  go_wp2_with fail
  refine (growByte_nilI g _ ((blk_cell HG_1.out 1).trans HNByte.out)).mono ?_
  rintro e wz ⟨rfl, rfl⟩
  go_wp2_with fail
  refine (growInt_any g Bo xInt SAInt scInt _ ⟨cs, HG_1.out, HFInt.out⟩ HSInt_1.out HQInt_1.out HDInt.out (Nat.le_trans lo2 HK_1.out.size) (HT.out.next (HK_1.out.below lo2 HXl.out)) (by omega)).mono ?_
  rintro e w2 ⟨rfl, hk, yInt, hylInt, hys, hyq⟩
  have hxx : ∀ b, (InE xInt b ∨ ∃ a, SAInt = some a ∧ b = a.block) → ∃ c t, w1.heap[b]? = some (.cells c t (0, 0)) ∧ (t = 3 ∨ t = 61) := fun b hb => by
    rcases hb with ⟨e, he, a, ha, rfl⟩ | ⟨a, ea, rfl⟩
    · obtain ⟨c, hc⟩ := (HQInt_1.out e he).2.2.ty ha; exact ⟨c, _, hc, Or.inl rfl⟩
    · obtain ⟨c, hc⟩ := HSInt_1.out.ty ea; exact ⟨c, _, hc, Or.inr rfl⟩
  have HK_2 : Hid (Kept w w2 X) := Lib.hid (HK_1.out.trans (hk.mono fun b hb => hb.elim (HXiInt.out b) (HXsInt.out b)))
  have HG_2 : Hid (w2.heap[g]? = some (.cells cs 38 (0, 0))) := Lib.hid (hk.blk HG_1.out (blk_lt HG_1.out) (fun hx => by have h1 := HG_1.out; obtain ⟨c2, t2, h2, rfl | rfl⟩ := hxx _ hx <;> exact blk_ne2 h1 h2 (by decide) rfl))
  have HSInt_2 : Hid (TkAt BkE.cells 3 61 w2 Bo SAInt yInt.length scInt yInt) := Lib.hid (by rw [hylInt]; exact hys)
  have HQInt_2 : Hid (∀ e ∈ yInt, e.len ≤ 17592186044345 ∧ e.n ≤ 1152921504606846976 ∧ P1 mkInt 1 3 w2 Bo e ∧ P2 mkInt 1 3 w2 Bo e) := Lib.hid (fun e1 he1 => by
    obtain ⟨m, hm⟩ := List.getElem?_of_mem he1
    have hlt := (List.getElem?_eq_some_iff.1 hm).1
    have hxm : xInt[m]? = some (xInt[m]'(by omega)) := List.getElem?_eq_getElem _
    generalize xInt[m]'(by omega) = ex at hxm
    obtain ⟨e2, he2, hgr⟩ := hyq m ex hxm
    rw [hm] at he2
    injection he2 with he2
    subst he2
    obtain ⟨g1, g2, -⟩ := HQInt_1.out ex (List.mem_of_getElem? hxm)
    obtain ⟨a1, a2, a3, a4⟩ := hgr.same
    refine ⟨by omega, by omega, ?_, hgr.p2 rfl⟩
    have := hgr.p1
    unfold P1 at this ⊢
    rw [a1, a2, a3, a4]; exact this)
  have hylInt_ : yInt.length ≤ 2199023255552 := by omega
  have HFInty : Hid (cs[2]? = some (.slice SAInt yInt.length scInt)) := Lib.hid (by rw [hylInt]; exact HFInt.out)
  clear hys hyq
  clear hk hxx HG_1 HK_1 HSInt_1 HQInt_1
  go_wp2_with fail
  refine (growText_nilI g _ ((blk_cell HG_2.out 3).trans HNText.out)).mono ?_
  rintro e wz ⟨rfl, rfl⟩
  go_wp2_with fail
  refine (growWrite_nilI g _ ((blk_cell HG_2.out 4).trans HNWrite.out)).mono ?_
  rintro e wz ⟨rfl, rfl⟩
  go_wp2_with fail
  refine (growEntry_nilI g _ ((blk_cell HG_2.out 5).trans HNEntry.out)).mono ?_
  rintro e wz ⟨rfl, rfl⟩
  go_wp2_with fail
  refine (growVersion_nilI g _ ((blk_cell HG_2.out 6).trans HNVersion.out)).mono ?_
  rintro e wz ⟨rfl, rfl⟩
  go_wp2_with fail
  refine (growTxn_nilI g _ ((blk_cell HG_2.out 7).trans HNTxn.out)).mono ?_
  rintro e wz ⟨rfl, rfl⟩
  go_wp2_with fail
  refine (growHeld_nilI g _ ((blk_cell HG_2.out 8).trans HNHeld.out)).mono ?_
  rintro e wz ⟨rfl, rfl⟩
  go_wp2_with fail
  refine (growHeldList_nilI g _ ((blk_cell HG_2.out 9).trans HNHeldList.out)).mono ?_
  rintro e wz ⟨rfl, rfl⟩
  go_wp2_with fail
  refine (growEvent_nilI g _ ((blk_cell HG_2.out 10).trans HNEvent.out)).mono ?_
  rintro e wz ⟨rfl, rfl⟩
  go_wp2_with fail
  refine (growAnswer_nilI g _ ((blk_cell HG_2.out 11).trans HNAnswer.out)).mono ?_
  rintro e wz ⟨rfl, rfl⟩
  go_wp2_with fail
  refine (lookByte_nilI g _ ((blk_cell HG_2.out 1).trans HNByte.out)).mono ?_
  rintro e wz ⟨rfl, rfl⟩
  go_wp2_with fail
  refine (lookInt_any g Bo yInt SAInt scInt _ ⟨cs, HG_2.out, HFInty.out⟩ HSInt_2.out HQInt_2.out (Nat.le_trans lo2 HK_2.out.size) (HT.out.next (HK_2.out.below lo2 HXl.out)) (by omega)).mono ?_
  rintro e w3 ⟨rfl, hb⟩
  have HG_3 := Lib.hid ((hb.block _ (blk_lt HG_2.out)).trans HG_2.out)
  have HK_3 := Lib.hid (HK_2.out.trans (Kept.of_below hb))
  clear hb HG_2 HK_2
  go_wp2_with fail
  refine (lookText_nilI g _ ((blk_cell HG_3.out 3).trans HNText.out)).mono ?_
  rintro e wz ⟨rfl, rfl⟩
  go_wp2_with fail
  refine (lookWrite_nilI g _ ((blk_cell HG_3.out 4).trans HNWrite.out)).mono ?_
  rintro e wz ⟨rfl, rfl⟩
  go_wp2_with fail
  refine (lookEntry_nilI g _ ((blk_cell HG_3.out 5).trans HNEntry.out)).mono ?_
  rintro e wz ⟨rfl, rfl⟩
  go_wp2_with fail
  refine (lookVersion_nilI g _ ((blk_cell HG_3.out 6).trans HNVersion.out)).mono ?_
  rintro e wz ⟨rfl, rfl⟩
  go_wp2_with fail
  refine (lookTxn_nilI g _ ((blk_cell HG_3.out 7).trans HNTxn.out)).mono ?_
  rintro e wz ⟨rfl, rfl⟩
  go_wp2_with fail
  refine (lookHeld_nilI g _ ((blk_cell HG_3.out 8).trans HNHeld.out)).mono ?_
  rintro e wz ⟨rfl, rfl⟩
  go_wp2_with fail
  refine (lookHeldList_nilI g _ ((blk_cell HG_3.out 9).trans HNHeldList.out)).mono ?_
  rintro e wz ⟨rfl, rfl⟩
  go_wp2_with fail
  refine (lookEvent_nilI g _ ((blk_cell HG_3.out 10).trans HNEvent.out)).mono ?_
  rintro e wz ⟨rfl, rfl⟩
  go_wp2_with fail
  refine (lookAnswer_nilI g _ ((blk_cell HG_3.out 11).trans HNAnswer.out)).mono ?_
  rintro e wz ⟨rfl, rfl⟩
  go_wp2_with fail
  go_ret
  exact ⟨rfl, HK_3.out.mono HXe.out, (HK_3.out.below lo2 HXl.out)⟩
end Go.Proofs.YtbiamjgkedmceaaGreatDoor

/- towpathlaw01.Book: what it is told of ints and of transactions. -/
import Derived.Test.YtfafhfjmoijaeaaGreatDoorBkI
import Derived.Test.YtfafhfjmoijaeaaGreatDoorBkW
import Derived.Test.YtfafhfjmoijaeaaGreatDoorKx
namespace Go.Proofs.YtfafhfjmoijaeaaGreatDoor
open Go.RowKit
set_option linter.unusedVariables false
set_option linter.unusedSimpArgs false

set_option maxRecDepth 100000
theorem fillByte_nilK (g : Nat) (w : World) (hg : w.cell? ⟨g, 1, none⟩ = some (.slice none 0 0)) : Calls Tryz.prog 25 #[.pointer (some ⟨g, 0, none⟩)] w fun e w' => e = .returned (.tuple #[]) ∧ w = w' := by
  go_enter Tryz.func25, Tryz.ntmps25
  go_wp2_with fail
  go_loopw [2] (fun i wr => i = .int .i64 0 ∧ wr = w) (fun _ _ => 0)
  case atStart => exact ⟨rfl, rfl⟩
  case round =>
    obtain ⟨rfl, rfl⟩ := hrel
    go_wp2_with fail
    exact bodyPost_end (results_none rfl _ _ _) rfl ⟨rfl, rfl⟩
theorem growByte_nilK (g : Nat) (w : World) (hg : w.cell? ⟨g, 1, none⟩ = some (.slice none 0 0)) : Calls Tryz.prog 36 #[.pointer (some ⟨g, 0, none⟩)] w fun e w' => e = .returned (.tuple #[]) ∧ w = w' := by
  go_enter Tryz.func36, Tryz.ntmps36
  go_wp2_with fail
  go_loopw [2] (fun i wr => i = .int .i64 0 ∧ wr = w) (fun _ _ => 0)
  case atStart => exact ⟨rfl, rfl⟩
  case round =>
    obtain ⟨rfl, rfl⟩ := hrel
    go_wp2_with fail
    exact bodyPost_end (results_none rfl _ _ _) rfl ⟨rfl, rfl⟩
theorem lookByte_nilK (g : Nat) (w : World) (hg : w.cell? ⟨g, 1, none⟩ = some (.slice none 0 0)) : Calls Tryz.prog 47 #[.pointer (some ⟨g, 0, none⟩)] w fun e w' => e = .returned (.bool true) ∧ w = w' := by
  go_enter Tryz.func47, Tryz.ntmps47
  go_wp2_with fail
  go_loopw [3] (fun i wr => i = .int .i64 0 ∧ wr = w) (fun _ _ => 0)
  case atStart => exact ⟨rfl, rfl⟩
  case round =>
    obtain ⟨rfl, rfl⟩ := hrel
    go_wp2_with fail
    go_ret
    exact ⟨rfl, rfl⟩
theorem fillText_nilK (g : Nat) (w : World) (hg : w.cell? ⟨g, 3, none⟩ = some (.slice none 0 0)) : Calls Tryz.prog 27 #[.pointer (some ⟨g, 0, none⟩)] w fun e w' => e = .returned (.tuple #[]) ∧ w = w' := by
  go_enter Tryz.func27, Tryz.ntmps27
  go_wp2_with fail
  go_loopw [2] (fun i wr => i = .int .i64 0 ∧ wr = w) (fun _ _ => 0)
  case atStart => exact ⟨rfl, rfl⟩
  case round =>
    obtain ⟨rfl, rfl⟩ := hrel
    go_wp2_with fail
    exact bodyPost_end (results_none rfl _ _ _) rfl ⟨rfl, rfl⟩
theorem growText_nilK (g : Nat) (w : World) (hg : w.cell? ⟨g, 3, none⟩ = some (.slice none 0 0)) : Calls Tryz.prog 38 #[.pointer (some ⟨g, 0, none⟩)] w fun e w' => e = .returned (.tuple #[]) ∧ w = w' := by
  go_enter Tryz.func38, Tryz.ntmps38
  go_wp2_with fail
  go_loopw [2] (fun i wr => i = .int .i64 0 ∧ wr = w) (fun _ _ => 0)
  case atStart => exact ⟨rfl, rfl⟩
  case round =>
    obtain ⟨rfl, rfl⟩ := hrel
    go_wp2_with fail
    exact bodyPost_end (results_none rfl _ _ _) rfl ⟨rfl, rfl⟩
theorem lookText_nilK (g : Nat) (w : World) (hg : w.cell? ⟨g, 3, none⟩ = some (.slice none 0 0)) : Calls Tryz.prog 49 #[.pointer (some ⟨g, 0, none⟩)] w fun e w' => e = .returned (.bool true) ∧ w = w' := by
  go_enter Tryz.func49, Tryz.ntmps49
  go_wp2_with fail
  go_loopw [3] (fun i wr => i = .int .i64 0 ∧ wr = w) (fun _ _ => 0)
  case atStart => exact ⟨rfl, rfl⟩
  case round =>
    obtain ⟨rfl, rfl⟩ := hrel
    go_wp2_with fail
    go_ret
    exact ⟨rfl, rfl⟩
theorem fillEntry_nilK (g : Nat) (w : World) (hg : w.cell? ⟨g, 5, none⟩ = some (.slice none 0 0)) : Calls Tryz.prog 29 #[.pointer (some ⟨g, 0, none⟩)] w fun e w' => e = .returned (.tuple #[]) ∧ w = w' := by
  go_enter Tryz.func29, Tryz.ntmps29
  go_wp2_with fail
  go_loopw [2] (fun i wr => i = .int .i64 0 ∧ wr = w) (fun _ _ => 0)
  case atStart => exact ⟨rfl, rfl⟩
  case round =>
    obtain ⟨rfl, rfl⟩ := hrel
    go_wp2_with fail
    exact bodyPost_end (results_none rfl _ _ _) rfl ⟨rfl, rfl⟩
theorem growEntry_nilK (g : Nat) (w : World) (hg : w.cell? ⟨g, 5, none⟩ = some (.slice none 0 0)) : Calls Tryz.prog 40 #[.pointer (some ⟨g, 0, none⟩)] w fun e w' => e = .returned (.tuple #[]) ∧ w = w' := by
  go_enter Tryz.func40, Tryz.ntmps40
  go_wp2_with fail
  go_loopw [2] (fun i wr => i = .int .i64 0 ∧ wr = w) (fun _ _ => 0)
  case atStart => exact ⟨rfl, rfl⟩
  case round =>
    obtain ⟨rfl, rfl⟩ := hrel
    go_wp2_with fail
    exact bodyPost_end (results_none rfl _ _ _) rfl ⟨rfl, rfl⟩
theorem lookEntry_nilK (g : Nat) (w : World) (hg : w.cell? ⟨g, 5, none⟩ = some (.slice none 0 0)) : Calls Tryz.prog 51 #[.pointer (some ⟨g, 0, none⟩)] w fun e w' => e = .returned (.bool true) ∧ w = w' := by
  go_enter Tryz.func51, Tryz.ntmps51
  go_wp2_with fail
  go_loopw [3] (fun i wr => i = .int .i64 0 ∧ wr = w) (fun _ _ => 0)
  case atStart => exact ⟨rfl, rfl⟩
  case round =>
    obtain ⟨rfl, rfl⟩ := hrel
    go_wp2_with fail
    go_ret
    exact ⟨rfl, rfl⟩
theorem fillVersion_nilK (g : Nat) (w : World) (hg : w.cell? ⟨g, 6, none⟩ = some (.slice none 0 0)) : Calls Tryz.prog 30 #[.pointer (some ⟨g, 0, none⟩)] w fun e w' => e = .returned (.tuple #[]) ∧ w = w' := by
  go_enter Tryz.func30, Tryz.ntmps30
  go_wp2_with fail
  go_loopw [2] (fun i wr => i = .int .i64 0 ∧ wr = w) (fun _ _ => 0)
  case atStart => exact ⟨rfl, rfl⟩
  case round =>
    obtain ⟨rfl, rfl⟩ := hrel
    go_wp2_with fail
    exact bodyPost_end (results_none rfl _ _ _) rfl ⟨rfl, rfl⟩
theorem growVersion_nilK (g : Nat) (w : World) (hg : w.cell? ⟨g, 6, none⟩ = some (.slice none 0 0)) : Calls Tryz.prog 41 #[.pointer (some ⟨g, 0, none⟩)] w fun e w' => e = .returned (.tuple #[]) ∧ w = w' := by
  go_enter Tryz.func41, Tryz.ntmps41
  go_wp2_with fail
  go_loopw [2] (fun i wr => i = .int .i64 0 ∧ wr = w) (fun _ _ => 0)
  case atStart => exact ⟨rfl, rfl⟩
  case round =>
    obtain ⟨rfl, rfl⟩ := hrel
    go_wp2_with fail
    exact bodyPost_end (results_none rfl _ _ _) rfl ⟨rfl, rfl⟩
theorem lookVersion_nilK (g : Nat) (w : World) (hg : w.cell? ⟨g, 6, none⟩ = some (.slice none 0 0)) : Calls Tryz.prog 52 #[.pointer (some ⟨g, 0, none⟩)] w fun e w' => e = .returned (.bool true) ∧ w = w' := by
  go_enter Tryz.func52, Tryz.ntmps52
  go_wp2_with fail
  go_loopw [3] (fun i wr => i = .int .i64 0 ∧ wr = w) (fun _ _ => 0)
  case atStart => exact ⟨rfl, rfl⟩
  case round =>
    obtain ⟨rfl, rfl⟩ := hrel
    go_wp2_with fail
    go_ret
    exact ⟨rfl, rfl⟩
theorem fillTxn_nilK (g : Nat) (w : World) (hg : w.cell? ⟨g, 7, none⟩ = some (.slice none 0 0)) : Calls Tryz.prog 31 #[.pointer (some ⟨g, 0, none⟩)] w fun e w' => e = .returned (.tuple #[]) ∧ w = w' := by
  go_enter Tryz.func31, Tryz.ntmps31
  go_wp2_with fail
  go_loopw [2] (fun i wr => i = .int .i64 0 ∧ wr = w) (fun _ _ => 0)
  case atStart => exact ⟨rfl, rfl⟩
  case round =>
    obtain ⟨rfl, rfl⟩ := hrel
    go_wp2_with fail
    exact bodyPost_end (results_none rfl _ _ _) rfl ⟨rfl, rfl⟩
theorem growTxn_nilK (g : Nat) (w : World) (hg : w.cell? ⟨g, 7, none⟩ = some (.slice none 0 0)) : Calls Tryz.prog 42 #[.pointer (some ⟨g, 0, none⟩)] w fun e w' => e = .returned (.tuple #[]) ∧ w = w' := by
  go_enter Tryz.func42, Tryz.ntmps42
  go_wp2_with fail
  go_loopw [2] (fun i wr => i = .int .i64 0 ∧ wr = w) (fun _ _ => 0)
  case atStart => exact ⟨rfl, rfl⟩
  case round =>
    obtain ⟨rfl, rfl⟩ := hrel
    go_wp2_with fail
    exact bodyPost_end (results_none rfl _ _ _) rfl ⟨rfl, rfl⟩
theorem lookTxn_nilK (g : Nat) (w : World) (hg : w.cell? ⟨g, 7, none⟩ = some (.slice none 0 0)) : Calls Tryz.prog 53 #[.pointer (some ⟨g, 0, none⟩)] w fun e w' => e = .returned (.bool true) ∧ w = w' := by
  go_enter Tryz.func53, Tryz.ntmps53
  go_wp2_with fail
  go_loopw [3] (fun i wr => i = .int .i64 0 ∧ wr = w) (fun _ _ => 0)
  case atStart => exact ⟨rfl, rfl⟩
  case round =>
    obtain ⟨rfl, rfl⟩ := hrel
    go_wp2_with fail
    go_ret
    exact ⟨rfl, rfl⟩
theorem fillHeld_nilK (g : Nat) (w : World) (hg : w.cell? ⟨g, 8, none⟩ = some (.slice none 0 0)) : Calls Tryz.prog 32 #[.pointer (some ⟨g, 0, none⟩)] w fun e w' => e = .returned (.tuple #[]) ∧ w = w' := by
  go_enter Tryz.func32, Tryz.ntmps32
  go_wp2_with fail
  go_loopw [2] (fun i wr => i = .int .i64 0 ∧ wr = w) (fun _ _ => 0)
  case atStart => exact ⟨rfl, rfl⟩
  case round =>
    obtain ⟨rfl, rfl⟩ := hrel
    go_wp2_with fail
    exact bodyPost_end (results_none rfl _ _ _) rfl ⟨rfl, rfl⟩
theorem growHeld_nilK (g : Nat) (w : World) (hg : w.cell? ⟨g, 8, none⟩ = some (.slice none 0 0)) : Calls Tryz.prog 43 #[.pointer (some ⟨g, 0, none⟩)] w fun e w' => e = .returned (.tuple #[]) ∧ w = w' := by
  go_enter Tryz.func43, Tryz.ntmps43
  go_wp2_with fail
  go_loopw [2] (fun i wr => i = .int .i64 0 ∧ wr = w) (fun _ _ => 0)
  case atStart => exact ⟨rfl, rfl⟩
  case round =>
    obtain ⟨rfl, rfl⟩ := hrel
    go_wp2_with fail
    exact bodyPost_end (results_none rfl _ _ _) rfl ⟨rfl, rfl⟩
theorem lookHeld_nilK (g : Nat) (w : World) (hg : w.cell? ⟨g, 8, none⟩ = some (.slice none 0 0)) : Calls Tryz.prog 54 #[.pointer (some ⟨g, 0, none⟩)] w fun e w' => e = .returned (.bool true) ∧ w = w' := by
  go_enter Tryz.func54, Tryz.ntmps54
  go_wp2_with fail
  go_loopw [3] (fun i wr => i = .int .i64 0 ∧ wr = w) (fun _ _ => 0)
  case atStart => exact ⟨rfl, rfl⟩
  case round =>
    obtain ⟨rfl, rfl⟩ := hrel
    go_wp2_with fail
    go_ret
    exact ⟨rfl, rfl⟩
theorem fillHeldList_nilK (g : Nat) (w : World) (hg : w.cell? ⟨g, 9, none⟩ = some (.slice none 0 0)) : Calls Tryz.prog 33 #[.pointer (some ⟨g, 0, none⟩)] w fun e w' => e = .returned (.tuple #[]) ∧ w = w' := by
  go_enter Tryz.func33, Tryz.ntmps33
  go_wp2_with fail
  go_loopw [2] (fun i wr => i = .int .i64 0 ∧ wr = w) (fun _ _ => 0)
  case atStart => exact ⟨rfl, rfl⟩
  case round =>
    obtain ⟨rfl, rfl⟩ := hrel
    go_wp2_with fail
    exact bodyPost_end (results_none rfl _ _ _) rfl ⟨rfl, rfl⟩
theorem growHeldList_nilK (g : Nat) (w : World) (hg : w.cell? ⟨g, 9, none⟩ = some (.slice none 0 0)) : Calls Tryz.prog 44 #[.pointer (some ⟨g, 0, none⟩)] w fun e w' => e = .returned (.tuple #[]) ∧ w = w' := by
  go_enter Tryz.func44, Tryz.ntmps44
  go_wp2_with fail
  go_loopw [2] (fun i wr => i = .int .i64 0 ∧ wr = w) (fun _ _ => 0)
  case atStart => exact ⟨rfl, rfl⟩
  case round =>
    obtain ⟨rfl, rfl⟩ := hrel
    go_wp2_with fail
    exact bodyPost_end (results_none rfl _ _ _) rfl ⟨rfl, rfl⟩
theorem lookHeldList_nilK (g : Nat) (w : World) (hg : w.cell? ⟨g, 9, none⟩ = some (.slice none 0 0)) : Calls Tryz.prog 55 #[.pointer (some ⟨g, 0, none⟩)] w fun e w' => e = .returned (.bool true) ∧ w = w' := by
  go_enter Tryz.func55, Tryz.ntmps55
  go_wp2_with fail
  go_loopw [3] (fun i wr => i = .int .i64 0 ∧ wr = w) (fun _ _ => 0)
  case atStart => exact ⟨rfl, rfl⟩
  case round =>
    obtain ⟨rfl, rfl⟩ := hrel
    go_wp2_with fail
    go_ret
    exact ⟨rfl, rfl⟩
theorem fillEvent_nilK (g : Nat) (w : World) (hg : w.cell? ⟨g, 10, none⟩ = some (.slice none 0 0)) : Calls Tryz.prog 34 #[.pointer (some ⟨g, 0, none⟩)] w fun e w' => e = .returned (.tuple #[]) ∧ w = w' := by
  go_enter Tryz.func34, Tryz.ntmps34
  go_wp2_with fail
  go_loopw [2] (fun i wr => i = .int .i64 0 ∧ wr = w) (fun _ _ => 0)
  case atStart => exact ⟨rfl, rfl⟩
  case round =>
    obtain ⟨rfl, rfl⟩ := hrel
    go_wp2_with fail
    exact bodyPost_end (results_none rfl _ _ _) rfl ⟨rfl, rfl⟩
theorem growEvent_nilK (g : Nat) (w : World) (hg : w.cell? ⟨g, 10, none⟩ = some (.slice none 0 0)) : Calls Tryz.prog 45 #[.pointer (some ⟨g, 0, none⟩)] w fun e w' => e = .returned (.tuple #[]) ∧ w = w' := by
  go_enter Tryz.func45, Tryz.ntmps45
  go_wp2_with fail
  go_loopw [2] (fun i wr => i = .int .i64 0 ∧ wr = w) (fun _ _ => 0)
  case atStart => exact ⟨rfl, rfl⟩
  case round =>
    obtain ⟨rfl, rfl⟩ := hrel
    go_wp2_with fail
    exact bodyPost_end (results_none rfl _ _ _) rfl ⟨rfl, rfl⟩
theorem lookEvent_nilK (g : Nat) (w : World) (hg : w.cell? ⟨g, 10, none⟩ = some (.slice none 0 0)) : Calls Tryz.prog 56 #[.pointer (some ⟨g, 0, none⟩)] w fun e w' => e = .returned (.bool true) ∧ w = w' := by
  go_enter Tryz.func56, Tryz.ntmps56
  go_wp2_with fail
  go_loopw [3] (fun i wr => i = .int .i64 0 ∧ wr = w) (fun _ _ => 0)
  case atStart => exact ⟨rfl, rfl⟩
  case round =>
    obtain ⟨rfl, rfl⟩ := hrel
    go_wp2_with fail
    go_ret
    exact ⟨rfl, rfl⟩
theorem fillAnswer_nilK (g : Nat) (w : World) (hg : w.cell? ⟨g, 11, none⟩ = some (.slice none 0 0)) : Calls Tryz.prog 35 #[.pointer (some ⟨g, 0, none⟩)] w fun e w' => e = .returned (.tuple #[]) ∧ w = w' := by
  go_enter Tryz.func35, Tryz.ntmps35
  go_wp2_with fail
  go_loopw [2] (fun i wr => i = .int .i64 0 ∧ wr = w) (fun _ _ => 0)
  case atStart => exact ⟨rfl, rfl⟩
  case round =>
    obtain ⟨rfl, rfl⟩ := hrel
    go_wp2_with fail
    exact bodyPost_end (results_none rfl _ _ _) rfl ⟨rfl, rfl⟩
theorem growAnswer_nilK (g : Nat) (w : World) (hg : w.cell? ⟨g, 11, none⟩ = some (.slice none 0 0)) : Calls Tryz.prog 46 #[.pointer (some ⟨g, 0, none⟩)] w fun e w' => e = .returned (.tuple #[]) ∧ w = w' := by
  go_enter Tryz.func46, Tryz.ntmps46
  go_wp2_with fail
  go_loopw [2] (fun i wr => i = .int .i64 0 ∧ wr = w) (fun _ _ => 0)
  case atStart => exact ⟨rfl, rfl⟩
  case round =>
    obtain ⟨rfl, rfl⟩ := hrel
    go_wp2_with fail
    exact bodyPost_end (results_none rfl _ _ _) rfl ⟨rfl, rfl⟩
theorem lookAnswer_nilK (g : Nat) (w : World) (hg : w.cell? ⟨g, 11, none⟩ = some (.slice none 0 0)) : Calls Tryz.prog 57 #[.pointer (some ⟨g, 0, none⟩)] w fun e w' => e = .returned (.bool true) ∧ w = w' := by
  go_enter Tryz.func57, Tryz.ntmps57
  go_wp2_with fail
  go_loopw [3] (fun i wr => i = .int .i64 0 ∧ wr = w) (fun _ _ => 0)
  case atStart => exact ⟨rfl, rfl⟩
  case round =>
    obtain ⟨rfl, rfl⟩ := hrel
    go_wp2_with fail
    go_ret
    exact ⟨rfl, rfl⟩
/-- A book that lies in g: it has been told so many lists. -/
structure BkAtK (w : World) (g Bo cnt : Nat) (xInt xWrite : List BkE) : Prop where
  lo : Bo ≤ g ∧ Bo ≤ w.heap.size
  num : cnt ≤ 1152921504606846976
  st : ∃ cs, w.heap[g]? = some (.cells cs 46 (0, 0)) ∧ cs.size = 12 ∧ cs[0]? = some (.int .i64 cnt) ∧ cs[1]? = some (.slice none 0 0) ∧ cs[3]? = some (.slice none 0 0) ∧ cs[5]? = some (.slice none 0 0) ∧ cs[6]? = some (.slice none 0 0) ∧ cs[7]? = some (.slice none 0 0) ∧ cs[8]? = some (.slice none 0 0) ∧ cs[9]? = some (.slice none 0 0) ∧ cs[10]? = some (.slice none 0 0) ∧ cs[11]? = some (.slice none 0 0) ∧ KdQ 93 2 (fun w e => P0 mkInt 1 3 17592186044345 w Bo e) w Bo cs xInt ∧ KdQ 99 4 (fun w e => P0 mkWrite 3 75 3518437208812 w Bo e) w Bo cs xWrite
  lInt : xInt.length ≤ 2199023255552
  lWrite : xWrite.length ≤ 2199023255552
/-- No block of a book, of its own lists, of the lists that it was told. -/
def FarBK (w : World) (g : Nat) (xInt xWrite : List BkE) (b : Nat) : Prop := b ≠ g ∧ ¬ InE xInt b ∧ ¬ InE xWrite b ∧ (∀ cs, w.heap[b]? ≠ some (.cells cs 93 (0, 0))) ∧ (∀ cs, w.heap[b]? ≠ some (.cells cs 99 (0, 0)))
theorem BkAtK.kept {w w' : World} {g Bo cnt : Nat} {xInt xWrite : List BkE} {X : Nat → Prop} (h : BkAtK w g Bo cnt xInt xWrite) (k : Kept w w' X) (hX : ∀ b, X b → FarBK w g xInt xWrite b) : BkAtK w' g Bo cnt xInt xWrite := by
  obtain ⟨lo, num, ⟨cs, hg, hz, h0, nByte, nText, nEntry, nVersion, nTxn, nHeld, nHeldList, nEvent, nAnswer, kInt, kWrite⟩, lInt, lWrite⟩ := h
  refine ⟨⟨lo.1, Nat.le_trans lo.2 k.size⟩, num, ⟨cs, k.blk hg (blk_lt hg) (fun hx => (hX _ hx).1 rfl), hz, h0, nByte, nText, nEntry, nVersion, nTxn, nHeld, nHeldList, nEvent, nAnswer, ?_, ?_⟩, lInt, lWrite⟩
  · obtain ⟨SA, sc, q1, q2, q3, q4⟩ := kInt
    exact ⟨SA, sc, q1, q2.kept k (fun a ea hx => by obtain ⟨c, hc⟩ := q2.ty ea; exact (hX _ hx).2.2.2.1 c hc), fun e he => (q3 e he).more k (fun a ea hx => (hX _ hx).2.1 ⟨e, he, a, ea, rfl⟩), q4⟩
  · obtain ⟨SA, sc, q1, q2, q3, q4⟩ := kWrite
    exact ⟨SA, sc, q1, q2.kept k (fun a ea hx => by obtain ⟨c, hc⟩ := q2.ty ea; exact (hX _ hx).2.2.2.2 c hc), fun e he => (q3 e he).more k (fun a ea hx => (hX _ hx).2.2.1 ⟨e, he, a, ea, rfl⟩), q4⟩
set_option maxHeartbeats 2000000 in
theorem tellIntK_any (g Bo cnt : Nat) (xInt xWrite : List BkE) (A : Option Addr) (len cap : Nat) (w : World) (h : BkAtK w g Bo cnt xInt xWrite) (hp : P0 mkInt 1 3 17592186044345 w Bo ⟨A, len, cap, cnt + 1, none, 0, 0⟩) (hd : ∀ e ∈ xInt, ∀ a c, e.A = some a → A = some c → a.block ≠ c.block) (hc : cnt + 1 ≤ 1152921504606846976) (hl : xInt.length + 1 ≤ 2199023255552) :
    Calls Tryz.prog 70 #[.pointer (some ⟨g, 0, none⟩), .slice A len cap] w fun e w' => e = .returned (.tuple #[]) ∧ BkAtK w' g Bo (cnt + 1) (xInt ++ [⟨A, len, cap, cnt + 1, none, 0, 0⟩]) xWrite ∧ Kept w w' (fun b => b = g ∨ ∃ cs, w.heap[b]? = some (.cells cs 93 (0, 0))) ∧ Below Bo w w' := by
  obtain ⟨lo, num, ⟨cs, hg, hz, h0, nByte, nText, nEntry, nVersion, nTxn, nHeld, nHeldList, nEvent, nAnswer, kInt, kWrite⟩, lInt, lWrite⟩ := h
  obtain ⟨SA, sc, q1, q2, q3, q4⟩ := kInt
  refine (keepInt_any g Bo cnt cs xInt SA sc A len cap w hg hz h0 q1 q2 lo.2 (by omega) num).mono fun e w' he => ?_
  obtain ⟨rfl, SA', sc', g1, g2, g3, g4⟩ := he
  have hX : ∀ b, (b = g ∨ ∃ a, SA = some a ∧ b = a.block) → ∃ c t, w.heap[b]? = some (.cells c t (0, 0)) ∧ (t = 46 ∨ t = 93) := fun b hb => by
    rcases hb with rfl | ⟨a, ea, rfl⟩
    · exact ⟨_, _, hg, Or.inl rfl⟩
    · obtain ⟨c, hc⟩ := q2.ty ea; exact ⟨c, _, hc, Or.inr rfl⟩
  refine ⟨rfl, ⟨⟨lo.1, Nat.le_trans lo.2 g3.size⟩, hc, ⟨_, g1, by simp [hz], by rw [Array.getElem?_setIfInBounds_ne (by omega), Array.getElem?_setIfInBounds_self_of_lt (by rw [hz]; omega)], by rw [Array.getElem?_setIfInBounds_ne (by omega), Array.getElem?_setIfInBounds_ne (by omega)]; exact nByte, by rw [Array.getElem?_setIfInBounds_ne (by omega), Array.getElem?_setIfInBounds_ne (by omega)]; exact nText, by rw [Array.getElem?_setIfInBounds_ne (by omega), Array.getElem?_setIfInBounds_ne (by omega)]; exact nEntry, by rw [Array.getElem?_setIfInBounds_ne (by omega), Array.getElem?_setIfInBounds_ne (by omega)]; exact nVersion, by rw [Array.getElem?_setIfInBounds_ne (by omega), Array.getElem?_setIfInBounds_ne (by omega)]; exact nTxn, by rw [Array.getElem?_setIfInBounds_ne (by omega), Array.getElem?_setIfInBounds_ne (by omega)]; exact nHeld, by rw [Array.getElem?_setIfInBounds_ne (by omega), Array.getElem?_setIfInBounds_ne (by omega)]; exact nHeldList, by rw [Array.getElem?_setIfInBounds_ne (by omega), Array.getElem?_setIfInBounds_ne (by omega)]; exact nEvent, by rw [Array.getElem?_setIfInBounds_ne (by omega), Array.getElem?_setIfInBounds_ne (by omega)]; exact nAnswer, ?_, ?_⟩, by simpa using hl, lWrite⟩, ?_, ?_⟩
  · refine ⟨SA', sc', by rw [Array.getElem?_setIfInBounds_self_of_lt (by simp [hz])]; simp, by simpa using g2, fun e he => ?_, ?_⟩
    · rcases List.mem_append.1 he with he | he
      · exact (q3 e he).more g3 (fun a ea hx => by obtain ⟨c1, h1⟩ := (q3 e he).tk.ty ea; obtain ⟨c2, t2, h2, rfl | rfl⟩ := hX _ hx <;> exact blk_ne2 h1 h2 (by decide) rfl)
      · simp at he; subst he
        exact hp.more g3 (fun a ea hx => by obtain ⟨c1, h1⟩ := hp.tk.ty ea; obtain ⟨c2, t2, h2, rfl | rfl⟩ := hX _ hx <;> exact blk_ne2 h1 h2 (by decide) rfl)
    · refine List.pairwise_append.2 ⟨q4, List.pairwise_singleton _ _, fun e he f hf a c ea ec => ?_⟩
      simp at hf; subst hf
      exact hd e he a c ea ec
  · obtain ⟨SB, sd, r1, r2, r3, r4⟩ := kWrite
    exact ⟨SB, sd, by rw [Array.getElem?_setIfInBounds_ne (by omega), Array.getElem?_setIfInBounds_ne (by omega)]; exact r1, r2.kept g3 (fun a ea hx => by obtain ⟨c1, h1⟩ := r2.ty ea; obtain ⟨c2, t2, h2, rfl | rfl⟩ := hX _ hx <;> exact blk_ne2 h1 h2 (by decide) rfl), fun e he => (r3 e he).more g3 (fun a ea hx => by obtain ⟨c1, h1⟩ := (r3 e he).tk.ty ea; obtain ⟨c2, t2, h2, rfl | rfl⟩ := hX _ hx <;> exact blk_ne2 h1 h2 (by decide) rfl), r4⟩
  · exact g3.mono fun b hb => hb.imp id (fun ⟨a, ea, eb⟩ => by rw [eb]; exact q2.ty ea)
  · exact g3.below lo.2 (fun b hb => by rcases hb with rfl | ⟨a, ea, rfl⟩; exact lo.1; exact (q2.lt ea).1)
set_option maxHeartbeats 2000000 in
theorem tellWriteK_any (g Bo cnt : Nat) (xInt xWrite : List BkE) (A : Option Addr) (len cap : Nat) (w : World) (h : BkAtK w g Bo cnt xInt xWrite) (hp : P0 mkWrite 3 75 3518437208812 w Bo ⟨A, len, cap, cnt + 1, none, 0, 0⟩) (hd : ∀ e ∈ xWrite, ∀ a c, e.A = some a → A = some c → a.block ≠ c.block) (hc : cnt + 1 ≤ 1152921504606846976) (hl : xWrite.length + 1 ≤ 2199023255552) :
    Calls Tryz.prog 99 #[.pointer (some ⟨g, 0, none⟩), .slice A len cap] w fun e w' => e = .returned (.tuple #[]) ∧ BkAtK w' g Bo (cnt + 1) xInt (xWrite ++ [⟨A, len, cap, cnt + 1, none, 0, 0⟩]) ∧ Kept w w' (fun b => b = g ∨ ∃ cs, w.heap[b]? = some (.cells cs 99 (0, 0))) ∧ Below Bo w w' := by
  obtain ⟨lo, num, ⟨cs, hg, hz, h0, nByte, nText, nEntry, nVersion, nTxn, nHeld, nHeldList, nEvent, nAnswer, kInt, kWrite⟩, lInt, lWrite⟩ := h
  obtain ⟨SA, sc, q1, q2, q3, q4⟩ := kWrite
  refine (keepWrite_any g Bo cnt cs xWrite SA sc A len cap w hg hz h0 q1 q2 lo.2 (by omega) num).mono fun e w' he => ?_
  obtain ⟨rfl, SA', sc', g1, g2, g3, g4⟩ := he
  have hX : ∀ b, (b = g ∨ ∃ a, SA = some a ∧ b = a.block) → ∃ c t, w.heap[b]? = some (.cells c t (0, 0)) ∧ (t = 46 ∨ t = 99) := fun b hb => by
    rcases hb with rfl | ⟨a, ea, rfl⟩
    · exact ⟨_, _, hg, Or.inl rfl⟩
    · obtain ⟨c, hc⟩ := q2.ty ea; exact ⟨c, _, hc, Or.inr rfl⟩
  refine ⟨rfl, ⟨⟨lo.1, Nat.le_trans lo.2 g3.size⟩, hc, ⟨_, g1, by simp [hz], by rw [Array.getElem?_setIfInBounds_ne (by omega), Array.getElem?_setIfInBounds_self_of_lt (by rw [hz]; omega)], by rw [Array.getElem?_setIfInBounds_ne (by omega), Array.getElem?_setIfInBounds_ne (by omega)]; exact nByte, by rw [Array.getElem?_setIfInBounds_ne (by omega), Array.getElem?_setIfInBounds_ne (by omega)]; exact nText, by rw [Array.getElem?_setIfInBounds_ne (by omega), Array.getElem?_setIfInBounds_ne (by omega)]; exact nEntry, by rw [Array.getElem?_setIfInBounds_ne (by omega), Array.getElem?_setIfInBounds_ne (by omega)]; exact nVersion, by rw [Array.getElem?_setIfInBounds_ne (by omega), Array.getElem?_setIfInBounds_ne (by omega)]; exact nTxn, by rw [Array.getElem?_setIfInBounds_ne (by omega), Array.getElem?_setIfInBounds_ne (by omega)]; exact nHeld, by rw [Array.getElem?_setIfInBounds_ne (by omega), Array.getElem?_setIfInBounds_ne (by omega)]; exact nHeldList, by rw [Array.getElem?_setIfInBounds_ne (by omega), Array.getElem?_setIfInBounds_ne (by omega)]; exact nEvent, by rw [Array.getElem?_setIfInBounds_ne (by omega), Array.getElem?_setIfInBounds_ne (by omega)]; exact nAnswer, ?_, ?_⟩, lInt, by simpa using hl⟩, ?_, ?_⟩
  · obtain ⟨SB, sd, r1, r2, r3, r4⟩ := kInt
    exact ⟨SB, sd, by rw [Array.getElem?_setIfInBounds_ne (by omega), Array.getElem?_setIfInBounds_ne (by omega)]; exact r1, r2.kept g3 (fun a ea hx => by obtain ⟨c1, h1⟩ := r2.ty ea; obtain ⟨c2, t2, h2, rfl | rfl⟩ := hX _ hx <;> exact blk_ne2 h1 h2 (by decide) rfl), fun e he => (r3 e he).more g3 (fun a ea hx => by obtain ⟨c1, h1⟩ := (r3 e he).tk.ty ea; obtain ⟨c2, t2, h2, rfl | rfl⟩ := hX _ hx <;> exact blk_ne2 h1 h2 (by decide) rfl), r4⟩
  · refine ⟨SA', sc', by rw [Array.getElem?_setIfInBounds_self_of_lt (by simp [hz])]; simp, by simpa using g2, fun e he => ?_, ?_⟩
    · rcases List.mem_append.1 he with he | he
      · exact (q3 e he).more g3 (fun a ea hx => by obtain ⟨c1, h1⟩ := (q3 e he).tk.ty ea; obtain ⟨c2, t2, h2, rfl | rfl⟩ := hX _ hx <;> exact blk_ne2 h1 h2 (by decide) rfl)
      · simp at he; subst he
        exact hp.more g3 (fun a ea hx => by obtain ⟨c1, h1⟩ := hp.tk.ty ea; obtain ⟨c2, t2, h2, rfl | rfl⟩ := hX _ hx <;> exact blk_ne2 h1 h2 (by decide) rfl)
    · refine List.pairwise_append.2 ⟨q4, List.pairwise_singleton _ _, fun e he f hf a c ea ec => ?_⟩
      simp at hf; subst hf
      exact hd e he a c ea ec
  · exact g3.mono fun b hb => hb.imp id (fun ⟨a, ea, eb⟩ => by rw [eb]; exact q2.ty ea)
  · exact g3.below lo.2 (fun b hb => by rcases hb with rfl | ⟨a, ea, rfl⟩; exact lo.1; exact (q2.lt ea).1)
set_option maxHeartbeats 16000000 in
theorem apartK_any (g Bo cnt : Nat) (xInt xWrite : List BkE) (w : World) (h : BkAtK w g Bo cnt xInt xWrite) (hT : TabB Tryz.prog Bo w) :
    Calls Tryz.prog 8 #[.pointer (some ⟨g, 0, none⟩)] w fun e w' => e = .returned (.bool true) ∧ Kept w w' (fun b => InE xInt b ∨ InE xWrite b ∨ (∃ cs, w.heap[b]? = some (.cells cs 93 (0, 0))) ∨ (∃ cs, w.heap[b]? = some (.cells cs 99 (0, 0)))) ∧ Below Bo w w' := by
  have HT := Lib.hid hT
  obtain ⟨⟨lo1, lo2⟩, num, ⟨cs, hg, hz, h0, nByte, nText, nEntry, nVersion, nTxn, nHeld, nHeldList, nEvent, nAnswer, kInt, kWrite⟩, lInt, lWrite⟩ := h
  obtain ⟨SAInt, scInt, fInt, sInt, qInt, dInt⟩ := kInt
  have HFInt := Lib.hid fInt
  have HSInt_0 := Lib.hid sInt
  have HQInt_0 := Lib.hid qInt
  have HDInt := Lib.hid dInt
  obtain ⟨SAWrite, scWrite, fWrite, sWrite, qWrite, dWrite⟩ := kWrite
  have HFWrite := Lib.hid fWrite
  have HSWrite_0 := Lib.hid sWrite
  have HQWrite_0 := Lib.hid qWrite
  have HDWrite := Lib.hid dWrite
  obtain ⟨X, hX⟩ : ∃ X : Nat → Prop, X = fun b => InE xInt b ∨ InE xWrite b ∨ (∃ a, SAInt = some a ∧ b = a.block) ∨ (∃ a, SAWrite = some a ∧ b = a.block) := ⟨_, rfl⟩
  have HXl : Hid (∀ b, X b → Bo ≤ b) := Lib.hid (fun b hb => by
    rw [hX] at hb
    rcases hb with hb | hb | ⟨a, ea, rfl⟩ | ⟨a, ea, rfl⟩
    · exact InE.lo (fun e he a ha => ((qInt e he).tk.lt ha).1) b hb
    · exact InE.lo (fun e he a ha => ((qWrite e he).tk.lt ha).1) b hb
    · exact (sInt.lt ea).1
    · exact (sWrite.lt ea).1)
  have HXiInt : Hid (∀ b, InE xInt b → X b) := Lib.hid (fun b hb => by rw [hX]; exact Or.inl hb)
  have HXsInt : Hid (∀ b, (∃ a, SAInt = some a ∧ b = a.block) → X b) := Lib.hid (fun b hb => by rw [hX]; exact Or.inr (Or.inr (Or.inl hb)))
  have HXiWrite : Hid (∀ b, InE xWrite b → X b) := Lib.hid (fun b hb => by rw [hX]; exact Or.inr (Or.inl hb))
  have HXsWrite : Hid (∀ b, (∃ a, SAWrite = some a ∧ b = a.block) → X b) := Lib.hid (fun b hb => by rw [hX]; exact Or.inr (Or.inr (Or.inr (hb))))
  have HXe : Hid (∀ b, X b → InE xInt b ∨ InE xWrite b ∨ (∃ cs, w.heap[b]? = some (.cells cs 93 (0, 0))) ∨ (∃ cs, w.heap[b]? = some (.cells cs 99 (0, 0)))) := Lib.hid (fun b hb => by
    rw [hX] at hb
    rcases hb with hb | hb | ⟨a, ea, rfl⟩ | ⟨a, ea, rfl⟩
    · exact Or.inl hb
    · exact Or.inr (Or.inl hb)
    · exact Or.inr (Or.inr (Or.inl (sInt.ty ea)))
    · exact Or.inr (Or.inr (Or.inr ((sWrite.ty ea)))))
  have HG_0 := Lib.hid hg
  have HK_0 : Hid (Kept w w X) := Lib.hid (Kept.refl _ _)
  have HNByte := Lib.hid nByte
  have HNText := Lib.hid nText
  have HNEntry := Lib.hid nEntry
  have HNVersion := Lib.hid nVersion
  have HNTxn := Lib.hid nTxn
  have HNHeld := Lib.hid nHeld
  have HNHeldList := Lib.hid nHeldList
  have HNEvent := Lib.hid nEvent
  have HNAnswer := Lib.hid nAnswer
  clear hg hT hX h0 hz nByte nText nEntry nVersion nTxn nHeld nHeldList nEvent nAnswer fInt sInt qInt dInt fWrite sWrite qWrite dWrite
  go_enter Tryz.func8, Tryz.ntmps8
  go_wp2_with fail
  refine (fillByte_nilK g _ ((blk_cell HG_0.out 1).trans HNByte.out)).mono ?_
  rintro e wz ⟨rfl, rfl⟩
  go_wp2_with fail
  refine (fillInt_any g Bo xInt SAInt scInt _ ⟨cs, HG_0.out, HFInt.out⟩ HSInt_0.out HQInt_0.out HDInt.out (Nat.le_trans lo2 HK_0.out.size) (HT.out.next (HK_0.out.below lo2 HXl.out)) (by omega)).mono ?_
  rintro e w1 ⟨rfl, hk, hq⟩
  have hxx : ∀ b, InE xInt b → ∃ c, w.heap[b]? = some (.cells c 3 (0, 0)) := fun b ⟨e, he, a, ha, hb⟩ => by rw [hb]; exact (HQInt_0.out e he).tk.ty ha
  have HK_1 : Hid (Kept w w1 X) := Lib.hid (HK_0.out.trans (hk.mono HXiInt.out))
  have HG_1 : Hid (w1.heap[g]? = some (.cells cs 46 (0, 0))) := Lib.hid (hk.blk HG_0.out (blk_lt HG_0.out) (fun hx => by have h1 := HG_0.out; obtain ⟨c2, h2⟩ := hxx _ hx; exact blk_ne2 h1 h2 (by decide) rfl))
  have HSInt_1 := Lib.hid (HSInt_0.out.kept hk (fun a ea hx => by obtain ⟨c1, h1⟩ := HSInt_0.out.ty ea; obtain ⟨c2, h2⟩ := hxx _ hx; exact blk_ne2 h1 h2 (by decide) rfl))
  have HQInt_1 : Hid (∀ e ∈ xInt, e.len ≤ 17592186044345 ∧ e.n ≤ 1152921504606846976 ∧ P1 mkInt 1 3 w1 Bo e) := Lib.hid (fun e he => ⟨(HQInt_0.out e he).lim, (HQInt_0.out e he).num, hq e he⟩)
  have HSWrite_1 := Lib.hid (HSWrite_0.out.kept hk (fun a ea hx => by obtain ⟨c1, h1⟩ := HSWrite_0.out.ty ea; obtain ⟨c2, h2⟩ := hxx _ hx; exact blk_ne2 h1 h2 (by decide) rfl))
  have HQWrite_1 := Lib.hid (fun e he => (HQWrite_0.out e he).more hk (fun a ea hx => by obtain ⟨c1, h1⟩ := (HQWrite_0.out e he).tk.ty ea; obtain ⟨c2, h2⟩ := hxx _ hx; exact blk_ne2 h1 h2 (by decide) rfl))
  clear hk hxx hq HG_0 HK_0 HSInt_0 HQInt_0 HSWrite_0 HQWrite_0
  go_wp2_with fail
  refine (fillText_nilK g _ ((blk_cell HG_1.out 3).trans HNText.out)).mono ?_
  rintro e wz ⟨rfl, rfl⟩
  go_wp2_with fail
  refine (fillWrite_any g Bo xWrite SAWrite scWrite _ ⟨cs, HG_1.out, HFWrite.out⟩ HSWrite_1.out HQWrite_1.out HDWrite.out (Nat.le_trans lo2 HK_1.out.size) (HT.out.next (HK_1.out.below lo2 HXl.out)) (by omega)).mono ?_
  rintro e w2 ⟨rfl, hk, hq⟩
  have hxx : ∀ b, InE xWrite b → ∃ c, w1.heap[b]? = some (.cells c 75 (0, 0)) := fun b ⟨e, he, a, ha, hb⟩ => by rw [hb]; exact (HQWrite_1.out e he).tk.ty ha
  have HK_2 : Hid (Kept w w2 X) := Lib.hid (HK_1.out.trans (hk.mono HXiWrite.out))
  have HG_2 : Hid (w2.heap[g]? = some (.cells cs 46 (0, 0))) := Lib.hid (hk.blk HG_1.out (blk_lt HG_1.out) (fun hx => by have h1 := HG_1.out; obtain ⟨c2, h2⟩ := hxx _ hx; exact blk_ne2 h1 h2 (by decide) rfl))
  have HSInt_2 := Lib.hid (HSInt_1.out.kept hk (fun a ea hx => by obtain ⟨c1, h1⟩ := HSInt_1.out.ty ea; obtain ⟨c2, h2⟩ := hxx _ hx; exact blk_ne2 h1 h2 (by decide) rfl))
  have HQInt_2 : Hid (∀ e ∈ xInt, e.len ≤ 17592186044345 ∧ e.n ≤ 1152921504606846976 ∧ P1 mkInt 1 3 w2 Bo e) := Lib.hid (fun e he => ⟨(HQInt_1.out e he).1, (HQInt_1.out e he).2.1, (HQInt_1.out e he).2.2.kept hk (fun a ea hx => by obtain ⟨c1, h1⟩ := (HQInt_1.out e he).2.2.ty ea; obtain ⟨c2, h2⟩ := hxx _ hx; exact blk_ne2 h1 h2 (by decide) rfl)⟩)
  have HSWrite_2 := Lib.hid (HSWrite_1.out.kept hk (fun a ea hx => by obtain ⟨c1, h1⟩ := HSWrite_1.out.ty ea; obtain ⟨c2, h2⟩ := hxx _ hx; exact blk_ne2 h1 h2 (by decide) rfl))
  have HQWrite_2 : Hid (∀ e ∈ xWrite, e.len ≤ 3518437208812 ∧ e.n ≤ 1152921504606846976 ∧ P1 mkWrite 3 75 w2 Bo e) := Lib.hid (fun e he => ⟨(HQWrite_1.out e he).lim, (HQWrite_1.out e he).num, hq e he⟩)
  clear hk hxx hq HG_1 HK_1 HSInt_1 HQInt_1 HSWrite_1 HQWrite_1
  go_wp2_with fail
  refine (fillEntry_nilK g _ ((blk_cell HG_2.out 5).trans HNEntry.out)).mono ?_
  rintro e wz ⟨rfl, rfl⟩
  go_wp2_with fail
  refine (fillVersion_nilK g _ ((blk_cell HG_2.out 6).trans HNVersion.out)).mono ?_
  rintro e wz ⟨rfl, rfl⟩
  go_wp2_with fail
  refine (fillTxn_nilK g _ ((blk_cell HG_2.out 7).trans HNTxn.out)).mono ?_
  rintro e wz ⟨rfl, rfl⟩
  go_wp2_with fail
  refine (fillHeld_nilK g _ ((blk_cell HG_2.out 8).trans HNHeld.out)).mono ?_
  rintro e wz ⟨rfl, rfl⟩
  go_wp2_with fail
  refine (fillHeldList_nilK g _ ((blk_cell HG_2.out 9).trans HNHeldList.out)).mono ?_
  rintro e wz ⟨rfl, rfl⟩
  go_wp2_with fail
  refine (fillEvent_nilK g _ ((blk_cell HG_2.out 10).trans HNEvent.out)).mono ?_
  rintro e wz ⟨rfl, rfl⟩
  go_wp2_with fail
  refine (fillAnswer_nilK g _ ((blk_cell HG_2.out 11).trans HNAnswer.out)).mono ?_
  rintro e wz ⟨rfl, rfl⟩
  go_wp2_with fail
  refine (growByte_nilK g _ ((blk_cell HG_2.out 1).trans HNByte.out)).mono ?_
  rintro e wz ⟨rfl, rfl⟩
  go_wp2_with fail
  refine (growInt_any g Bo xInt SAInt scInt _ ⟨cs, HG_2.out, HFInt.out⟩ HSInt_2.out HQInt_2.out HDInt.out (Nat.le_trans lo2 HK_2.out.size) (HT.out.next (HK_2.out.below lo2 HXl.out)) (by omega)).mono ?_
  rintro e w3 ⟨rfl, hk, yInt, hylInt, hys, hyq⟩
  have hxx : ∀ b, (InE xInt b ∨ ∃ a, SAInt = some a ∧ b = a.block) → ∃ c t, w2.heap[b]? = some (.cells c t (0, 0)) ∧ (t = 3 ∨ t = 93) := fun b hb => by
    rcases hb with ⟨e, he, a, ha, rfl⟩ | ⟨a, ea, rfl⟩
    · obtain ⟨c, hc⟩ := (HQInt_2.out e he).2.2.ty ha; exact ⟨c, _, hc, Or.inl rfl⟩
    · obtain ⟨c, hc⟩ := HSInt_2.out.ty ea; exact ⟨c, _, hc, Or.inr rfl⟩
  have HK_3 : Hid (Kept w w3 X) := Lib.hid (HK_2.out.trans (hk.mono fun b hb => hb.elim (HXiInt.out b) (HXsInt.out b)))
  have HG_3 : Hid (w3.heap[g]? = some (.cells cs 46 (0, 0))) := Lib.hid (hk.blk HG_2.out (blk_lt HG_2.out) (fun hx => by have h1 := HG_2.out; obtain ⟨c2, t2, h2, rfl | rfl⟩ := hxx _ hx <;> exact blk_ne2 h1 h2 (by decide) rfl))
  have HSInt_3 : Hid (TkAt BkE.cells 3 93 w3 Bo SAInt yInt.length scInt yInt) := Lib.hid (by rw [hylInt]; exact hys)
  have HQInt_3 : Hid (∀ e ∈ yInt, e.len ≤ 17592186044345 ∧ e.n ≤ 1152921504606846976 ∧ P1 mkInt 1 3 w3 Bo e ∧ P2 mkInt 1 3 w3 Bo e) := Lib.hid (fun e1 he1 => by
    obtain ⟨m, hm⟩ := List.getElem?_of_mem he1
    have hlt := (List.getElem?_eq_some_iff.1 hm).1
    have hxm : xInt[m]? = some (xInt[m]'(by omega)) := List.getElem?_eq_getElem _
    generalize xInt[m]'(by omega) = ex at hxm
    obtain ⟨e2, he2, hgr⟩ := hyq m ex hxm
    rw [hm] at he2
    injection he2 with he2
    subst he2
    obtain ⟨g1, g2, -⟩ := HQInt_2.out ex (List.mem_of_getElem? hxm)
    obtain ⟨a1, a2, a3, a4⟩ := hgr.same
    refine ⟨by omega, by omega, ?_, hgr.p2 rfl⟩
    have := hgr.p1
    unfold P1 at this ⊢
    rw [a1, a2, a3, a4]; exact this)
  have hylInt_ : yInt.length ≤ 2199023255552 := by omega
  have HFInty : Hid (cs[2]? = some (.slice SAInt yInt.length scInt)) := Lib.hid (by rw [hylInt]; exact HFInt.out)
  have HSWrite_3 := Lib.hid (HSWrite_2.out.kept hk (fun a ea hx => by obtain ⟨c1, h1⟩ := HSWrite_2.out.ty ea; obtain ⟨c2, t2, h2, rfl | rfl⟩ := hxx _ hx <;> exact blk_ne2 h1 h2 (by decide) rfl))
  have HQWrite_3 : Hid (∀ e ∈ xWrite, e.len ≤ 3518437208812 ∧ e.n ≤ 1152921504606846976 ∧ P1 mkWrite 3 75 w3 Bo e) := Lib.hid (fun e he => ⟨(HQWrite_2.out e he).1, (HQWrite_2.out e he).2.1, (HQWrite_2.out e he).2.2.kept hk (fun a ea hx => by obtain ⟨c1, h1⟩ := (HQWrite_2.out e he).2.2.ty ea; obtain ⟨c2, t2, h2, rfl | rfl⟩ := hxx _ hx <;> exact blk_ne2 h1 h2 (by decide) rfl)⟩)
  clear hys hyq
  clear hk hxx HG_2 HK_2 HSInt_2 HQInt_2 HSWrite_2 HQWrite_2
  go_wp2_with fail
  refine (growText_nilK g _ ((blk_cell HG_3.out 3).trans HNText.out)).mono ?_
  rintro e wz ⟨rfl, rfl⟩
  go_wp2_with fail
  refine (growWrite_any g Bo xWrite SAWrite scWrite _ ⟨cs, HG_3.out, HFWrite.out⟩ HSWrite_3.out HQWrite_3.out HDWrite.out (Nat.le_trans lo2 HK_3.out.size) (HT.out.next (HK_3.out.below lo2 HXl.out)) (by omega)).mono ?_
  rintro e w4 ⟨rfl, hk, yWrite, hylWrite, hys, hyq⟩
  have hxx : ∀ b, (InE xWrite b ∨ ∃ a, SAWrite = some a ∧ b = a.block) → ∃ c t, w3.heap[b]? = some (.cells c t (0, 0)) ∧ (t = 75 ∨ t = 99) := fun b hb => by
    rcases hb with ⟨e, he, a, ha, rfl⟩ | ⟨a, ea, rfl⟩
    · obtain ⟨c, hc⟩ := (HQWrite_3.out e he).2.2.ty ha; exact ⟨c, _, hc, Or.inl rfl⟩
    · obtain ⟨c, hc⟩ := HSWrite_3.out.ty ea; exact ⟨c, _, hc, Or.inr rfl⟩
  have HK_4 : Hid (Kept w w4 X) := Lib.hid (HK_3.out.trans (hk.mono fun b hb => hb.elim (HXiWrite.out b) (HXsWrite.out b)))
  have HG_4 : Hid (w4.heap[g]? = some (.cells cs 46 (0, 0))) := Lib.hid (hk.blk HG_3.out (blk_lt HG_3.out) (fun hx => by have h1 := HG_3.out; obtain ⟨c2, t2, h2, rfl | rfl⟩ := hxx _ hx <;> exact blk_ne2 h1 h2 (by decide) rfl))
  have HSInt_4 := Lib.hid (HSInt_3.out.kept hk (fun a ea hx => by obtain ⟨c1, h1⟩ := HSInt_3.out.ty ea; obtain ⟨c2, t2, h2, rfl | rfl⟩ := hxx _ hx <;> exact blk_ne2 h1 h2 (by decide) rfl))
  have HQInt_4 : Hid (∀ e ∈ yInt, e.len ≤ 17592186044345 ∧ e.n ≤ 1152921504606846976 ∧ P1 mkInt 1 3 w4 Bo e ∧ P2 mkInt 1 3 w4 Bo e) := Lib.hid (fun e he => ⟨(HQInt_3.out e he).1, (HQInt_3.out e he).2.1, (HQInt_3.out e he).2.2.1.kept hk (fun a ea hx => by obtain ⟨c1, h1⟩ := (HQInt_3.out e he).2.2.1.ty ea; obtain ⟨c2, t2, h2, rfl | rfl⟩ := hxx _ hx <;> exact blk_ne2 h1 h2 (by decide) rfl), (HQInt_3.out e he).2.2.2.1, (HQInt_3.out e he).2.2.2.2.kept hk (fun a ea hx => by obtain ⟨c1, h1⟩ := (HQInt_3.out e he).2.2.2.2.ty ea; obtain ⟨c2, t2, h2, rfl | rfl⟩ := hxx _ hx <;> exact blk_ne2 h1 h2 (by decide) rfl)⟩)
  have HSWrite_4 : Hid (TkAt BkE.cells 3 99 w4 Bo SAWrite yWrite.length scWrite yWrite) := Lib.hid (by rw [hylWrite]; exact hys)
  have HQWrite_4 : Hid (∀ e ∈ yWrite, e.len ≤ 3518437208812 ∧ e.n ≤ 1152921504606846976 ∧ P1 mkWrite 3 75 w4 Bo e ∧ P2 mkWrite 3 75 w4 Bo e) := Lib.hid (fun e1 he1 => by
    obtain ⟨m, hm⟩ := List.getElem?_of_mem he1
    have hlt := (List.getElem?_eq_some_iff.1 hm).1
    have hxm : xWrite[m]? = some (xWrite[m]'(by omega)) := List.getElem?_eq_getElem _
    generalize xWrite[m]'(by omega) = ex at hxm
    obtain ⟨e2, he2, hgr⟩ := hyq m ex hxm
    rw [hm] at he2
    injection he2 with he2
    subst he2
    obtain ⟨g1, g2, -⟩ := HQWrite_3.out ex (List.mem_of_getElem? hxm)
    obtain ⟨a1, a2, a3, a4⟩ := hgr.same
    refine ⟨by omega, by omega, ?_, hgr.p2 rfl⟩
    have := hgr.p1
    unfold P1 at this ⊢
    rw [a1, a2, a3, a4]; exact this)
  have hylWrite_ : yWrite.length ≤ 2199023255552 := by omega
  have HFWritey : Hid (cs[4]? = some (.slice SAWrite yWrite.length scWrite)) := Lib.hid (by rw [hylWrite]; exact HFWrite.out)
  clear hys hyq
  clear hk hxx HG_3 HK_3 HSInt_3 HQInt_3 HSWrite_3 HQWrite_3
  go_wp2_with fail
  refine (growEntry_nilK g _ ((blk_cell HG_4.out 5).trans HNEntry.out)).mono ?_
  rintro e wz ⟨rfl, rfl⟩
  go_wp2_with fail
  refine (growVersion_nilK g _ ((blk_cell HG_4.out 6).trans HNVersion.out)).mono ?_
  rintro e wz ⟨rfl, rfl⟩
  go_wp2_with fail
  refine (growTxn_nilK g _ ((blk_cell HG_4.out 7).trans HNTxn.out)).mono ?_
  rintro e wz ⟨rfl, rfl⟩
  go_wp2_with fail
  refine (growHeld_nilK g _ ((blk_cell HG_4.out 8).trans HNHeld.out)).mono ?_
  rintro e wz ⟨rfl, rfl⟩
  go_wp2_with fail
  refine (growHeldList_nilK g _ ((blk_cell HG_4.out 9).trans HNHeldList.out)).mono ?_
  rintro e wz ⟨rfl, rfl⟩
  go_wp2_with fail
  refine (growEvent_nilK g _ ((blk_cell HG_4.out 10).trans HNEvent.out)).mono ?_
  rintro e wz ⟨rfl, rfl⟩
  go_wp2_with fail
  refine (growAnswer_nilK g _ ((blk_cell HG_4.out 11).trans HNAnswer.out)).mono ?_
  rintro e wz ⟨rfl, rfl⟩
  go_wp2_with fail
  refine (lookByte_nilK g _ ((blk_cell HG_4.out 1).trans HNByte.out)).mono ?_
  rintro e wz ⟨rfl, rfl⟩
  go_wp2_with fail
  refine (lookInt_any g Bo yInt SAInt scInt _ ⟨cs, HG_4.out, HFInty.out⟩ HSInt_4.out HQInt_4.out (Nat.le_trans lo2 HK_4.out.size) (HT.out.next (HK_4.out.below lo2 HXl.out)) (by omega)).mono ?_
  rintro e w5 ⟨rfl, hb⟩
  have HG_5 := Lib.hid ((hb.block _ (blk_lt HG_4.out)).trans HG_4.out)
  have HK_5 := Lib.hid (HK_4.out.trans (Kept.of_below hb))
  have HSWrite_5 := Lib.hid (HSWrite_4.out.below hb)
  have HQWrite_5 : Hid (∀ e ∈ yWrite, e.len ≤ 3518437208812 ∧ e.n ≤ 1152921504606846976 ∧ P1 mkWrite 3 75 w5 Bo e ∧ P2 mkWrite 3 75 w5 Bo e) := Lib.hid (fun e he => ⟨(HQWrite_4.out e he).1, (HQWrite_4.out e he).2.1, (HQWrite_4.out e he).2.2.1.below hb, (HQWrite_4.out e he).2.2.2.1, (HQWrite_4.out e he).2.2.2.2.below hb⟩)
  clear hb HG_4 HK_4 HSWrite_4 HQWrite_4
  go_wp2_with fail
  refine (lookText_nilK g _ ((blk_cell HG_5.out 3).trans HNText.out)).mono ?_
  rintro e wz ⟨rfl, rfl⟩
  go_wp2_with fail
  refine (lookWrite_any g Bo yWrite SAWrite scWrite _ ⟨cs, HG_5.out, HFWritey.out⟩ HSWrite_5.out HQWrite_5.out (Nat.le_trans lo2 HK_5.out.size) (HT.out.next (HK_5.out.below lo2 HXl.out)) (by omega)).mono ?_
  rintro e w6 ⟨rfl, hb⟩
  have HG_6 := Lib.hid ((hb.block _ (blk_lt HG_5.out)).trans HG_5.out)
  have HK_6 := Lib.hid (HK_5.out.trans (Kept.of_below hb))
  clear hb HG_5 HK_5
  go_wp2_with fail
  refine (lookEntry_nilK g _ ((blk_cell HG_6.out 5).trans HNEntry.out)).mono ?_
  rintro e wz ⟨rfl, rfl⟩
  go_wp2_with fail
  refine (lookVersion_nilK g _ ((blk_cell HG_6.out 6).trans HNVersion.out)).mono ?_
  rintro e wz ⟨rfl, rfl⟩
  go_wp2_with fail
  refine (lookTxn_nilK g _ ((blk_cell HG_6.out 7).trans HNTxn.out)).mono ?_
  rintro e wz ⟨rfl, rfl⟩
  go_wp2_with fail
  refine (lookHeld_nilK g _ ((blk_cell HG_6.out 8).trans HNHeld.out)).mono ?_
  rintro e wz ⟨rfl, rfl⟩
  go_wp2_with fail
  refine (lookHeldList_nilK g _ ((blk_cell HG_6.out 9).trans HNHeldList.out)).mono ?_
  rintro e wz ⟨rfl, rfl⟩
  go_wp2_with fail
  refine (lookEvent_nilK g _ ((blk_cell HG_6.out 10).trans HNEvent.out)).mono ?_
  rintro e wz ⟨rfl, rfl⟩
  go_wp2_with fail
  refine (lookAnswer_nilK g _ ((blk_cell HG_6.out 11).trans HNAnswer.out)).mono ?_
  rintro e wz ⟨rfl, rfl⟩
  go_wp2_with fail
  go_ret
  exact ⟨rfl, HK_6.out.mono HXe.out, (HK_6.out.below lo2 HXl.out)⟩
def bookZ : Array Value := #[.int .i64 0, .slice none 0 0, .slice none 0 0, .slice none 0 0, .slice none 0 0, .slice none 0 0, .slice none 0 0, .slice none 0 0, .slice none 0 0, .slice none 0 0, .slice none 0 0, .slice none 0 0]
theorem book_newK {w : World} {g Bo : Nat} (h : w.heap[g]? = some (.cells bookZ 46 (0, 0))) (lo : Bo ≤ g) : BkAtK w g Bo 0 [] [] := by
  refine ⟨⟨lo, Nat.le_trans lo (Nat.le_of_lt (blk_lt h))⟩, by omega, ⟨bookZ, h, rfl, rfl, rfl, rfl, rfl, rfl, rfl, rfl, rfl, rfl, rfl, ?_, ?_⟩, by simp, by simp⟩
  all_goals exact ⟨none, 0, rfl, TkAt.nil _ _, by simp, List.Pairwise.nil⟩
theorem intsK_any (g Bo cnt : Nat) (xI xW : List BkE) (A : Option Addr) (len cap : Nat) (w : World) (h : BkAtK w g Bo cnt xI xW) (hp : P0 mkInt 1 3 17592186044345 w Bo ⟨A, len, cap, cnt + 1, none, 0, 0⟩) (hd : ∀ e ∈ xI, ∀ a c, e.A = some a → A = some c → a.block ≠ c.block) (hc : cnt + 1 ≤ 1152921504606846976) (hl : xI.length + 1 ≤ 2199023255552) :
    Calls Tryz.prog 18 #[.pointer (some ⟨g, 0, none⟩), .slice A len cap] w fun e w' => e = .returned (.tuple #[]) ∧ BkAtK w' g Bo (cnt + 1) (xI ++ [⟨A, len, cap, cnt + 1, none, 0, 0⟩]) xW ∧ Kept w w' (TyX w g (· = 93)) ∧ Below Bo w w' := by
  have HK := Lib.hid (tellIntK_any g Bo cnt xI xW A len cap w h hp hd hc hl)
  clear h hp hd
  go_enter Tryz.func18, Tryz.ntmps18
  go_wp2_with fail
  refine HK.out.mono ?_
  rintro e w' ⟨rfl, h1, h2, h3⟩
  have H := Lib.hid (And.intro h1 (And.intro (h2.mono fun b hb => TyX.one (P := (· = 93)) rfl b hb) h3))
  clear h1 h2 h3
  go_wp2_with fail
  exact bodyPost_end (results_none rfl _ _ _) rfl ⟨rfl, H.out⟩
theorem writesK_any (g Bo cnt : Nat) (xI xW : List BkE) (A : Option Addr) (len cap : Nat) (w : World) (h : BkAtK w g Bo cnt xI xW) (hp : P0 mkWrite 3 75 3518437208812 w Bo ⟨A, len, cap, cnt + 1, none, 0, 0⟩) (hd : ∀ e ∈ xW, ∀ a c, e.A = some a → A = some c → a.block ≠ c.block) (hc : cnt + 1 ≤ 1152921504606846976) (hl : xW.length + 1 ≤ 2199023255552) :
    Calls Tryz.prog 66 #[.pointer (some ⟨g, 0, none⟩), .slice A len cap] w fun e w' => e = .returned (.tuple #[]) ∧ BkAtK w' g Bo (cnt + 1) xI (xW ++ [⟨A, len, cap, cnt + 1, none, 0, 0⟩]) ∧ Kept w w' (TyX w g (· = 99)) ∧ Below Bo w w' := by
  have HK := Lib.hid (tellWriteK_any g Bo cnt xI xW A len cap w h hp hd hc hl)
  clear h hp hd
  go_enter Tryz.func66, Tryz.ntmps66
  go_wp2_with fail
  refine HK.out.mono ?_
  rintro e w' ⟨rfl, h1, h2, h3⟩
  have H := Lib.hid (And.intro h1 (And.intro (h2.mono fun b hb => TyX.one (P := (· = 99)) rfl b hb) h3))
  clear h1 h2 h3
  go_wp2_with fail
  exact bodyPost_end (results_none rfl _ _ _) rfl ⟨rfl, H.out⟩
theorem txnK_any (g Bo cnt : Nat) (xI xW : List BkE) (n : Int) (A : Option Addr) (len cap : Nat) (w : World) (h : BkAtK w g Bo cnt xI xW) (hp : P0 mkWrite 3 75 3518437208812 w Bo ⟨A, len, cap, cnt + 1, none, 0, 0⟩) (hd : ∀ e ∈ xW, ∀ a c, e.A = some a → A = some c → a.block ≠ c.block) (hc : cnt + 1 ≤ 1152921504606846976) (hl : xW.length + 1 ≤ 2199023255552) :
    Calls Tryz.prog 14 #[.pointer (some ⟨g, 0, none⟩), .agg #[.int .i64 n, .slice A len cap]] w fun e w' => e = .returned (.tuple #[]) ∧ BkAtK w' g Bo (cnt + 1) xI (xW ++ [⟨A, len, cap, cnt + 1, none, 0, 0⟩]) ∧ Kept w w' (TyX w g (· = 99)) ∧ Below Bo w w' := by
  have hb : ∀ o, Below w.heap.size w (w.alloc o) := fun o => (Below.refl _ _).alloc (Nat.le_refl _) _
  have HK := Lib.hid (fun o => writesK_any g Bo cnt xI xW A len cap (w.alloc o) (h.kept (Kept.of_below (X := fun _ => False) (hb o)) (fun _ h => h.elim)) (hp.more (Kept.of_below (X := fun _ => False) (hb o)) (fun _ _ h => h.elim)) hd hc hl)
  have HB := Lib.hid hb
  have Hlo := Lib.hid h.lo
  clear h hp hd hb
  go_enter Tryz.func14, Tryz.ntmps14
  go_wp2_with fail
  refine (HK.out _).mono ?_
  rintro e w' ⟨rfl, h1, h2, h3⟩
  have H := Lib.hid (And.intro h1 (And.intro (TyX.trans (Kept.of_below (HB.out _)) h2) (((HB.out _).mono Hlo.out.2).trans h3)))
  clear h1 h2 h3
  go_wp2_with fail
  exact bodyPost_end (results_none rfl _ _ _) rfl ⟨rfl, H.out⟩
end Go.Proofs.YtfafhfjmoijaeaaGreatDoor

/- towpathlaw01.Book: what it is told of transactions and entries. -/
import Derived.Test.YtafghiekpgjniaaGreatDoorBkW
import Derived.Test.YtafghiekpgjniaaGreatDoorBkE
import Derived.Test.YtafghiekpgjniaaGreatDoorBkT
namespace Go.Proofs.YtafghiekpgjniaaGreatDoor
open Go.RowKit
set_option linter.unusedVariables false
set_option linter.unusedSimpArgs false

set_option maxRecDepth 100000
theorem fillByte_nilF (g : Nat) (w : World) (hg : w.cell? ⟨g, 1, none⟩ = some (.slice none 0 0)) : Calls Tryz.prog 51 #[.pointer (some ⟨g, 0, none⟩)] w fun e w' => e = .returned (.tuple #[]) ∧ w = w' := by
  go_enter Tryz.func51, Tryz.ntmps51
  go_wp2_with fail
  go_loopw [2] (fun i wr => i = .int .i64 0 ∧ wr = w) (fun _ _ => 0)
  case atStart => exact ⟨rfl, rfl⟩
  case round =>
    obtain ⟨rfl, rfl⟩ := hrel
    go_wp2_with fail
    exact bodyPost_end (results_none rfl _ _ _) rfl ⟨rfl, rfl⟩
theorem growByte_nilF (g : Nat) (w : World) (hg : w.cell? ⟨g, 1, none⟩ = some (.slice none 0 0)) : Calls Tryz.prog 62 #[.pointer (some ⟨g, 0, none⟩)] w fun e w' => e = .returned (.tuple #[]) ∧ w = w' := by
  go_enter Tryz.func62, Tryz.ntmps62
  go_wp2_with fail
  go_loopw [2] (fun i wr => i = .int .i64 0 ∧ wr = w) (fun _ _ => 0)
  case atStart => exact ⟨rfl, rfl⟩
  case round =>
    obtain ⟨rfl, rfl⟩ := hrel
    go_wp2_with fail
    exact bodyPost_end (results_none rfl _ _ _) rfl ⟨rfl, rfl⟩
theorem lookByte_nilF (g : Nat) (w : World) (hg : w.cell? ⟨g, 1, none⟩ = some (.slice none 0 0)) : Calls Tryz.prog 73 #[.pointer (some ⟨g, 0, none⟩)] w fun e w' => e = .returned (.bool true) ∧ w = w' := by
  go_enter Tryz.func73, Tryz.ntmps73
  go_wp2_with fail
  go_loopw [3] (fun i wr => i = .int .i64 0 ∧ wr = w) (fun _ _ => 0)
  case atStart => exact ⟨rfl, rfl⟩
  case round =>
    obtain ⟨rfl, rfl⟩ := hrel
    go_wp2_with fail
    go_ret
    exact ⟨rfl, rfl⟩
theorem fillInt_nilF (g : Nat) (w : World) (hg : w.cell? ⟨g, 2, none⟩ = some (.slice none 0 0)) : Calls Tryz.prog 52 #[.pointer (some ⟨g, 0, none⟩)] w fun e w' => e = .returned (.tuple #[]) ∧ w = w' := by
  go_enter Tryz.func52, Tryz.ntmps52
  go_wp2_with fail
  go_loopw [2] (fun i wr => i = .int .i64 0 ∧ wr = w) (fun _ _ => 0)
  case atStart => exact ⟨rfl, rfl⟩
  case round =>
    obtain ⟨rfl, rfl⟩ := hrel
    go_wp2_with fail
    exact bodyPost_end (results_none rfl _ _ _) rfl ⟨rfl, rfl⟩
theorem growInt_nilF (g : Nat) (w : World) (hg : w.cell? ⟨g, 2, none⟩ = some (.slice none 0 0)) : Calls Tryz.prog 63 #[.pointer (some ⟨g, 0, none⟩)] w fun e w' => e = .returned (.tuple #[]) ∧ w = w' := by
  go_enter Tryz.func63, Tryz.ntmps63
  go_wp2_with fail
  go_loopw [2] (fun i wr => i = .int .i64 0 ∧ wr = w) (fun _ _ => 0)
  case atStart => exact ⟨rfl, rfl⟩
  case round =>
    obtain ⟨rfl, rfl⟩ := hrel
    go_wp2_with fail
    exact bodyPost_end (results_none rfl _ _ _) rfl ⟨rfl, rfl⟩
theorem lookInt_nilF (g : Nat) (w : World) (hg : w.cell? ⟨g, 2, none⟩ = some (.slice none 0 0)) : Calls Tryz.prog 74 #[.pointer (some ⟨g, 0, none⟩)] w fun e w' => e = .returned (.bool true) ∧ w = w' := by
  go_enter Tryz.func74, Tryz.ntmps74
  go_wp2_with fail
  go_loopw [3] (fun i wr => i = .int .i64 0 ∧ wr = w) (fun _ _ => 0)
  case atStart => exact ⟨rfl, rfl⟩
  case round =>
    obtain ⟨rfl, rfl⟩ := hrel
    go_wp2_with fail
    go_ret
    exact ⟨rfl, rfl⟩
theorem fillText_nilF (g : Nat) (w : World) (hg : w.cell? ⟨g, 3, none⟩ = some (.slice none 0 0)) : Calls Tryz.prog 53 #[.pointer (some ⟨g, 0, none⟩)] w fun e w' => e = .returned (.tuple #[]) ∧ w = w' := by
  go_enter Tryz.func53, Tryz.ntmps53
  go_wp2_with fail
  go_loopw [2] (fun i wr => i = .int .i64 0 ∧ wr = w) (fun _ _ => 0)
  case atStart => exact ⟨rfl, rfl⟩
  case round =>
    obtain ⟨rfl, rfl⟩ := hrel
    go_wp2_with fail
    exact bodyPost_end (results_none rfl _ _ _) rfl ⟨rfl, rfl⟩
theorem growText_nilF (g : Nat) (w : World) (hg : w.cell? ⟨g, 3, none⟩ = some (.slice none 0 0)) : Calls Tryz.prog 64 #[.pointer (some ⟨g, 0, none⟩)] w fun e w' => e = .returned (.tuple #[]) ∧ w = w' := by
  go_enter Tryz.func64, Tryz.ntmps64
  go_wp2_with fail
  go_loopw [2] (fun i wr => i = .int .i64 0 ∧ wr = w) (fun _ _ => 0)
  case atStart => exact ⟨rfl, rfl⟩
  case round =>
    obtain ⟨rfl, rfl⟩ := hrel
    go_wp2_with fail
    exact bodyPost_end (results_none rfl _ _ _) rfl ⟨rfl, rfl⟩
theorem lookText_nilF (g : Nat) (w : World) (hg : w.cell? ⟨g, 3, none⟩ = some (.slice none 0 0)) : Calls Tryz.prog 75 #[.pointer (some ⟨g, 0, none⟩)] w fun e w' => e = .returned (.bool true) ∧ w = w' := by
  go_enter Tryz.func75, Tryz.ntmps75
  go_wp2_with fail
  go_loopw [3] (fun i wr => i = .int .i64 0 ∧ wr = w) (fun _ _ => 0)
  case atStart => exact ⟨rfl, rfl⟩
  case round =>
    obtain ⟨rfl, rfl⟩ := hrel
    go_wp2_with fail
    go_ret
    exact ⟨rfl, rfl⟩
theorem fillVersion_nilF (g : Nat) (w : World) (hg : w.cell? ⟨g, 6, none⟩ = some (.slice none 0 0)) : Calls Tryz.prog 56 #[.pointer (some ⟨g, 0, none⟩)] w fun e w' => e = .returned (.tuple #[]) ∧ w = w' := by
  go_enter Tryz.func56, Tryz.ntmps56
  go_wp2_with fail
  go_loopw [2] (fun i wr => i = .int .i64 0 ∧ wr = w) (fun _ _ => 0)
  case atStart => exact ⟨rfl, rfl⟩
  case round =>
    obtain ⟨rfl, rfl⟩ := hrel
    go_wp2_with fail
    exact bodyPost_end (results_none rfl _ _ _) rfl ⟨rfl, rfl⟩
theorem growVersion_nilF (g : Nat) (w : World) (hg : w.cell? ⟨g, 6, none⟩ = some (.slice none 0 0)) : Calls Tryz.prog 67 #[.pointer (some ⟨g, 0, none⟩)] w fun e w' => e = .returned (.tuple #[]) ∧ w = w' := by
  go_enter Tryz.func67, Tryz.ntmps67
  go_wp2_with fail
  go_loopw [2] (fun i wr => i = .int .i64 0 ∧ wr = w) (fun _ _ => 0)
  case atStart => exact ⟨rfl, rfl⟩
  case round =>
    obtain ⟨rfl, rfl⟩ := hrel
    go_wp2_with fail
    exact bodyPost_end (results_none rfl _ _ _) rfl ⟨rfl, rfl⟩
theorem lookVersion_nilF (g : Nat) (w : World) (hg : w.cell? ⟨g, 6, none⟩ = some (.slice none 0 0)) : Calls Tryz.prog 78 #[.pointer (some ⟨g, 0, none⟩)] w fun e w' => e = .returned (.bool true) ∧ w = w' := by
  go_enter Tryz.func78, Tryz.ntmps78
  go_wp2_with fail
  go_loopw [3] (fun i wr => i = .int .i64 0 ∧ wr = w) (fun _ _ => 0)
  case atStart => exact ⟨rfl, rfl⟩
  case round =>
    obtain ⟨rfl, rfl⟩ := hrel
    go_wp2_with fail
    go_ret
    exact ⟨rfl, rfl⟩
theorem fillHeld_nilF (g : Nat) (w : World) (hg : w.cell? ⟨g, 8, none⟩ = some (.slice none 0 0)) : Calls Tryz.prog 58 #[.pointer (some ⟨g, 0, none⟩)] w fun e w' => e = .returned (.tuple #[]) ∧ w = w' := by
  go_enter Tryz.func58, Tryz.ntmps58
  go_wp2_with fail
  go_loopw [2] (fun i wr => i = .int .i64 0 ∧ wr = w) (fun _ _ => 0)
  case atStart => exact ⟨rfl, rfl⟩
  case round =>
    obtain ⟨rfl, rfl⟩ := hrel
    go_wp2_with fail
    exact bodyPost_end (results_none rfl _ _ _) rfl ⟨rfl, rfl⟩
theorem growHeld_nilF (g : Nat) (w : World) (hg : w.cell? ⟨g, 8, none⟩ = some (.slice none 0 0)) : Calls Tryz.prog 69 #[.pointer (some ⟨g, 0, none⟩)] w fun e w' => e = .returned (.tuple #[]) ∧ w = w' := by
  go_enter Tryz.func69, Tryz.ntmps69
  go_wp2_with fail
  go_loopw [2] (fun i wr => i = .int .i64 0 ∧ wr = w) (fun _ _ => 0)
  case atStart => exact ⟨rfl, rfl⟩
  case round =>
    obtain ⟨rfl, rfl⟩ := hrel
    go_wp2_with fail
    exact bodyPost_end (results_none rfl _ _ _) rfl ⟨rfl, rfl⟩
theorem lookHeld_nilF (g : Nat) (w : World) (hg : w.cell? ⟨g, 8, none⟩ = some (.slice none 0 0)) : Calls Tryz.prog 80 #[.pointer (some ⟨g, 0, none⟩)] w fun e w' => e = .returned (.bool true) ∧ w = w' := by
  go_enter Tryz.func80, Tryz.ntmps80
  go_wp2_with fail
  go_loopw [3] (fun i wr => i = .int .i64 0 ∧ wr = w) (fun _ _ => 0)
  case atStart => exact ⟨rfl, rfl⟩
  case round =>
    obtain ⟨rfl, rfl⟩ := hrel
    go_wp2_with fail
    go_ret
    exact ⟨rfl, rfl⟩
theorem fillHeldList_nilF (g : Nat) (w : World) (hg : w.cell? ⟨g, 9, none⟩ = some (.slice none 0 0)) : Calls Tryz.prog 59 #[.pointer (some ⟨g, 0, none⟩)] w fun e w' => e = .returned (.tuple #[]) ∧ w = w' := by
  go_enter Tryz.func59, Tryz.ntmps59
  go_wp2_with fail
  go_loopw [2] (fun i wr => i = .int .i64 0 ∧ wr = w) (fun _ _ => 0)
  case atStart => exact ⟨rfl, rfl⟩
  case round =>
    obtain ⟨rfl, rfl⟩ := hrel
    go_wp2_with fail
    exact bodyPost_end (results_none rfl _ _ _) rfl ⟨rfl, rfl⟩
theorem growHeldList_nilF (g : Nat) (w : World) (hg : w.cell? ⟨g, 9, none⟩ = some (.slice none 0 0)) : Calls Tryz.prog 70 #[.pointer (some ⟨g, 0, none⟩)] w fun e w' => e = .returned (.tuple #[]) ∧ w = w' := by
  go_enter Tryz.func70, Tryz.ntmps70
  go_wp2_with fail
  go_loopw [2] (fun i wr => i = .int .i64 0 ∧ wr = w) (fun _ _ => 0)
  case atStart => exact ⟨rfl, rfl⟩
  case round =>
    obtain ⟨rfl, rfl⟩ := hrel
    go_wp2_with fail
    exact bodyPost_end (results_none rfl _ _ _) rfl ⟨rfl, rfl⟩
theorem lookHeldList_nilF (g : Nat) (w : World) (hg : w.cell? ⟨g, 9, none⟩ = some (.slice none 0 0)) : Calls Tryz.prog 81 #[.pointer (some ⟨g, 0, none⟩)] w fun e w' => e = .returned (.bool true) ∧ w = w' := by
  go_enter Tryz.func81, Tryz.ntmps81
  go_wp2_with fail
  go_loopw [3] (fun i wr => i = .int .i64 0 ∧ wr = w) (fun _ _ => 0)
  case atStart => exact ⟨rfl, rfl⟩
  case round =>
    obtain ⟨rfl, rfl⟩ := hrel
    go_wp2_with fail
    go_ret
    exact ⟨rfl, rfl⟩
theorem fillEvent_nilF (g : Nat) (w : World) (hg : w.cell? ⟨g, 10, none⟩ = some (.slice none 0 0)) : Calls Tryz.prog 60 #[.pointer (some ⟨g, 0, none⟩)] w fun e w' => e = .returned (.tuple #[]) ∧ w = w' := by
  go_enter Tryz.func60, Tryz.ntmps60
  go_wp2_with fail
  go_loopw [2] (fun i wr => i = .int .i64 0 ∧ wr = w) (fun _ _ => 0)
  case atStart => exact ⟨rfl, rfl⟩
  case round =>
    obtain ⟨rfl, rfl⟩ := hrel
    go_wp2_with fail
    exact bodyPost_end (results_none rfl _ _ _) rfl ⟨rfl, rfl⟩
theorem growEvent_nilF (g : Nat) (w : World) (hg : w.cell? ⟨g, 10, none⟩ = some (.slice none 0 0)) : Calls Tryz.prog 71 #[.pointer (some ⟨g, 0, none⟩)] w fun e w' => e = .returned (.tuple #[]) ∧ w = w' := by
  go_enter Tryz.func71, Tryz.ntmps71
  go_wp2_with fail
  go_loopw [2] (fun i wr => i = .int .i64 0 ∧ wr = w) (fun _ _ => 0)
  case atStart => exact ⟨rfl, rfl⟩
  case round =>
    obtain ⟨rfl, rfl⟩ := hrel
    go_wp2_with fail
    exact bodyPost_end (results_none rfl _ _ _) rfl ⟨rfl, rfl⟩
theorem lookEvent_nilF (g : Nat) (w : World) (hg : w.cell? ⟨g, 10, none⟩ = some (.slice none 0 0)) : Calls Tryz.prog 82 #[.pointer (some ⟨g, 0, none⟩)] w fun e w' => e = .returned (.bool true) ∧ w = w' := by
  go_enter Tryz.func82, Tryz.ntmps82
  go_wp2_with fail
  go_loopw [3] (fun i wr => i = .int .i64 0 ∧ wr = w) (fun _ _ => 0)
  case atStart => exact ⟨rfl, rfl⟩
  case round =>
    obtain ⟨rfl, rfl⟩ := hrel
    go_wp2_with fail
    go_ret
    exact ⟨rfl, rfl⟩
theorem fillAnswer_nilF (g : Nat) (w : World) (hg : w.cell? ⟨g, 11, none⟩ = some (.slice none 0 0)) : Calls Tryz.prog 61 #[.pointer (some ⟨g, 0, none⟩)] w fun e w' => e = .returned (.tuple #[]) ∧ w = w' := by
  go_enter Tryz.func61, Tryz.ntmps61
  go_wp2_with fail
  go_loopw [2] (fun i wr => i = .int .i64 0 ∧ wr = w) (fun _ _ => 0)
  case atStart => exact ⟨rfl, rfl⟩
  case round =>
    obtain ⟨rfl, rfl⟩ := hrel
    go_wp2_with fail
    exact bodyPost_end (results_none rfl _ _ _) rfl ⟨rfl, rfl⟩
theorem growAnswer_nilF (g : Nat) (w : World) (hg : w.cell? ⟨g, 11, none⟩ = some (.slice none 0 0)) : Calls Tryz.prog 72 #[.pointer (some ⟨g, 0, none⟩)] w fun e w' => e = .returned (.tuple #[]) ∧ w = w' := by
  go_enter Tryz.func72, Tryz.ntmps72
  go_wp2_with fail
  go_loopw [2] (fun i wr => i = .int .i64 0 ∧ wr = w) (fun _ _ => 0)
  case atStart => exact ⟨rfl, rfl⟩
  case round =>
    obtain ⟨rfl, rfl⟩ := hrel
    go_wp2_with fail
    exact bodyPost_end (results_none rfl _ _ _) rfl ⟨rfl, rfl⟩
theorem lookAnswer_nilF (g : Nat) (w : World) (hg : w.cell? ⟨g, 11, none⟩ = some (.slice none 0 0)) : Calls Tryz.prog 83 #[.pointer (some ⟨g, 0, none⟩)] w fun e w' => e = .returned (.bool true) ∧ w = w' := by
  go_enter Tryz.func83, Tryz.ntmps83
  go_wp2_with fail
  go_loopw [3] (fun i wr => i = .int .i64 0 ∧ wr = w) (fun _ _ => 0)
  case atStart => exact ⟨rfl, rfl⟩
  case round =>
    obtain ⟨rfl, rfl⟩ := hrel
    go_wp2_with fail
    go_ret
    exact ⟨rfl, rfl⟩
/-- A book that lies in g: it has been told so many lists. -/
structure BkAtF (w : World) (g Bo cnt : Nat) (xWrite xEntry xTxn : List BkE) : Prop where
  lo : Bo ≤ g ∧ Bo ≤ w.heap.size
  num : cnt ≤ 1152921504606846976
  st : ∃ cs, w.heap[g]? = some (.cells cs 44 (0, 0)) ∧ cs.size = 12 ∧ cs[0]? = some (.int .i64 cnt) ∧ cs[1]? = some (.slice none 0 0) ∧ cs[2]? = some (.slice none 0 0) ∧ cs[3]? = some (.slice none 0 0) ∧ cs[6]? = some (.slice none 0 0) ∧ cs[8]? = some (.slice none 0 0) ∧ cs[9]? = some (.slice none 0 0) ∧ cs[10]? = some (.slice none 0 0) ∧ cs[11]? = some (.slice none 0 0) ∧ KdQ 196 4 (fun w e => P0 mkWrite 3 87 3518437208812 w Bo e) w Bo cs xWrite ∧ KdQ 185 5 (fun w e => P0 mkEntry 2 116 4398046511033 w Bo e) w Bo cs xEntry ∧ KdQ 183 7 (fun w e => P0 mkTxn 2 64 4398046511033 w Bo e) w Bo cs xTxn
  lWrite : xWrite.length ≤ 2199023255552
  lEntry : xEntry.length ≤ 2199023255552
  lTxn : xTxn.length ≤ 2199023255552
/-- No block of a book, of its own lists, of the lists that it was told. -/
def FarBF (w : World) (g : Nat) (xWrite xEntry xTxn : List BkE) (b : Nat) : Prop := b ≠ g ∧ ¬ InE xWrite b ∧ ¬ InE xEntry b ∧ ¬ InE xTxn b ∧ (∀ cs, w.heap[b]? ≠ some (.cells cs 196 (0, 0))) ∧ (∀ cs, w.heap[b]? ≠ some (.cells cs 185 (0, 0))) ∧ (∀ cs, w.heap[b]? ≠ some (.cells cs 183 (0, 0)))
theorem BkAtF.kept {w w' : World} {g Bo cnt : Nat} {xWrite xEntry xTxn : List BkE} {X : Nat → Prop} (h : BkAtF w g Bo cnt xWrite xEntry xTxn) (k : Kept w w' X) (hX : ∀ b, X b → FarBF w g xWrite xEntry xTxn b) : BkAtF w' g Bo cnt xWrite xEntry xTxn := by
  obtain ⟨lo, num, ⟨cs, hg, hz, h0, nByte, nInt, nText, nVersion, nHeld, nHeldList, nEvent, nAnswer, kWrite, kEntry, kTxn⟩, lWrite, lEntry, lTxn⟩ := h
  refine ⟨⟨lo.1, Nat.le_trans lo.2 k.size⟩, num, ⟨cs, k.blk hg (blk_lt hg) (fun hx => (hX _ hx).1 rfl), hz, h0, nByte, nInt, nText, nVersion, nHeld, nHeldList, nEvent, nAnswer, ?_, ?_, ?_⟩, lWrite, lEntry, lTxn⟩
  · obtain ⟨SA, sc, q1, q2, q3, q4⟩ := kWrite
    exact ⟨SA, sc, q1, q2.kept k (fun a ea hx => by obtain ⟨c, hc⟩ := q2.ty ea; exact (hX _ hx).2.2.2.2.1 c hc), fun e he => (q3 e he).more k (fun a ea hx => (hX _ hx).2.1 ⟨e, he, a, ea, rfl⟩), q4⟩
  · obtain ⟨SA, sc, q1, q2, q3, q4⟩ := kEntry
    exact ⟨SA, sc, q1, q2.kept k (fun a ea hx => by obtain ⟨c, hc⟩ := q2.ty ea; exact (hX _ hx).2.2.2.2.2.1 c hc), fun e he => (q3 e he).more k (fun a ea hx => (hX _ hx).2.2.1 ⟨e, he, a, ea, rfl⟩), q4⟩
  · obtain ⟨SA, sc, q1, q2, q3, q4⟩ := kTxn
    exact ⟨SA, sc, q1, q2.kept k (fun a ea hx => by obtain ⟨c, hc⟩ := q2.ty ea; exact (hX _ hx).2.2.2.2.2.2 c hc), fun e he => (q3 e he).more k (fun a ea hx => (hX _ hx).2.2.2.1 ⟨e, he, a, ea, rfl⟩), q4⟩
set_option maxHeartbeats 2000000 in
theorem tellWriteF_any (g Bo cnt : Nat) (xWrite xEntry xTxn : List BkE) (A : Option Addr) (len cap : Nat) (w : World) (h : BkAtF w g Bo cnt xWrite xEntry xTxn) (hp : P0 mkWrite 3 87 3518437208812 w Bo ⟨A, len, cap, cnt + 1, none, 0, 0⟩) (hd : ∀ e ∈ xWrite, ∀ a c, e.A = some a → A = some c → a.block ≠ c.block) (hc : cnt + 1 ≤ 1152921504606846976) (hl : xWrite.length + 1 ≤ 2199023255552) :
    Calls Tryz.prog 205 #[.pointer (some ⟨g, 0, none⟩), .slice A len cap] w fun e w' => e = .returned (.tuple #[]) ∧ BkAtF w' g Bo (cnt + 1) (xWrite ++ [⟨A, len, cap, cnt + 1, none, 0, 0⟩]) xEntry xTxn ∧ Kept w w' (fun b => b = g ∨ ∃ cs, w.heap[b]? = some (.cells cs 196 (0, 0))) ∧ Below Bo w w' := by
  obtain ⟨lo, num, ⟨cs, hg, hz, h0, nByte, nInt, nText, nVersion, nHeld, nHeldList, nEvent, nAnswer, kWrite, kEntry, kTxn⟩, lWrite, lEntry, lTxn⟩ := h
  obtain ⟨SA, sc, q1, q2, q3, q4⟩ := kWrite
  refine (keepWrite_any g Bo cnt cs xWrite SA sc A len cap w hg hz h0 q1 q2 lo.2 (by omega) num).mono fun e w' he => ?_
  obtain ⟨rfl, SA', sc', g1, g2, g3, g4⟩ := he
  have hX : ∀ b, (b = g ∨ ∃ a, SA = some a ∧ b = a.block) → ∃ c t, w.heap[b]? = some (.cells c t (0, 0)) ∧ (t = 44 ∨ t = 196) := fun b hb => by
    rcases hb with rfl | ⟨a, ea, rfl⟩
    · exact ⟨_, _, hg, Or.inl rfl⟩
    · obtain ⟨c, hc⟩ := q2.ty ea; exact ⟨c, _, hc, Or.inr rfl⟩
  refine ⟨rfl, ⟨⟨lo.1, Nat.le_trans lo.2 g3.size⟩, hc, ⟨_, g1, by simp [hz], by rw [Array.getElem?_setIfInBounds_ne (by omega), Array.getElem?_setIfInBounds_self_of_lt (by rw [hz]; omega)], by rw [Array.getElem?_setIfInBounds_ne (by omega), Array.getElem?_setIfInBounds_ne (by omega)]; exact nByte, by rw [Array.getElem?_setIfInBounds_ne (by omega), Array.getElem?_setIfInBounds_ne (by omega)]; exact nInt, by rw [Array.getElem?_setIfInBounds_ne (by omega), Array.getElem?_setIfInBounds_ne (by omega)]; exact nText, by rw [Array.getElem?_setIfInBounds_ne (by omega), Array.getElem?_setIfInBounds_ne (by omega)]; exact nVersion, by rw [Array.getElem?_setIfInBounds_ne (by omega), Array.getElem?_setIfInBounds_ne (by omega)]; exact nHeld, by rw [Array.getElem?_setIfInBounds_ne (by omega), Array.getElem?_setIfInBounds_ne (by omega)]; exact nHeldList, by rw [Array.getElem?_setIfInBounds_ne (by omega), Array.getElem?_setIfInBounds_ne (by omega)]; exact nEvent, by rw [Array.getElem?_setIfInBounds_ne (by omega), Array.getElem?_setIfInBounds_ne (by omega)]; exact nAnswer, ?_, ?_, ?_⟩, by simpa using hl, lEntry, lTxn⟩, ?_, ?_⟩
  · refine ⟨SA', sc', by rw [Array.getElem?_setIfInBounds_self_of_lt (by simp [hz])]; simp, by simpa using g2, fun e he => ?_, ?_⟩
    · rcases List.mem_append.1 he with he | he
      · exact (q3 e he).more g3 (fun a ea hx => by obtain ⟨c1, h1⟩ := (q3 e he).tk.ty ea; obtain ⟨c2, t2, h2, rfl | rfl⟩ := hX _ hx <;> exact blk_ne2 h1 h2 (by decide) rfl)
      · simp at he; subst he
        exact hp.more g3 (fun a ea hx => by obtain ⟨c1, h1⟩ := hp.tk.ty ea; obtain ⟨c2, t2, h2, rfl | rfl⟩ := hX _ hx <;> exact blk_ne2 h1 h2 (by decide) rfl)
    · refine List.pairwise_append.2 ⟨q4, List.pairwise_singleton _ _, fun e he f hf a c ea ec => ?_⟩
      simp at hf; subst hf
      exact hd e he a c ea ec
  · obtain ⟨SB, sd, r1, r2, r3, r4⟩ := kEntry
    exact ⟨SB, sd, by rw [Array.getElem?_setIfInBounds_ne (by omega), Array.getElem?_setIfInBounds_ne (by omega)]; exact r1, r2.kept g3 (fun a ea hx => by obtain ⟨c1, h1⟩ := r2.ty ea; obtain ⟨c2, t2, h2, rfl | rfl⟩ := hX _ hx <;> exact blk_ne2 h1 h2 (by decide) rfl), fun e he => (r3 e he).more g3 (fun a ea hx => by obtain ⟨c1, h1⟩ := (r3 e he).tk.ty ea; obtain ⟨c2, t2, h2, rfl | rfl⟩ := hX _ hx <;> exact blk_ne2 h1 h2 (by decide) rfl), r4⟩
  · obtain ⟨SB, sd, r1, r2, r3, r4⟩ := kTxn
    exact ⟨SB, sd, by rw [Array.getElem?_setIfInBounds_ne (by omega), Array.getElem?_setIfInBounds_ne (by omega)]; exact r1, r2.kept g3 (fun a ea hx => by obtain ⟨c1, h1⟩ := r2.ty ea; obtain ⟨c2, t2, h2, rfl | rfl⟩ := hX _ hx <;> exact blk_ne2 h1 h2 (by decide) rfl), fun e he => (r3 e he).more g3 (fun a ea hx => by obtain ⟨c1, h1⟩ := (r3 e he).tk.ty ea; obtain ⟨c2, t2, h2, rfl | rfl⟩ := hX _ hx <;> exact blk_ne2 h1 h2 (by decide) rfl), r4⟩
  · exact g3.mono fun b hb => hb.imp id (fun ⟨a, ea, eb⟩ => by rw [eb]; exact q2.ty ea)
  · exact g3.below lo.2 (fun b hb => by rcases hb with rfl | ⟨a, ea, rfl⟩; exact lo.1; exact (q2.lt ea).1)
set_option maxHeartbeats 2000000 in
theorem tellEntryF_any (g Bo cnt : Nat) (xWrite xEntry xTxn : List BkE) (A : Option Addr) (len cap : Nat) (w : World) (h : BkAtF w g Bo cnt xWrite xEntry xTxn) (hp : P0 mkEntry 2 116 4398046511033 w Bo ⟨A, len, cap, cnt + 1, none, 0, 0⟩) (hd : ∀ e ∈ xEntry, ∀ a c, e.A = some a → A = some c → a.block ≠ c.block) (hc : cnt + 1 ≤ 1152921504606846976) (hl : xEntry.length + 1 ≤ 2199023255552) :
    Calls Tryz.prog 50 #[.pointer (some ⟨g, 0, none⟩), .slice A len cap] w fun e w' => e = .returned (.tuple #[]) ∧ BkAtF w' g Bo (cnt + 1) xWrite (xEntry ++ [⟨A, len, cap, cnt + 1, none, 0, 0⟩]) xTxn ∧ Kept w w' (fun b => b = g ∨ ∃ cs, w.heap[b]? = some (.cells cs 185 (0, 0))) ∧ Below Bo w w' := by
  obtain ⟨lo, num, ⟨cs, hg, hz, h0, nByte, nInt, nText, nVersion, nHeld, nHeldList, nEvent, nAnswer, kWrite, kEntry, kTxn⟩, lWrite, lEntry, lTxn⟩ := h
  obtain ⟨SA, sc, q1, q2, q3, q4⟩ := kEntry
  refine (keepEntry_any g Bo cnt cs xEntry SA sc A len cap w hg hz h0 q1 q2 lo.2 (by omega) num).mono fun e w' he => ?_
  obtain ⟨rfl, SA', sc', g1, g2, g3, g4⟩ := he
  have hX : ∀ b, (b = g ∨ ∃ a, SA = some a ∧ b = a.block) → ∃ c t, w.heap[b]? = some (.cells c t (0, 0)) ∧ (t = 44 ∨ t = 185) := fun b hb => by
    rcases hb with rfl | ⟨a, ea, rfl⟩
    · exact ⟨_, _, hg, Or.inl rfl⟩
    · obtain ⟨c, hc⟩ := q2.ty ea; exact ⟨c, _, hc, Or.inr rfl⟩
  refine ⟨rfl, ⟨⟨lo.1, Nat.le_trans lo.2 g3.size⟩, hc, ⟨_, g1, by simp [hz], by rw [Array.getElem?_setIfInBounds_ne (by omega), Array.getElem?_setIfInBounds_self_of_lt (by rw [hz]; omega)], by rw [Array.getElem?_setIfInBounds_ne (by omega), Array.getElem?_setIfInBounds_ne (by omega)]; exact nByte, by rw [Array.getElem?_setIfInBounds_ne (by omega), Array.getElem?_setIfInBounds_ne (by omega)]; exact nInt, by rw [Array.getElem?_setIfInBounds_ne (by omega), Array.getElem?_setIfInBounds_ne (by omega)]; exact nText, by rw [Array.getElem?_setIfInBounds_ne (by omega), Array.getElem?_setIfInBounds_ne (by omega)]; exact nVersion, by rw [Array.getElem?_setIfInBounds_ne (by omega), Array.getElem?_setIfInBounds_ne (by omega)]; exact nHeld, by rw [Array.getElem?_setIfInBounds_ne (by omega), Array.getElem?_setIfInBounds_ne (by omega)]; exact nHeldList, by rw [Array.getElem?_setIfInBounds_ne (by omega), Array.getElem?_setIfInBounds_ne (by omega)]; exact nEvent, by rw [Array.getElem?_setIfInBounds_ne (by omega), Array.getElem?_setIfInBounds_ne (by omega)]; exact nAnswer, ?_, ?_, ?_⟩, lWrite, by simpa using hl, lTxn⟩, ?_, ?_⟩
  · obtain ⟨SB, sd, r1, r2, r3, r4⟩ := kWrite
    exact ⟨SB, sd, by rw [Array.getElem?_setIfInBounds_ne (by omega), Array.getElem?_setIfInBounds_ne (by omega)]; exact r1, r2.kept g3 (fun a ea hx => by obtain ⟨c1, h1⟩ := r2.ty ea; obtain ⟨c2, t2, h2, rfl | rfl⟩ := hX _ hx <;> exact blk_ne2 h1 h2 (by decide) rfl), fun e he => (r3 e he).more g3 (fun a ea hx => by obtain ⟨c1, h1⟩ := (r3 e he).tk.ty ea; obtain ⟨c2, t2, h2, rfl | rfl⟩ := hX _ hx <;> exact blk_ne2 h1 h2 (by decide) rfl), r4⟩
  · refine ⟨SA', sc', by rw [Array.getElem?_setIfInBounds_self_of_lt (by simp [hz])]; simp, by simpa using g2, fun e he => ?_, ?_⟩
    · rcases List.mem_append.1 he with he | he
      · exact (q3 e he).more g3 (fun a ea hx => by obtain ⟨c1, h1⟩ := (q3 e he).tk.ty ea; obtain ⟨c2, t2, h2, rfl | rfl⟩ := hX _ hx <;> exact blk_ne2 h1 h2 (by decide) rfl)
      · simp at he; subst he
        exact hp.more g3 (fun a ea hx => by obtain ⟨c1, h1⟩ := hp.tk.ty ea; obtain ⟨c2, t2, h2, rfl | rfl⟩ := hX _ hx <;> exact blk_ne2 h1 h2 (by decide) rfl)
    · refine List.pairwise_append.2 ⟨q4, List.pairwise_singleton _ _, fun e he f hf a c ea ec => ?_⟩
      simp at hf; subst hf
      exact hd e he a c ea ec
  · obtain ⟨SB, sd, r1, r2, r3, r4⟩ := kTxn
    exact ⟨SB, sd, by rw [Array.getElem?_setIfInBounds_ne (by omega), Array.getElem?_setIfInBounds_ne (by omega)]; exact r1, r2.kept g3 (fun a ea hx => by obtain ⟨c1, h1⟩ := r2.ty ea; obtain ⟨c2, t2, h2, rfl | rfl⟩ := hX _ hx <;> exact blk_ne2 h1 h2 (by decide) rfl), fun e he => (r3 e he).more g3 (fun a ea hx => by obtain ⟨c1, h1⟩ := (r3 e he).tk.ty ea; obtain ⟨c2, t2, h2, rfl | rfl⟩ := hX _ hx <;> exact blk_ne2 h1 h2 (by decide) rfl), r4⟩
  · exact g3.mono fun b hb => hb.imp id (fun ⟨a, ea, eb⟩ => by rw [eb]; exact q2.ty ea)
  · exact g3.below lo.2 (fun b hb => by rcases hb with rfl | ⟨a, ea, rfl⟩; exact lo.1; exact (q2.lt ea).1)
set_option maxHeartbeats 2000000 in
theorem tellTxnF_any (g Bo cnt : Nat) (xWrite xEntry xTxn : List BkE) (A : Option Addr) (len cap : Nat) (w : World) (h : BkAtF w g Bo cnt xWrite xEntry xTxn) (hp : P0 mkTxn 2 64 4398046511033 w Bo ⟨A, len, cap, cnt + 1, none, 0, 0⟩) (hd : ∀ e ∈ xTxn, ∀ a c, e.A = some a → A = some c → a.block ≠ c.block) (hc : cnt + 1 ≤ 1152921504606846976) (hl : xTxn.length + 1 ≤ 2199023255552) :
    Calls Tryz.prog 49 #[.pointer (some ⟨g, 0, none⟩), .slice A len cap] w fun e w' => e = .returned (.tuple #[]) ∧ BkAtF w' g Bo (cnt + 1) xWrite xEntry (xTxn ++ [⟨A, len, cap, cnt + 1, none, 0, 0⟩]) ∧ Kept w w' (fun b => b = g ∨ ∃ cs, w.heap[b]? = some (.cells cs 183 (0, 0))) ∧ Below Bo w w' := by
  obtain ⟨lo, num, ⟨cs, hg, hz, h0, nByte, nInt, nText, nVersion, nHeld, nHeldList, nEvent, nAnswer, kWrite, kEntry, kTxn⟩, lWrite, lEntry, lTxn⟩ := h
  obtain ⟨SA, sc, q1, q2, q3, q4⟩ := kTxn
  refine (keepTxn_any g Bo cnt cs xTxn SA sc A len cap w hg hz h0 q1 q2 lo.2 (by omega) num).mono fun e w' he => ?_
  obtain ⟨rfl, SA', sc', g1, g2, g3, g4⟩ := he
  have hX : ∀ b, (b = g ∨ ∃ a, SA = some a ∧ b = a.block) → ∃ c t, w.heap[b]? = some (.cells c t (0, 0)) ∧ (t = 44 ∨ t = 183) := fun b hb => by
    rcases hb with rfl | ⟨a, ea, rfl⟩
    · exact ⟨_, _, hg, Or.inl rfl⟩
    · obtain ⟨c, hc⟩ := q2.ty ea; exact ⟨c, _, hc, Or.inr rfl⟩
  refine ⟨rfl, ⟨⟨lo.1, Nat.le_trans lo.2 g3.size⟩, hc, ⟨_, g1, by simp [hz], by rw [Array.getElem?_setIfInBounds_ne (by omega), Array.getElem?_setIfInBounds_self_of_lt (by rw [hz]; omega)], by rw [Array.getElem?_setIfInBounds_ne (by omega), Array.getElem?_setIfInBounds_ne (by omega)]; exact nByte, by rw [Array.getElem?_setIfInBounds_ne (by omega), Array.getElem?_setIfInBounds_ne (by omega)]; exact nInt, by rw [Array.getElem?_setIfInBounds_ne (by omega), Array.getElem?_setIfInBounds_ne (by omega)]; exact nText, by rw [Array.getElem?_setIfInBounds_ne (by omega), Array.getElem?_setIfInBounds_ne (by omega)]; exact nVersion, by rw [Array.getElem?_setIfInBounds_ne (by omega), Array.getElem?_setIfInBounds_ne (by omega)]; exact nHeld, by rw [Array.getElem?_setIfInBounds_ne (by omega), Array.getElem?_setIfInBounds_ne (by omega)]; exact nHeldList, by rw [Array.getElem?_setIfInBounds_ne (by omega), Array.getElem?_setIfInBounds_ne (by omega)]; exact nEvent, by rw [Array.getElem?_setIfInBounds_ne (by omega), Array.getElem?_setIfInBounds_ne (by omega)]; exact nAnswer, ?_, ?_, ?_⟩, lWrite, lEntry, by simpa using hl⟩, ?_, ?_⟩
  · obtain ⟨SB, sd, r1, r2, r3, r4⟩ := kWrite
    exact ⟨SB, sd, by rw [Array.getElem?_setIfInBounds_ne (by omega), Array.getElem?_setIfInBounds_ne (by omega)]; exact r1, r2.kept g3 (fun a ea hx => by obtain ⟨c1, h1⟩ := r2.ty ea; obtain ⟨c2, t2, h2, rfl | rfl⟩ := hX _ hx <;> exact blk_ne2 h1 h2 (by decide) rfl), fun e he => (r3 e he).more g3 (fun a ea hx => by obtain ⟨c1, h1⟩ := (r3 e he).tk.ty ea; obtain ⟨c2, t2, h2, rfl | rfl⟩ := hX _ hx <;> exact blk_ne2 h1 h2 (by decide) rfl), r4⟩
  · obtain ⟨SB, sd, r1, r2, r3, r4⟩ := kEntry
    exact ⟨SB, sd, by rw [Array.getElem?_setIfInBounds_ne (by omega), Array.getElem?_setIfInBounds_ne (by omega)]; exact r1, r2.kept g3 (fun a ea hx => by obtain ⟨c1, h1⟩ := r2.ty ea; obtain ⟨c2, t2, h2, rfl | rfl⟩ := hX _ hx <;> exact blk_ne2 h1 h2 (by decide) rfl), fun e he => (r3 e he).more g3 (fun a ea hx => by obtain ⟨c1, h1⟩ := (r3 e he).tk.ty ea; obtain ⟨c2, t2, h2, rfl | rfl⟩ := hX _ hx <;> exact blk_ne2 h1 h2 (by decide) rfl), r4⟩
  · refine ⟨SA', sc', by rw [Array.getElem?_setIfInBounds_self_of_lt (by simp [hz])]; simp, by simpa using g2, fun e he => ?_, ?_⟩
    · rcases List.mem_append.1 he with he | he
      · exact (q3 e he).more g3 (fun a ea hx => by obtain ⟨c1, h1⟩ := (q3 e he).tk.ty ea; obtain ⟨c2, t2, h2, rfl | rfl⟩ := hX _ hx <;> exact blk_ne2 h1 h2 (by decide) rfl)
      · simp at he; subst he
        exact hp.more g3 (fun a ea hx => by obtain ⟨c1, h1⟩ := hp.tk.ty ea; obtain ⟨c2, t2, h2, rfl | rfl⟩ := hX _ hx <;> exact blk_ne2 h1 h2 (by decide) rfl)
    · refine List.pairwise_append.2 ⟨q4, List.pairwise_singleton _ _, fun e he f hf a c ea ec => ?_⟩
      simp at hf; subst hf
      exact hd e he a c ea ec
  · exact g3.mono fun b hb => hb.imp id (fun ⟨a, ea, eb⟩ => by rw [eb]; exact q2.ty ea)
  · exact g3.below lo.2 (fun b hb => by rcases hb with rfl | ⟨a, ea, rfl⟩; exact lo.1; exact (q2.lt ea).1)
set_option maxHeartbeats 16000000 in
theorem apartF_any (g Bo cnt : Nat) (xWrite xEntry xTxn : List BkE) (w : World) (h : BkAtF w g Bo cnt xWrite xEntry xTxn) (hT : TabB Tryz.prog Bo w) :
    Calls Tryz.prog 16 #[.pointer (some ⟨g, 0, none⟩)] w fun e w' => e = .returned (.bool true) ∧ Kept w w' (fun b => InE xWrite b ∨ InE xEntry b ∨ InE xTxn b ∨ (∃ cs, w.heap[b]? = some (.cells cs 196 (0, 0))) ∨ (∃ cs, w.heap[b]? = some (.cells cs 185 (0, 0))) ∨ (∃ cs, w.heap[b]? = some (.cells cs 183 (0, 0)))) ∧ Below Bo w w' := by
  have HT := Lib.hid hT
  obtain ⟨⟨lo1, lo2⟩, num, ⟨cs, hg, hz, h0, nByte, nInt, nText, nVersion, nHeld, nHeldList, nEvent, nAnswer, kWrite, kEntry, kTxn⟩, lWrite, lEntry, lTxn⟩ := h
  obtain ⟨SAWrite, scWrite, fWrite, sWrite, qWrite, dWrite⟩ := kWrite
  have HFWrite := Lib.hid fWrite
  have HSWrite_0 := Lib.hid sWrite
  have HQWrite_0 := Lib.hid qWrite
  have HDWrite := Lib.hid dWrite
  obtain ⟨SAEntry, scEntry, fEntry, sEntry, qEntry, dEntry⟩ := kEntry
  have HFEntry := Lib.hid fEntry
  have HSEntry_0 := Lib.hid sEntry
  have HQEntry_0 := Lib.hid qEntry
  have HDEntry := Lib.hid dEntry
  obtain ⟨SATxn, scTxn, fTxn, sTxn, qTxn, dTxn⟩ := kTxn
  have HFTxn := Lib.hid fTxn
  have HSTxn_0 := Lib.hid sTxn
  have HQTxn_0 := Lib.hid qTxn
  have HDTxn := Lib.hid dTxn
  obtain ⟨X, hX⟩ : ∃ X : Nat → Prop, X = fun b => InE xWrite b ∨ InE xEntry b ∨ InE xTxn b ∨ (∃ a, SAWrite = some a ∧ b = a.block) ∨ (∃ a, SAEntry = some a ∧ b = a.block) ∨ (∃ a, SATxn = some a ∧ b = a.block) := ⟨_, rfl⟩
  have HXl : Hid (∀ b, X b → Bo ≤ b) := Lib.hid (fun b hb => by
    rw [hX] at hb
    rcases hb with hb | hb | hb | ⟨a, ea, rfl⟩ | ⟨a, ea, rfl⟩ | ⟨a, ea, rfl⟩
    · exact InE.lo (fun e he a ha => ((qWrite e he).tk.lt ha).1) b hb
    · exact InE.lo (fun e he a ha => ((qEntry e he).tk.lt ha).1) b hb
    · exact InE.lo (fun e he a ha => ((qTxn e he).tk.lt ha).1) b hb
    · exact (sWrite.lt ea).1
    · exact (sEntry.lt ea).1
    · exact (sTxn.lt ea).1)
  have HXiWrite : Hid (∀ b, InE xWrite b → X b) := Lib.hid (fun b hb => by rw [hX]; exact Or.inl hb)
  have HXsWrite : Hid (∀ b, (∃ a, SAWrite = some a ∧ b = a.block) → X b) := Lib.hid (fun b hb => by rw [hX]; exact Or.inr (Or.inr (Or.inr (Or.inl hb))))
  have HXiEntry : Hid (∀ b, InE xEntry b → X b) := Lib.hid (fun b hb => by rw [hX]; exact Or.inr (Or.inl hb))
  have HXsEntry : Hid (∀ b, (∃ a, SAEntry = some a ∧ b = a.block) → X b) := Lib.hid (fun b hb => by rw [hX]; exact Or.inr (Or.inr (Or.inr (Or.inr (Or.inl hb)))))
  have HXiTxn : Hid (∀ b, InE xTxn b → X b) := Lib.hid (fun b hb => by rw [hX]; exact Or.inr (Or.inr (Or.inl hb)))
  have HXsTxn : Hid (∀ b, (∃ a, SATxn = some a ∧ b = a.block) → X b) := Lib.hid (fun b hb => by rw [hX]; exact Or.inr (Or.inr (Or.inr (Or.inr (Or.inr (hb))))))
  have HXe : Hid (∀ b, X b → InE xWrite b ∨ InE xEntry b ∨ InE xTxn b ∨ (∃ cs, w.heap[b]? = some (.cells cs 196 (0, 0))) ∨ (∃ cs, w.heap[b]? = some (.cells cs 185 (0, 0))) ∨ (∃ cs, w.heap[b]? = some (.cells cs 183 (0, 0)))) := Lib.hid (fun b hb => by
    rw [hX] at hb
    rcases hb with hb | hb | hb | ⟨a, ea, rfl⟩ | ⟨a, ea, rfl⟩ | ⟨a, ea, rfl⟩
    · exact Or.inl hb
    · exact Or.inr (Or.inl hb)
    · exact Or.inr (Or.inr (Or.inl hb))
    · exact Or.inr (Or.inr (Or.inr (Or.inl (sWrite.ty ea))))
    · exact Or.inr (Or.inr (Or.inr (Or.inr (Or.inl (sEntry.ty ea)))))
    · exact Or.inr (Or.inr (Or.inr (Or.inr (Or.inr ((sTxn.ty ea)))))))
  have HG_0 := Lib.hid hg
  have HK_0 : Hid (Kept w w X) := Lib.hid (Kept.refl _ _)
  have HNByte := Lib.hid nByte
  have HNInt := Lib.hid nInt
  have HNText := Lib.hid nText
  have HNVersion := Lib.hid nVersion
  have HNHeld := Lib.hid nHeld
  have HNHeldList := Lib.hid nHeldList
  have HNEvent := Lib.hid nEvent
  have HNAnswer := Lib.hid nAnswer
  clear hg hT hX h0 hz nByte nInt nText nVersion nHeld nHeldList nEvent nAnswer fWrite sWrite qWrite dWrite fEntry sEntry qEntry dEntry fTxn sTxn qTxn dTxn
  go_enter Tryz.func16, Tryz.ntmps16
  go_wp2_with fail
  refine (fillByte_nilF g _ ((blk_cell HG_0.out 1).trans HNByte.out)).mono ?_
  rintro e wz ⟨rfl, rfl⟩
  go_wp2_with fail
  refine (fillInt_nilF g _ ((blk_cell HG_0.out 2).trans HNInt.out)).mono ?_
  rintro e wz ⟨rfl, rfl⟩
  go_wp2_with fail
  refine (fillText_nilF g _ ((blk_cell HG_0.out 3).trans HNText.out)).mono ?_
  rintro e wz ⟨rfl, rfl⟩
  go_wp2_with fail
  refine (fillWrite_any g Bo xWrite SAWrite scWrite _ ⟨cs, HG_0.out, HFWrite.out⟩ HSWrite_0.out HQWrite_0.out HDWrite.out (Nat.le_trans lo2 HK_0.out.size) (HT.out.next (HK_0.out.below lo2 HXl.out)) (by omega)).mono ?_
  rintro e w1 ⟨rfl, hk, hq⟩
  have hxx : ∀ b, InE xWrite b → ∃ c, w.heap[b]? = some (.cells c 87 (0, 0)) := fun b ⟨e, he, a, ha, hb⟩ => by rw [hb]; exact (HQWrite_0.out e he).tk.ty ha
  have HK_1 : Hid (Kept w w1 X) := Lib.hid (HK_0.out.trans (hk.mono HXiWrite.out))
  have HG_1 : Hid (w1.heap[g]? = some (.cells cs 44 (0, 0))) := Lib.hid (hk.blk HG_0.out (blk_lt HG_0.out) (fun hx => by have h1 := HG_0.out; obtain ⟨c2, h2⟩ := hxx _ hx; exact blk_ne2 h1 h2 (by decide) rfl))
  have HSWrite_1 := Lib.hid (HSWrite_0.out.kept hk (fun a ea hx => by obtain ⟨c1, h1⟩ := HSWrite_0.out.ty ea; obtain ⟨c2, h2⟩ := hxx _ hx; exact blk_ne2 h1 h2 (by decide) rfl))
  have HQWrite_1 : Hid (∀ e ∈ xWrite, e.len ≤ 3518437208812 ∧ e.n ≤ 1152921504606846976 ∧ P1 mkWrite 3 87 w1 Bo e) := Lib.hid (fun e he => ⟨(HQWrite_0.out e he).lim, (HQWrite_0.out e he).num, hq e he⟩)
  have HSEntry_1 := Lib.hid (HSEntry_0.out.kept hk (fun a ea hx => by obtain ⟨c1, h1⟩ := HSEntry_0.out.ty ea; obtain ⟨c2, h2⟩ := hxx _ hx; exact blk_ne2 h1 h2 (by decide) rfl))
  have HQEntry_1 := Lib.hid (fun e he => (HQEntry_0.out e he).more hk (fun a ea hx => by obtain ⟨c1, h1⟩ := (HQEntry_0.out e he).tk.ty ea; obtain ⟨c2, h2⟩ := hxx _ hx; exact blk_ne2 h1 h2 (by decide) rfl))
  have HSTxn_1 := Lib.hid (HSTxn_0.out.kept hk (fun a ea hx => by obtain ⟨c1, h1⟩ := HSTxn_0.out.ty ea; obtain ⟨c2, h2⟩ := hxx _ hx; exact blk_ne2 h1 h2 (by decide) rfl))
  have HQTxn_1 := Lib.hid (fun e he => (HQTxn_0.out e he).more hk (fun a ea hx => by obtain ⟨c1, h1⟩ := (HQTxn_0.out e he).tk.ty ea; obtain ⟨c2, h2⟩ := hxx _ hx; exact blk_ne2 h1 h2 (by decide) rfl))
  clear hk hxx hq HG_0 HK_0 HSWrite_0 HQWrite_0 HSEntry_0 HQEntry_0 HSTxn_0 HQTxn_0
  go_wp2_with fail
  refine (fillEntry_any g Bo xEntry SAEntry scEntry _ ⟨cs, HG_1.out, HFEntry.out⟩ HSEntry_1.out HQEntry_1.out HDEntry.out (Nat.le_trans lo2 HK_1.out.size) (HT.out.next (HK_1.out.below lo2 HXl.out)) (by omega)).mono ?_
  rintro e w2 ⟨rfl, hk, hq⟩
  have hxx : ∀ b, InE xEntry b → ∃ c, w1.heap[b]? = some (.cells c 116 (0, 0)) := fun b ⟨e, he, a, ha, hb⟩ => by rw [hb]; exact (HQEntry_1.out e he).tk.ty ha
  have HK_2 : Hid (Kept w w2 X) := Lib.hid (HK_1.out.trans (hk.mono HXiEntry.out))
  have HG_2 : Hid (w2.heap[g]? = some (.cells cs 44 (0, 0))) := Lib.hid (hk.blk HG_1.out (blk_lt HG_1.out) (fun hx => by have h1 := HG_1.out; obtain ⟨c2, h2⟩ := hxx _ hx; exact blk_ne2 h1 h2 (by decide) rfl))
  have HSWrite_2 := Lib.hid (HSWrite_1.out.kept hk (fun a ea hx => by obtain ⟨c1, h1⟩ := HSWrite_1.out.ty ea; obtain ⟨c2, h2⟩ := hxx _ hx; exact blk_ne2 h1 h2 (by decide) rfl))
  have HQWrite_2 : Hid (∀ e ∈ xWrite, e.len ≤ 3518437208812 ∧ e.n ≤ 1152921504606846976 ∧ P1 mkWrite 3 87 w2 Bo e) := Lib.hid (fun e he => ⟨(HQWrite_1.out e he).1, (HQWrite_1.out e he).2.1, (HQWrite_1.out e he).2.2.kept hk (fun a ea hx => by obtain ⟨c1, h1⟩ := (HQWrite_1.out e he).2.2.ty ea; obtain ⟨c2, h2⟩ := hxx _ hx; exact blk_ne2 h1 h2 (by decide) rfl)⟩)
  have HSEntry_2 := Lib.hid (HSEntry_1.out.kept hk (fun a ea hx => by obtain ⟨c1, h1⟩ := HSEntry_1.out.ty ea; obtain ⟨c2, h2⟩ := hxx _ hx; exact blk_ne2 h1 h2 (by decide) rfl))
  have HQEntry_2 : Hid (∀ e ∈ xEntry, e.len ≤ 4398046511033 ∧ e.n ≤ 1152921504606846976 ∧ P1 mkEntry 2 116 w2 Bo e) := Lib.hid (fun e he => ⟨(HQEntry_1.out e he).lim, (HQEntry_1.out e he).num, hq e he⟩)
  have HSTxn_2 := Lib.hid (HSTxn_1.out.kept hk (fun a ea hx => by obtain ⟨c1, h1⟩ := HSTxn_1.out.ty ea; obtain ⟨c2, h2⟩ := hxx _ hx; exact blk_ne2 h1 h2 (by decide) rfl))
  have HQTxn_2 := Lib.hid (fun e he => (HQTxn_1.out e he).more hk (fun a ea hx => by obtain ⟨c1, h1⟩ := (HQTxn_1.out e he).tk.ty ea; obtain ⟨c2, h2⟩ := hxx _ hx; exact blk_ne2 h1 h2 (by decide) rfl))
  clear hk hxx hq HG_1 HK_1 HSWrite_1 HQWrite_1 HSEntry_1 HQEntry_1 HSTxn_1 HQTxn_1
  go_wp2_with fail
  refine (fillVersion_nilF g _ ((blk_cell HG_2.out 6).trans HNVersion.out)).mono ?_
  rintro e wz ⟨rfl, rfl⟩
  go_wp2_with fail
  refine (fillTxn_any g Bo xTxn SATxn scTxn _ ⟨cs, HG_2.out, HFTxn.out⟩ HSTxn_2.out HQTxn_2.out HDTxn.out (Nat.le_trans lo2 HK_2.out.size) (HT.out.next (HK_2.out.below lo2 HXl.out)) (by omega)).mono ?_
  rintro e w3 ⟨rfl, hk, hq⟩
  have hxx : ∀ b, InE xTxn b → ∃ c, w2.heap[b]? = some (.cells c 64 (0, 0)) := fun b ⟨e, he, a, ha, hb⟩ => by rw [hb]; exact (HQTxn_2.out e he).tk.ty ha
  have HK_3 : Hid (Kept w w3 X) := Lib.hid (HK_2.out.trans (hk.mono HXiTxn.out))
  have HG_3 : Hid (w3.heap[g]? = some (.cells cs 44 (0, 0))) := Lib.hid (hk.blk HG_2.out (blk_lt HG_2.out) (fun hx => by have h1 := HG_2.out; obtain ⟨c2, h2⟩ := hxx _ hx; exact blk_ne2 h1 h2 (by decide) rfl))
  have HSWrite_3 := Lib.hid (HSWrite_2.out.kept hk (fun a ea hx => by obtain ⟨c1, h1⟩ := HSWrite_2.out.ty ea; obtain ⟨c2, h2⟩ := hxx _ hx; exact blk_ne2 h1 h2 (by decide) rfl))
  have HQWrite_3 : Hid (∀ e ∈ xWrite, e.len ≤ 3518437208812 ∧ e.n ≤ 1152921504606846976 ∧ P1 mkWrite 3 87 w3 Bo e) := Lib.hid (fun e he => ⟨(HQWrite_2.out e he).1, (HQWrite_2.out e he).2.1, (HQWrite_2.out e he).2.2.kept hk (fun a ea hx => by obtain ⟨c1, h1⟩ := (HQWrite_2.out e he).2.2.ty ea; obtain ⟨c2, h2⟩ := hxx _ hx; exact blk_ne2 h1 h2 (by decide) rfl)⟩)
  have HSEntry_3 := Lib.hid (HSEntry_2.out.kept hk (fun a ea hx => by obtain ⟨c1, h1⟩ := HSEntry_2.out.ty ea; obtain ⟨c2, h2⟩ := hxx _ hx; exact blk_ne2 h1 h2 (by decide) rfl))
  have HQEntry_3 : Hid (∀ e ∈ xEntry, e.len ≤ 4398046511033 ∧ e.n ≤ 1152921504606846976 ∧ P1 mkEntry 2 116 w3 Bo e) := Lib.hid (fun e he => ⟨(HQEntry_2.out e he).1, (HQEntry_2.out e he).2.1, (HQEntry_2.out e he).2.2.kept hk (fun a ea hx => by obtain ⟨c1, h1⟩ := (HQEntry_2.out e he).2.2.ty ea; obtain ⟨c2, h2⟩ := hxx _ hx; exact blk_ne2 h1 h2 (by decide) rfl)⟩)
  have HSTxn_3 := Lib.hid (HSTxn_2.out.kept hk (fun a ea hx => by obtain ⟨c1, h1⟩ := HSTxn_2.out.ty ea; obtain ⟨c2, h2⟩ := hxx _ hx; exact blk_ne2 h1 h2 (by decide) rfl))
  have HQTxn_3 : Hid (∀ e ∈ xTxn, e.len ≤ 4398046511033 ∧ e.n ≤ 1152921504606846976 ∧ P1 mkTxn 2 64 w3 Bo e) := Lib.hid (fun e he => ⟨(HQTxn_2.out e he).lim, (HQTxn_2.out e he).num, hq e he⟩)
  clear hk hxx hq HG_2 HK_2 HSWrite_2 HQWrite_2 HSEntry_2 HQEntry_2 HSTxn_2 HQTxn_2
  go_wp2_with fail
  refine (fillHeld_nilF g _ ((blk_cell HG_3.out 8).trans HNHeld.out)).mono ?_
  rintro e wz ⟨rfl, rfl⟩
  go_wp2_with fail
  refine (fillHeldList_nilF g _ ((blk_cell HG_3.out 9).trans HNHeldList.out)).mono ?_
  rintro e wz ⟨rfl, rfl⟩
  go_wp2_with fail
  refine (fillEvent_nilF g _ ((blk_cell HG_3.out 10).trans HNEvent.out)).mono ?_
  rintro e wz ⟨rfl, rfl⟩
  go_wp2_with fail
  refine (fillAnswer_nilF g _ ((blk_cell HG_3.out 11).trans HNAnswer.out)).mono ?_
  rintro e wz ⟨rfl, rfl⟩
  go_wp2_with fail
  refine (growByte_nilF g _ ((blk_cell HG_3.out 1).trans HNByte.out)).mono ?_
  rintro e wz ⟨rfl, rfl⟩
  go_wp2_with fail
  refine (growInt_nilF g _ ((blk_cell HG_3.out 2).trans HNInt.out)).mono ?_
  rintro e wz ⟨rfl, rfl⟩
  go_wp2_with fail
  refine (growText_nilF g _ ((blk_cell HG_3.out 3).trans HNText.out)).mono ?_
  rintro e wz ⟨rfl, rfl⟩
  go_wp2_with fail
  refine (growWrite_any g Bo xWrite SAWrite scWrite _ ⟨cs, HG_3.out, HFWrite.out⟩ HSWrite_3.out HQWrite_3.out HDWrite.out (Nat.le_trans lo2 HK_3.out.size) (HT.out.next (HK_3.out.below lo2 HXl.out)) (by omega)).mono ?_
  rintro e w4 ⟨rfl, hk, yWrite, hylWrite, hys, hyq⟩
  have hxx : ∀ b, (InE xWrite b ∨ ∃ a, SAWrite = some a ∧ b = a.block) → ∃ c t, w3.heap[b]? = some (.cells c t (0, 0)) ∧ (t = 87 ∨ t = 196) := fun b hb => by
    rcases hb with ⟨e, he, a, ha, rfl⟩ | ⟨a, ea, rfl⟩
    · obtain ⟨c, hc⟩ := (HQWrite_3.out e he).2.2.ty ha; exact ⟨c, _, hc, Or.inl rfl⟩
    · obtain ⟨c, hc⟩ := HSWrite_3.out.ty ea; exact ⟨c, _, hc, Or.inr rfl⟩
  have HK_4 : Hid (Kept w w4 X) := Lib.hid (HK_3.out.trans (hk.mono fun b hb => hb.elim (HXiWrite.out b) (HXsWrite.out b)))
  have HG_4 : Hid (w4.heap[g]? = some (.cells cs 44 (0, 0))) := Lib.hid (hk.blk HG_3.out (blk_lt HG_3.out) (fun hx => by have h1 := HG_3.out; obtain ⟨c2, t2, h2, rfl | rfl⟩ := hxx _ hx <;> exact blk_ne2 h1 h2 (by decide) rfl))
  have HSWrite_4 : Hid (TkAt BkE.cells 3 196 w4 Bo SAWrite yWrite.length scWrite yWrite) := Lib.hid (by rw [hylWrite]; exact hys)
  have HQWrite_4 : Hid (∀ e ∈ yWrite, e.len ≤ 3518437208812 ∧ e.n ≤ 1152921504606846976 ∧ P1 mkWrite 3 87 w4 Bo e ∧ P2 mkWrite 3 87 w4 Bo e) := Lib.hid (fun e1 he1 => by
    obtain ⟨m, hm⟩ := List.getElem?_of_mem he1
    have hlt := (List.getElem?_eq_some_iff.1 hm).1
    have hxm : xWrite[m]? = some (xWrite[m]'(by omega)) := List.getElem?_eq_getElem _
    generalize xWrite[m]'(by omega) = ex at hxm
    obtain ⟨e2, he2, hgr⟩ := hyq m ex hxm
    rw [hm] at he2
    injection he2 with he2
    subst he2
    obtain ⟨g1, g2, -⟩ := HQWrite_3.out ex (List.mem_of_getElem? hxm)
    obtain ⟨a1, a2, a3, a4⟩ := hgr.same
    refine ⟨by omega, by omega, ?_, hgr.p2 rfl⟩
    have := hgr.p1
    unfold P1 at this ⊢
    rw [a1, a2, a3, a4]; exact this)
  have hylWrite_ : yWrite.length ≤ 2199023255552 := by omega
  have HFWritey : Hid (cs[4]? = some (.slice SAWrite yWrite.length scWrite)) := Lib.hid (by rw [hylWrite]; exact HFWrite.out)
  have HSEntry_4 := Lib.hid (HSEntry_3.out.kept hk (fun a ea hx => by obtain ⟨c1, h1⟩ := HSEntry_3.out.ty ea; obtain ⟨c2, t2, h2, rfl | rfl⟩ := hxx _ hx <;> exact blk_ne2 h1 h2 (by decide) rfl))
  have HQEntry_4 : Hid (∀ e ∈ xEntry, e.len ≤ 4398046511033 ∧ e.n ≤ 1152921504606846976 ∧ P1 mkEntry 2 116 w4 Bo e) := Lib.hid (fun e he => ⟨(HQEntry_3.out e he).1, (HQEntry_3.out e he).2.1, (HQEntry_3.out e he).2.2.kept hk (fun a ea hx => by obtain ⟨c1, h1⟩ := (HQEntry_3.out e he).2.2.ty ea; obtain ⟨c2, t2, h2, rfl | rfl⟩ := hxx _ hx <;> exact blk_ne2 h1 h2 (by decide) rfl)⟩)
  have HSTxn_4 := Lib.hid (HSTxn_3.out.kept hk (fun a ea hx => by obtain ⟨c1, h1⟩ := HSTxn_3.out.ty ea; obtain ⟨c2, t2, h2, rfl | rfl⟩ := hxx _ hx <;> exact blk_ne2 h1 h2 (by decide) rfl))
  have HQTxn_4 : Hid (∀ e ∈ xTxn, e.len ≤ 4398046511033 ∧ e.n ≤ 1152921504606846976 ∧ P1 mkTxn 2 64 w4 Bo e) := Lib.hid (fun e he => ⟨(HQTxn_3.out e he).1, (HQTxn_3.out e he).2.1, (HQTxn_3.out e he).2.2.kept hk (fun a ea hx => by obtain ⟨c1, h1⟩ := (HQTxn_3.out e he).2.2.ty ea; obtain ⟨c2, t2, h2, rfl | rfl⟩ := hxx _ hx <;> exact blk_ne2 h1 h2 (by decide) rfl)⟩)
  clear hys hyq
  clear hk hxx HG_3 HK_3 HSWrite_3 HQWrite_3 HSEntry_3 HQEntry_3 HSTxn_3 HQTxn_3
  go_wp2_with fail
  refine (growEntry_any g Bo xEntry SAEntry scEntry _ ⟨cs, HG_4.out, HFEntry.out⟩ HSEntry_4.out HQEntry_4.out HDEntry.out (Nat.le_trans lo2 HK_4.out.size) (HT.out.next (HK_4.out.below lo2 HXl.out)) (by omega)).mono ?_
  rintro e w5 ⟨rfl, hk, yEntry, hylEntry, hys, hyq⟩
  have hxx : ∀ b, (InE xEntry b ∨ ∃ a, SAEntry = some a ∧ b = a.block) → ∃ c t, w4.heap[b]? = some (.cells c t (0, 0)) ∧ (t = 116 ∨ t = 185) := fun b hb => by
    rcases hb with ⟨e, he, a, ha, rfl⟩ | ⟨a, ea, rfl⟩
    · obtain ⟨c, hc⟩ := (HQEntry_4.out e he).2.2.ty ha; exact ⟨c, _, hc, Or.inl rfl⟩
    · obtain ⟨c, hc⟩ := HSEntry_4.out.ty ea; exact ⟨c, _, hc, Or.inr rfl⟩
  have HK_5 : Hid (Kept w w5 X) := Lib.hid (HK_4.out.trans (hk.mono fun b hb => hb.elim (HXiEntry.out b) (HXsEntry.out b)))
  have HG_5 : Hid (w5.heap[g]? = some (.cells cs 44 (0, 0))) := Lib.hid (hk.blk HG_4.out (blk_lt HG_4.out) (fun hx => by have h1 := HG_4.out; obtain ⟨c2, t2, h2, rfl | rfl⟩ := hxx _ hx <;> exact blk_ne2 h1 h2 (by decide) rfl))
  have HSWrite_5 := Lib.hid (HSWrite_4.out.kept hk (fun a ea hx => by obtain ⟨c1, h1⟩ := HSWrite_4.out.ty ea; obtain ⟨c2, t2, h2, rfl | rfl⟩ := hxx _ hx <;> exact blk_ne2 h1 h2 (by decide) rfl))
  have HQWrite_5 : Hid (∀ e ∈ yWrite, e.len ≤ 3518437208812 ∧ e.n ≤ 1152921504606846976 ∧ P1 mkWrite 3 87 w5 Bo e ∧ P2 mkWrite 3 87 w5 Bo e) := Lib.hid (fun e he => ⟨(HQWrite_4.out e he).1, (HQWrite_4.out e he).2.1, (HQWrite_4.out e he).2.2.1.kept hk (fun a ea hx => by obtain ⟨c1, h1⟩ := (HQWrite_4.out e he).2.2.1.ty ea; obtain ⟨c2, t2, h2, rfl | rfl⟩ := hxx _ hx <;> exact blk_ne2 h1 h2 (by decide) rfl), (HQWrite_4.out e he).2.2.2.1, (HQWrite_4.out e he).2.2.2.2.kept hk (fun a ea hx => by obtain ⟨c1, h1⟩ := (HQWrite_4.out e he).2.2.2.2.ty ea; obtain ⟨c2, t2, h2, rfl | rfl⟩ := hxx _ hx <;> exact blk_ne2 h1 h2 (by decide) rfl)⟩)
  have HSEntry_5 : Hid (TkAt BkE.cells 3 185 w5 Bo SAEntry yEntry.length scEntry yEntry) := Lib.hid (by rw [hylEntry]; exact hys)
  have HQEntry_5 : Hid (∀ e ∈ yEntry, e.len ≤ 4398046511033 ∧ e.n ≤ 1152921504606846976 ∧ P1 mkEntry 2 116 w5 Bo e ∧ P2 mkEntry 2 116 w5 Bo e) := Lib.hid (fun e1 he1 => by
    obtain ⟨m, hm⟩ := List.getElem?_of_mem he1
    have hlt := (List.getElem?_eq_some_iff.1 hm).1
    have hxm : xEntry[m]? = some (xEntry[m]'(by omega)) := List.getElem?_eq_getElem _
    generalize xEntry[m]'(by omega) = ex at hxm
    obtain ⟨e2, he2, hgr⟩ := hyq m ex hxm
    rw [hm] at he2
    injection he2 with he2
    subst he2
    obtain ⟨g1, g2, -⟩ := HQEntry_4.out ex (List.mem_of_getElem? hxm)
    obtain ⟨a1, a2, a3, a4⟩ := hgr.same
    refine ⟨by omega, by omega, ?_, hgr.p2 rfl⟩
    have := hgr.p1
    unfold P1 at this ⊢
    rw [a1, a2, a3, a4]; exact this)
  have hylEntry_ : yEntry.length ≤ 2199023255552 := by omega
  have HFEntryy : Hid (cs[5]? = some (.slice SAEntry yEntry.length scEntry)) := Lib.hid (by rw [hylEntry]; exact HFEntry.out)
  have HSTxn_5 := Lib.hid (HSTxn_4.out.kept hk (fun a ea hx => by obtain ⟨c1, h1⟩ := HSTxn_4.out.ty ea; obtain ⟨c2, t2, h2, rfl | rfl⟩ := hxx _ hx <;> exact blk_ne2 h1 h2 (by decide) rfl))
  have HQTxn_5 : Hid (∀ e ∈ xTxn, e.len ≤ 4398046511033 ∧ e.n ≤ 1152921504606846976 ∧ P1 mkTxn 2 64 w5 Bo e) := Lib.hid (fun e he => ⟨(HQTxn_4.out e he).1, (HQTxn_4.out e he).2.1, (HQTxn_4.out e he).2.2.kept hk (fun a ea hx => by obtain ⟨c1, h1⟩ := (HQTxn_4.out e he).2.2.ty ea; obtain ⟨c2, t2, h2, rfl | rfl⟩ := hxx _ hx <;> exact blk_ne2 h1 h2 (by decide) rfl)⟩)
  clear hys hyq
  clear hk hxx HG_4 HK_4 HSWrite_4 HQWrite_4 HSEntry_4 HQEntry_4 HSTxn_4 HQTxn_4
  go_wp2_with fail
  refine (growVersion_nilF g _ ((blk_cell HG_5.out 6).trans HNVersion.out)).mono ?_
  rintro e wz ⟨rfl, rfl⟩
  go_wp2_with fail
  refine (growTxn_any g Bo xTxn SATxn scTxn _ ⟨cs, HG_5.out, HFTxn.out⟩ HSTxn_5.out HQTxn_5.out HDTxn.out (Nat.le_trans lo2 HK_5.out.size) (HT.out.next (HK_5.out.below lo2 HXl.out)) (by omega)).mono ?_
  rintro e w6 ⟨rfl, hk, yTxn, hylTxn, hys, hyq⟩
  have hxx : ∀ b, (InE xTxn b ∨ ∃ a, SATxn = some a ∧ b = a.block) → ∃ c t, w5.heap[b]? = some (.cells c t (0, 0)) ∧ (t = 64 ∨ t = 183) := fun b hb => by
    rcases hb with ⟨e, he, a, ha, rfl⟩ | ⟨a, ea, rfl⟩
    · obtain ⟨c, hc⟩ := (HQTxn_5.out e he).2.2.ty ha; exact ⟨c, _, hc, Or.inl rfl⟩
    · obtain ⟨c, hc⟩ := HSTxn_5.out.ty ea; exact ⟨c, _, hc, Or.inr rfl⟩
  have HK_6 : Hid (Kept w w6 X) := Lib.hid (HK_5.out.trans (hk.mono fun b hb => hb.elim (HXiTxn.out b) (HXsTxn.out b)))
  have HG_6 : Hid (w6.heap[g]? = some (.cells cs 44 (0, 0))) := Lib.hid (hk.blk HG_5.out (blk_lt HG_5.out) (fun hx => by have h1 := HG_5.out; obtain ⟨c2, t2, h2, rfl | rfl⟩ := hxx _ hx <;> exact blk_ne2 h1 h2 (by decide) rfl))
  have HSWrite_6 := Lib.hid (HSWrite_5.out.kept hk (fun a ea hx => by obtain ⟨c1, h1⟩ := HSWrite_5.out.ty ea; obtain ⟨c2, t2, h2, rfl | rfl⟩ := hxx _ hx <;> exact blk_ne2 h1 h2 (by decide) rfl))
  have HQWrite_6 : Hid (∀ e ∈ yWrite, e.len ≤ 3518437208812 ∧ e.n ≤ 1152921504606846976 ∧ P1 mkWrite 3 87 w6 Bo e ∧ P2 mkWrite 3 87 w6 Bo e) := Lib.hid (fun e he => ⟨(HQWrite_5.out e he).1, (HQWrite_5.out e he).2.1, (HQWrite_5.out e he).2.2.1.kept hk (fun a ea hx => by obtain ⟨c1, h1⟩ := (HQWrite_5.out e he).2.2.1.ty ea; obtain ⟨c2, t2, h2, rfl | rfl⟩ := hxx _ hx <;> exact blk_ne2 h1 h2 (by decide) rfl), (HQWrite_5.out e he).2.2.2.1, (HQWrite_5.out e he).2.2.2.2.kept hk (fun a ea hx => by obtain ⟨c1, h1⟩ := (HQWrite_5.out e he).2.2.2.2.ty ea; obtain ⟨c2, t2, h2, rfl | rfl⟩ := hxx _ hx <;> exact blk_ne2 h1 h2 (by decide) rfl)⟩)
  have HSEntry_6 := Lib.hid (HSEntry_5.out.kept hk (fun a ea hx => by obtain ⟨c1, h1⟩ := HSEntry_5.out.ty ea; obtain ⟨c2, t2, h2, rfl | rfl⟩ := hxx _ hx <;> exact blk_ne2 h1 h2 (by decide) rfl))
  have HQEntry_6 : Hid (∀ e ∈ yEntry, e.len ≤ 4398046511033 ∧ e.n ≤ 1152921504606846976 ∧ P1 mkEntry 2 116 w6 Bo e ∧ P2 mkEntry 2 116 w6 Bo e) := Lib.hid (fun e he => ⟨(HQEntry_5.out e he).1, (HQEntry_5.out e he).2.1, (HQEntry_5.out e he).2.2.1.kept hk (fun a ea hx => by obtain ⟨c1, h1⟩ := (HQEntry_5.out e he).2.2.1.ty ea; obtain ⟨c2, t2, h2, rfl | rfl⟩ := hxx _ hx <;> exact blk_ne2 h1 h2 (by decide) rfl), (HQEntry_5.out e he).2.2.2.1, (HQEntry_5.out e he).2.2.2.2.kept hk (fun a ea hx => by obtain ⟨c1, h1⟩ := (HQEntry_5.out e he).2.2.2.2.ty ea; obtain ⟨c2, t2, h2, rfl | rfl⟩ := hxx _ hx <;> exact blk_ne2 h1 h2 (by decide) rfl)⟩)
  have HSTxn_6 : Hid (TkAt BkE.cells 3 183 w6 Bo SATxn yTxn.length scTxn yTxn) := Lib.hid (by rw [hylTxn]; exact hys)
  have HQTxn_6 : Hid (∀ e ∈ yTxn, e.len ≤ 4398046511033 ∧ e.n ≤ 1152921504606846976 ∧ P1 mkTxn 2 64 w6 Bo e ∧ P2 mkTxn 2 64 w6 Bo e) := Lib.hid (fun e1 he1 => by
    obtain ⟨m, hm⟩ := List.getElem?_of_mem he1
    have hlt := (List.getElem?_eq_some_iff.1 hm).1
    have hxm : xTxn[m]? = some (xTxn[m]'(by omega)) := List.getElem?_eq_getElem _
    generalize xTxn[m]'(by omega) = ex at hxm
    obtain ⟨e2, he2, hgr⟩ := hyq m ex hxm
    rw [hm] at he2
    injection he2 with he2
    subst he2
    obtain ⟨g1, g2, -⟩ := HQTxn_5.out ex (List.mem_of_getElem? hxm)
    obtain ⟨a1, a2, a3, a4⟩ := hgr.same
    refine ⟨by omega, by omega, ?_, hgr.p2 rfl⟩
    have := hgr.p1
    unfold P1 at this ⊢
    rw [a1, a2, a3, a4]; exact this)
  have hylTxn_ : yTxn.length ≤ 2199023255552 := by omega
  have HFTxny : Hid (cs[7]? = some (.slice SATxn yTxn.length scTxn)) := Lib.hid (by rw [hylTxn]; exact HFTxn.out)
  clear hys hyq
  clear hk hxx HG_5 HK_5 HSWrite_5 HQWrite_5 HSEntry_5 HQEntry_5 HSTxn_5 HQTxn_5
  go_wp2_with fail
  refine (growHeld_nilF g _ ((blk_cell HG_6.out 8).trans HNHeld.out)).mono ?_
  rintro e wz ⟨rfl, rfl⟩
  go_wp2_with fail
  refine (growHeldList_nilF g _ ((blk_cell HG_6.out 9).trans HNHeldList.out)).mono ?_
  rintro e wz ⟨rfl, rfl⟩
  go_wp2_with fail
  refine (growEvent_nilF g _ ((blk_cell HG_6.out 10).trans HNEvent.out)).mono ?_
  rintro e wz ⟨rfl, rfl⟩
  go_wp2_with fail
  refine (growAnswer_nilF g _ ((blk_cell HG_6.out 11).trans HNAnswer.out)).mono ?_
  rintro e wz ⟨rfl, rfl⟩
  go_wp2_with fail
  refine (lookByte_nilF g _ ((blk_cell HG_6.out 1).trans HNByte.out)).mono ?_
  rintro e wz ⟨rfl, rfl⟩
  go_wp2_with fail
  refine (lookInt_nilF g _ ((blk_cell HG_6.out 2).trans HNInt.out)).mono ?_
  rintro e wz ⟨rfl, rfl⟩
  go_wp2_with fail
  refine (lookText_nilF g _ ((blk_cell HG_6.out 3).trans HNText.out)).mono ?_
  rintro e wz ⟨rfl, rfl⟩
  go_wp2_with fail
  refine (lookWrite_any g Bo yWrite SAWrite scWrite _ ⟨cs, HG_6.out, HFWritey.out⟩ HSWrite_6.out HQWrite_6.out (Nat.le_trans lo2 HK_6.out.size) (HT.out.next (HK_6.out.below lo2 HXl.out)) (by omega)).mono ?_
  rintro e w7 ⟨rfl, hb⟩
  have HG_7 := Lib.hid ((hb.block _ (blk_lt HG_6.out)).trans HG_6.out)
  have HK_7 := Lib.hid (HK_6.out.trans (Kept.of_below hb))
  have HSEntry_7 := Lib.hid (HSEntry_6.out.below hb)
  have HQEntry_7 : Hid (∀ e ∈ yEntry, e.len ≤ 4398046511033 ∧ e.n ≤ 1152921504606846976 ∧ P1 mkEntry 2 116 w7 Bo e ∧ P2 mkEntry 2 116 w7 Bo e) := Lib.hid (fun e he => ⟨(HQEntry_6.out e he).1, (HQEntry_6.out e he).2.1, (HQEntry_6.out e he).2.2.1.below hb, (HQEntry_6.out e he).2.2.2.1, (HQEntry_6.out e he).2.2.2.2.below hb⟩)
  have HSTxn_7 := Lib.hid (HSTxn_6.out.below hb)
  have HQTxn_7 : Hid (∀ e ∈ yTxn, e.len ≤ 4398046511033 ∧ e.n ≤ 1152921504606846976 ∧ P1 mkTxn 2 64 w7 Bo e ∧ P2 mkTxn 2 64 w7 Bo e) := Lib.hid (fun e he => ⟨(HQTxn_6.out e he).1, (HQTxn_6.out e he).2.1, (HQTxn_6.out e he).2.2.1.below hb, (HQTxn_6.out e he).2.2.2.1, (HQTxn_6.out e he).2.2.2.2.below hb⟩)
  clear hb HG_6 HK_6 HSEntry_6 HQEntry_6 HSTxn_6 HQTxn_6
  go_wp2_with fail
  refine (lookEntry_any g Bo yEntry SAEntry scEntry _ ⟨cs, HG_7.out, HFEntryy.out⟩ HSEntry_7.out HQEntry_7.out (Nat.le_trans lo2 HK_7.out.size) (HT.out.next (HK_7.out.below lo2 HXl.out)) (by omega)).mono ?_
  rintro e w8 ⟨rfl, hb⟩
  have HG_8 := Lib.hid ((hb.block _ (blk_lt HG_7.out)).trans HG_7.out)
  have HK_8 := Lib.hid (HK_7.out.trans (Kept.of_below hb))
  have HSTxn_8 := Lib.hid (HSTxn_7.out.below hb)
  have HQTxn_8 : Hid (∀ e ∈ yTxn, e.len ≤ 4398046511033 ∧ e.n ≤ 1152921504606846976 ∧ P1 mkTxn 2 64 w8 Bo e ∧ P2 mkTxn 2 64 w8 Bo e) := Lib.hid (fun e he => ⟨(HQTxn_7.out e he).1, (HQTxn_7.out e he).2.1, (HQTxn_7.out e he).2.2.1.below hb, (HQTxn_7.out e he).2.2.2.1, (HQTxn_7.out e he).2.2.2.2.below hb⟩)
  clear hb HG_7 HK_7 HSTxn_7 HQTxn_7
  go_wp2_with fail
  refine (lookVersion_nilF g _ ((blk_cell HG_8.out 6).trans HNVersion.out)).mono ?_
  rintro e wz ⟨rfl, rfl⟩
  go_wp2_with fail
  refine (lookTxn_any g Bo yTxn SATxn scTxn _ ⟨cs, HG_8.out, HFTxny.out⟩ HSTxn_8.out HQTxn_8.out (Nat.le_trans lo2 HK_8.out.size) (HT.out.next (HK_8.out.below lo2 HXl.out)) (by omega)).mono ?_
  rintro e w9 ⟨rfl, hb⟩
  have HG_9 := Lib.hid ((hb.block _ (blk_lt HG_8.out)).trans HG_8.out)
  have HK_9 := Lib.hid (HK_8.out.trans (Kept.of_below hb))
  clear hb HG_8 HK_8
  go_wp2_with fail
  refine (lookHeld_nilF g _ ((blk_cell HG_9.out 8).trans HNHeld.out)).mono ?_
  rintro e wz ⟨rfl, rfl⟩
  go_wp2_with fail
  refine (lookHeldList_nilF g _ ((blk_cell HG_9.out 9).trans HNHeldList.out)).mono ?_
  rintro e wz ⟨rfl, rfl⟩
  go_wp2_with fail
  refine (lookEvent_nilF g _ ((blk_cell HG_9.out 10).trans HNEvent.out)).mono ?_
  rintro e wz ⟨rfl, rfl⟩
  go_wp2_with fail
  refine (lookAnswer_nilF g _ ((blk_cell HG_9.out 11).trans HNAnswer.out)).mono ?_
  rintro e wz ⟨rfl, rfl⟩
  go_wp2_with fail
  go_ret
  exact ⟨rfl, HK_9.out.mono HXe.out, (HK_9.out.below lo2 HXl.out)⟩
end Go.Proofs.YtafghiekpgjniaaGreatDoor

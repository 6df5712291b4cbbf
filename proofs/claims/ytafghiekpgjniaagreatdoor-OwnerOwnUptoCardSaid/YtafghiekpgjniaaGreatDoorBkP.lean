/- towpathlaw01.Book: what it is told of entries, versions, keys. -/
import Derived.Test.YtafghiekpgjniaaGreatDoorBkE
import Derived.Test.YtafghiekpgjniaaGreatDoorBkV
import Derived.Test.YtafghiekpgjniaaGreatDoorBkH
namespace Go.Proofs.YtafghiekpgjniaaGreatDoor
open Go.RowKit
set_option linter.unusedVariables false
set_option linter.unusedSimpArgs false

set_option maxRecDepth 100000
theorem fillByte_nilP (g : Nat) (w : World) (hg : w.cell? ⟨g, 1, none⟩ = some (.slice none 0 0)) : Calls Tryz.prog 51 #[.pointer (some ⟨g, 0, none⟩)] w fun e w' => e = .returned (.tuple #[]) ∧ w = w' := by
  go_enter Tryz.func51, Tryz.ntmps51
  go_wp2_with fail
  go_loopw [2] (fun i wr => i = .int .i64 0 ∧ wr = w) (fun _ _ => 0)
  case atStart => exact ⟨rfl, rfl⟩
  case round =>
    obtain ⟨rfl, rfl⟩ := hrel
    go_wp2_with fail
    exact bodyPost_end (results_none rfl _ _ _) rfl ⟨rfl, rfl⟩
theorem growByte_nilP (g : Nat) (w : World) (hg : w.cell? ⟨g, 1, none⟩ = some (.slice none 0 0)) : Calls Tryz.prog 62 #[.pointer (some ⟨g, 0, none⟩)] w fun e w' => e = .returned (.tuple #[]) ∧ w = w' := by
  go_enter Tryz.func62, Tryz.ntmps62
  go_wp2_with fail
  go_loopw [2] (fun i wr => i = .int .i64 0 ∧ wr = w) (fun _ _ => 0)
  case atStart => exact ⟨rfl, rfl⟩
  case round =>
    obtain ⟨rfl, rfl⟩ := hrel
    go_wp2_with fail
    exact bodyPost_end (results_none rfl _ _ _) rfl ⟨rfl, rfl⟩
theorem lookByte_nilP (g : Nat) (w : World) (hg : w.cell? ⟨g, 1, none⟩ = some (.slice none 0 0)) : Calls Tryz.prog 73 #[.pointer (some ⟨g, 0, none⟩)] w fun e w' => e = .returned (.bool true) ∧ w = w' := by
  go_enter Tryz.func73, Tryz.ntmps73
  go_wp2_with fail
  go_loopw [3] (fun i wr => i = .int .i64 0 ∧ wr = w) (fun _ _ => 0)
  case atStart => exact ⟨rfl, rfl⟩
  case round =>
    obtain ⟨rfl, rfl⟩ := hrel
    go_wp2_with fail
    go_ret
    exact ⟨rfl, rfl⟩
theorem fillInt_nilP (g : Nat) (w : World) (hg : w.cell? ⟨g, 2, none⟩ = some (.slice none 0 0)) : Calls Tryz.prog 52 #[.pointer (some ⟨g, 0, none⟩)] w fun e w' => e = .returned (.tuple #[]) ∧ w = w' := by
  go_enter Tryz.func52, Tryz.ntmps52
  go_wp2_with fail
  go_loopw [2] (fun i wr => i = .int .i64 0 ∧ wr = w) (fun _ _ => 0)
  case atStart => exact ⟨rfl, rfl⟩
  case round =>
    obtain ⟨rfl, rfl⟩ := hrel
    go_wp2_with fail
    exact bodyPost_end (results_none rfl _ _ _) rfl ⟨rfl, rfl⟩
theorem growInt_nilP (g : Nat) (w : World) (hg : w.cell? ⟨g, 2, none⟩ = some (.slice none 0 0)) : Calls Tryz.prog 63 #[.pointer (some ⟨g, 0, none⟩)] w fun e w' => e = .returned (.tuple #[]) ∧ w = w' := by
  go_enter Tryz.func63, Tryz.ntmps63
  go_wp2_with fail
  go_loopw [2] (fun i wr => i = .int .i64 0 ∧ wr = w) (fun _ _ => 0)
  case atStart => exact ⟨rfl, rfl⟩
  case round =>
    obtain ⟨rfl, rfl⟩ := hrel
    go_wp2_with fail
    exact bodyPost_end (results_none rfl _ _ _) rfl ⟨rfl, rfl⟩
theorem lookInt_nilP (g : Nat) (w : World) (hg : w.cell? ⟨g, 2, none⟩ = some (.slice none 0 0)) : Calls Tryz.prog 74 #[.pointer (some ⟨g, 0, none⟩)] w fun e w' => e = .returned (.bool true) ∧ w = w' := by
  go_enter Tryz.func74, Tryz.ntmps74
  go_wp2_with fail
  go_loopw [3] (fun i wr => i = .int .i64 0 ∧ wr = w) (fun _ _ => 0)
  case atStart => exact ⟨rfl, rfl⟩
  case round =>
    obtain ⟨rfl, rfl⟩ := hrel
    go_wp2_with fail
    go_ret
    exact ⟨rfl, rfl⟩
theorem fillText_nilP (g : Nat) (w : World) (hg : w.cell? ⟨g, 3, none⟩ = some (.slice none 0 0)) : Calls Tryz.prog 53 #[.pointer (some ⟨g, 0, none⟩)] w fun e w' => e = .returned (.tuple #[]) ∧ w = w' := by
  go_enter Tryz.func53, Tryz.ntmps53
  go_wp2_with fail
  go_loopw [2] (fun i wr => i = .int .i64 0 ∧ wr = w) (fun _ _ => 0)
  case atStart => exact ⟨rfl, rfl⟩
  case round =>
    obtain ⟨rfl, rfl⟩ := hrel
    go_wp2_with fail
    exact bodyPost_end (results_none rfl _ _ _) rfl ⟨rfl, rfl⟩
theorem growText_nilP (g : Nat) (w : World) (hg : w.cell? ⟨g, 3, none⟩ = some (.slice none 0 0)) : Calls Tryz.prog 64 #[.pointer (some ⟨g, 0, none⟩)] w fun e w' => e = .returned (.tuple #[]) ∧ w = w' := by
  go_enter Tryz.func64, Tryz.ntmps64
  go_wp2_with fail
  go_loopw [2] (fun i wr => i = .int .i64 0 ∧ wr = w) (fun _ _ => 0)
  case atStart => exact ⟨rfl, rfl⟩
  case round =>
    obtain ⟨rfl, rfl⟩ := hrel
    go_wp2_with fail
    exact bodyPost_end (results_none rfl _ _ _) rfl ⟨rfl, rfl⟩
theorem lookText_nilP (g : Nat) (w : World) (hg : w.cell? ⟨g, 3, none⟩ = some (.slice none 0 0)) : Calls Tryz.prog 75 #[.pointer (some ⟨g, 0, none⟩)] w fun e w' => e = .returned (.bool true) ∧ w = w' := by
  go_enter Tryz.func75, Tryz.ntmps75
  go_wp2_with fail
  go_loopw [3] (fun i wr => i = .int .i64 0 ∧ wr = w) (fun _ _ => 0)
  case atStart => exact ⟨rfl, rfl⟩
  case round =>
    obtain ⟨rfl, rfl⟩ := hrel
    go_wp2_with fail
    go_ret
    exact ⟨rfl, rfl⟩
theorem fillWrite_nilP (g : Nat) (w : World) (hg : w.cell? ⟨g, 4, none⟩ = some (.slice none 0 0)) : Calls Tryz.prog 54 #[.pointer (some ⟨g, 0, none⟩)] w fun e w' => e = .returned (.tuple #[]) ∧ w = w' := by
  go_enter Tryz.func54, Tryz.ntmps54
  go_wp2_with fail
  go_loopw [2] (fun i wr => i = .int .i64 0 ∧ wr = w) (fun _ _ => 0)
  case atStart => exact ⟨rfl, rfl⟩
  case round =>
    obtain ⟨rfl, rfl⟩ := hrel
    go_wp2_with fail
    exact bodyPost_end (results_none rfl _ _ _) rfl ⟨rfl, rfl⟩
theorem growWrite_nilP (g : Nat) (w : World) (hg : w.cell? ⟨g, 4, none⟩ = some (.slice none 0 0)) : Calls Tryz.prog 65 #[.pointer (some ⟨g, 0, none⟩)] w fun e w' => e = .returned (.tuple #[]) ∧ w = w' := by
  go_enter Tryz.func65, Tryz.ntmps65
  go_wp2_with fail
  go_loopw [2] (fun i wr => i = .int .i64 0 ∧ wr = w) (fun _ _ => 0)
  case atStart => exact ⟨rfl, rfl⟩
  case round =>
    obtain ⟨rfl, rfl⟩ := hrel
    go_wp2_with fail
    exact bodyPost_end (results_none rfl _ _ _) rfl ⟨rfl, rfl⟩
theorem lookWrite_nilP (g : Nat) (w : World) (hg : w.cell? ⟨g, 4, none⟩ = some (.slice none 0 0)) : Calls Tryz.prog 76 #[.pointer (some ⟨g, 0, none⟩)] w fun e w' => e = .returned (.bool true) ∧ w = w' := by
  go_enter Tryz.func76, Tryz.ntmps76
  go_wp2_with fail
  go_loopw [3] (fun i wr => i = .int .i64 0 ∧ wr = w) (fun _ _ => 0)
  case atStart => exact ⟨rfl, rfl⟩
  case round =>
    obtain ⟨rfl, rfl⟩ := hrel
    go_wp2_with fail
    go_ret
    exact ⟨rfl, rfl⟩
theorem fillTxn_nilP (g : Nat) (w : World) (hg : w.cell? ⟨g, 7, none⟩ = some (.slice none 0 0)) : Calls Tryz.prog 57 #[.pointer (some ⟨g, 0, none⟩)] w fun e w' => e = .returned (.tuple #[]) ∧ w = w' := by
  go_enter Tryz.func57, Tryz.ntmps57
  go_wp2_with fail
  go_loopw [2] (fun i wr => i = .int .i64 0 ∧ wr = w) (fun _ _ => 0)
  case atStart => exact ⟨rfl, rfl⟩
  case round =>
    obtain ⟨rfl, rfl⟩ := hrel
    go_wp2_with fail
    exact bodyPost_end (results_none rfl _ _ _) rfl ⟨rfl, rfl⟩
theorem growTxn_nilP (g : Nat) (w : World) (hg : w.cell? ⟨g, 7, none⟩ = some (.slice none 0 0)) : Calls Tryz.prog 68 #[.pointer (some ⟨g, 0, none⟩)] w fun e w' => e = .returned (.tuple #[]) ∧ w = w' := by
  go_enter Tryz.func68, Tryz.ntmps68
  go_wp2_with fail
  go_loopw [2] (fun i wr => i = .int .i64 0 ∧ wr = w) (fun _ _ => 0)
  case atStart => exact ⟨rfl, rfl⟩
  case round =>
    obtain ⟨rfl, rfl⟩ := hrel
    go_wp2_with fail
    exact bodyPost_end (results_none rfl _ _ _) rfl ⟨rfl, rfl⟩
theorem lookTxn_nilP (g : Nat) (w : World) (hg : w.cell? ⟨g, 7, none⟩ = some (.slice none 0 0)) : Calls Tryz.prog 79 #[.pointer (some ⟨g, 0, none⟩)] w fun e w' => e = .returned (.bool true) ∧ w = w' := by
  go_enter Tryz.func79, Tryz.ntmps79
  go_wp2_with fail
  go_loopw [3] (fun i wr => i = .int .i64 0 ∧ wr = w) (fun _ _ => 0)
  case atStart => exact ⟨rfl, rfl⟩
  case round =>
    obtain ⟨rfl, rfl⟩ := hrel
    go_wp2_with fail
    go_ret
    exact ⟨rfl, rfl⟩
theorem fillHeldList_nilP (g : Nat) (w : World) (hg : w.cell? ⟨g, 9, none⟩ = some (.slice none 0 0)) : Calls Tryz.prog 59 #[.pointer (some ⟨g, 0, none⟩)] w fun e w' => e = .returned (.tuple #[]) ∧ w = w' := by
  go_enter Tryz.func59, Tryz.ntmps59
  go_wp2_with fail
  go_loopw [2] (fun i wr => i = .int .i64 0 ∧ wr = w) (fun _ _ => 0)
  case atStart => exact ⟨rfl, rfl⟩
  case round =>
    obtain ⟨rfl, rfl⟩ := hrel
    go_wp2_with fail
    exact bodyPost_end (results_none rfl _ _ _) rfl ⟨rfl, rfl⟩
theorem growHeldList_nilP (g : Nat) (w : World) (hg : w.cell? ⟨g, 9, none⟩ = some (.slice none 0 0)) : Calls Tryz.prog 70 #[.pointer (some ⟨g, 0, none⟩)] w fun e w' => e = .returned (.tuple #[]) ∧ w = w' := by
  go_enter Tryz.func70, Tryz.ntmps70
  go_wp2_with fail
  go_loopw [2] (fun i wr => i = .int .i64 0 ∧ wr = w) (fun _ _ => 0)
  case atStart => exact ⟨rfl, rfl⟩
  case round =>
    obtain ⟨rfl, rfl⟩ := hrel
    go_wp2_with fail
    exact bodyPost_end (results_none rfl _ _ _) rfl ⟨rfl, rfl⟩
theorem lookHeldList_nilP (g : Nat) (w : World) (hg : w.cell? ⟨g, 9, none⟩ = some (.slice none 0 0)) : Calls Tryz.prog 81 #[.pointer (some ⟨g, 0, none⟩)] w fun e w' => e = .returned (.bool true) ∧ w = w' := by
  go_enter Tryz.func81, Tryz.ntmps81
  go_wp2_with fail
  go_loopw [3] (fun i wr => i = .int .i64 0 ∧ wr = w) (fun _ _ => 0)
  case atStart => exact ⟨rfl, rfl⟩
  case round =>
    obtain ⟨rfl, rfl⟩ := hrel
    go_wp2_with fail
    go_ret
    exact ⟨rfl, rfl⟩
theorem fillEvent_nilP (g : Nat) (w : World) (hg : w.cell? ⟨g, 10, none⟩ = some (.slice none 0 0)) : Calls Tryz.prog 60 #[.pointer (some ⟨g, 0, none⟩)] w fun e w' => e = .returned (.tuple #[]) ∧ w = w' := by
  go_enter Tryz.func60, Tryz.ntmps60
  go_wp2_with fail
  go_loopw [2] (fun i wr => i = .int .i64 0 ∧ wr = w) (fun _ _ => 0)
  case atStart => exact ⟨rfl, rfl⟩
  case round =>
    obtain ⟨rfl, rfl⟩ := hrel
    go_wp2_with fail
    exact bodyPost_end (results_none rfl _ _ _) rfl ⟨rfl, rfl⟩
theorem growEvent_nilP (g : Nat) (w : World) (hg : w.cell? ⟨g, 10, none⟩ = some (.slice none 0 0)) : Calls Tryz.prog 71 #[.pointer (some ⟨g, 0, none⟩)] w fun e w' => e = .returned (.tuple #[]) ∧ w = w' := by
  go_enter Tryz.func71, Tryz.ntmps71
  go_wp2_with fail
  go_loopw [2] (fun i wr => i = .int .i64 0 ∧ wr = w) (fun _ _ => 0)
  case atStart => exact ⟨rfl, rfl⟩
  case round =>
    obtain ⟨rfl, rfl⟩ := hrel
    go_wp2_with fail
    exact bodyPost_end (results_none rfl _ _ _) rfl ⟨rfl, rfl⟩
theorem lookEvent_nilP (g : Nat) (w : World) (hg : w.cell? ⟨g, 10, none⟩ = some (.slice none 0 0)) : Calls Tryz.prog 82 #[.pointer (some ⟨g, 0, none⟩)] w fun e w' => e = .returned (.bool true) ∧ w = w' := by
  go_enter Tryz.func82, Tryz.ntmps82
  go_wp2_with fail
  go_loopw [3] (fun i wr => i = .int .i64 0 ∧ wr = w) (fun _ _ => 0)
  case atStart => exact ⟨rfl, rfl⟩
  case round =>
    obtain ⟨rfl, rfl⟩ := hrel
    go_wp2_with fail
    go_ret
    exact ⟨rfl, rfl⟩
theorem fillAnswer_nilP (g : Nat) (w : World) (hg : w.cell? ⟨g, 11, none⟩ = some (.slice none 0 0)) : Calls Tryz.prog 61 #[.pointer (some ⟨g, 0, none⟩)] w fun e w' => e = .returned (.tuple #[]) ∧ w = w' := by
  go_enter Tryz.func61, Tryz.ntmps61
  go_wp2_with fail
  go_loopw [2] (fun i wr => i = .int .i64 0 ∧ wr = w) (fun _ _ => 0)
  case atStart => exact ⟨rfl, rfl⟩
  case round =>
    obtain ⟨rfl, rfl⟩ := hrel
    go_wp2_with fail
    exact bodyPost_end (results_none rfl _ _ _) rfl ⟨rfl, rfl⟩
theorem growAnswer_nilP (g : Nat) (w : World) (hg : w.cell? ⟨g, 11, none⟩ = some (.slice none 0 0)) : Calls Tryz.prog 72 #[.pointer (some ⟨g, 0, none⟩)] w fun e w' => e = .returned (.tuple #[]) ∧ w = w' := by
  go_enter Tryz.func72, Tryz.ntmps72
  go_wp2_with fail
  go_loopw [2] (fun i wr => i = .int .i64 0 ∧ wr = w) (fun _ _ => 0)
  case atStart => exact ⟨rfl, rfl⟩
  case round =>
    obtain ⟨rfl, rfl⟩ := hrel
    go_wp2_with fail
    exact bodyPost_end (results_none rfl _ _ _) rfl ⟨rfl, rfl⟩
theorem lookAnswer_nilP (g : Nat) (w : World) (hg : w.cell? ⟨g, 11, none⟩ = some (.slice none 0 0)) : Calls Tryz.prog 83 #[.pointer (some ⟨g, 0, none⟩)] w fun e w' => e = .returned (.bool true) ∧ w = w' := by
  go_enter Tryz.func83, Tryz.ntmps83
  go_wp2_with fail
  go_loopw [3] (fun i wr => i = .int .i64 0 ∧ wr = w) (fun _ _ => 0)
  case atStart => exact ⟨rfl, rfl⟩
  case round =>
    obtain ⟨rfl, rfl⟩ := hrel
    go_wp2_with fail
    go_ret
    exact ⟨rfl, rfl⟩
/-- A book that lies in g: it has been told so many lists. -/
structure BkAtP (w : World) (g Bo cnt : Nat) (xEntry xVersion xHeld : List BkE) : Prop where
  lo : Bo ≤ g ∧ Bo ≤ w.heap.size
  num : cnt ≤ 1152921504606846976
  st : ∃ cs, w.heap[g]? = some (.cells cs 44 (0, 0)) ∧ cs.size = 12 ∧ cs[0]? = some (.int .i64 cnt) ∧ cs[1]? = some (.slice none 0 0) ∧ cs[2]? = some (.slice none 0 0) ∧ cs[3]? = some (.slice none 0 0) ∧ cs[4]? = some (.slice none 0 0) ∧ cs[7]? = some (.slice none 0 0) ∧ cs[9]? = some (.slice none 0 0) ∧ cs[10]? = some (.slice none 0 0) ∧ cs[11]? = some (.slice none 0 0) ∧ KdQ 185 5 (fun w e => P0 mkEntry 2 116 4398046511033 w Bo e) w Bo cs xEntry ∧ KdQ 200 6 (fun w e => P0 mkVersion 3 140 4398046511033 w Bo e) w Bo cs xVersion ∧ KdQ 204 8 (fun w e => P0 mkHeld 2 132 3518437208812 w Bo e) w Bo cs xHeld
  lEntry : xEntry.length ≤ 2199023255552
  lVersion : xVersion.length ≤ 2199023255552
  lHeld : xHeld.length ≤ 2199023255552
/-- No block of a book, of its own lists, of the lists that it was told. -/
def FarBP (w : World) (g : Nat) (xEntry xVersion xHeld : List BkE) (b : Nat) : Prop := b ≠ g ∧ ¬ InE xEntry b ∧ ¬ InE xVersion b ∧ ¬ InE xHeld b ∧ (∀ cs, w.heap[b]? ≠ some (.cells cs 185 (0, 0))) ∧ (∀ cs, w.heap[b]? ≠ some (.cells cs 200 (0, 0))) ∧ (∀ cs, w.heap[b]? ≠ some (.cells cs 204 (0, 0)))
theorem BkAtP.kept {w w' : World} {g Bo cnt : Nat} {xEntry xVersion xHeld : List BkE} {X : Nat → Prop} (h : BkAtP w g Bo cnt xEntry xVersion xHeld) (k : Kept w w' X) (hX : ∀ b, X b → FarBP w g xEntry xVersion xHeld b) : BkAtP w' g Bo cnt xEntry xVersion xHeld := by
  obtain ⟨lo, num, ⟨cs, hg, hz, h0, nByte, nInt, nText, nWrite, nTxn, nHeldList, nEvent, nAnswer, kEntry, kVersion, kHeld⟩, lEntry, lVersion, lHeld⟩ := h
  refine ⟨⟨lo.1, Nat.le_trans lo.2 k.size⟩, num, ⟨cs, k.blk hg (blk_lt hg) (fun hx => (hX _ hx).1 rfl), hz, h0, nByte, nInt, nText, nWrite, nTxn, nHeldList, nEvent, nAnswer, ?_, ?_, ?_⟩, lEntry, lVersion, lHeld⟩
  · obtain ⟨SA, sc, q1, q2, q3, q4⟩ := kEntry
    exact ⟨SA, sc, q1, q2.kept k (fun a ea hx => by obtain ⟨c, hc⟩ := q2.ty ea; exact (hX _ hx).2.2.2.2.1 c hc), fun e he => (q3 e he).more k (fun a ea hx => (hX _ hx).2.1 ⟨e, he, a, ea, rfl⟩), q4⟩
  · obtain ⟨SA, sc, q1, q2, q3, q4⟩ := kVersion
    exact ⟨SA, sc, q1, q2.kept k (fun a ea hx => by obtain ⟨c, hc⟩ := q2.ty ea; exact (hX _ hx).2.2.2.2.2.1 c hc), fun e he => (q3 e he).more k (fun a ea hx => (hX _ hx).2.2.1 ⟨e, he, a, ea, rfl⟩), q4⟩
  · obtain ⟨SA, sc, q1, q2, q3, q4⟩ := kHeld
    exact ⟨SA, sc, q1, q2.kept k (fun a ea hx => by obtain ⟨c, hc⟩ := q2.ty ea; exact (hX _ hx).2.2.2.2.2.2 c hc), fun e he => (q3 e he).more k (fun a ea hx => (hX _ hx).2.2.2.1 ⟨e, he, a, ea, rfl⟩), q4⟩
set_option maxHeartbeats 2000000 in
theorem tellEntryP_any (g Bo cnt : Nat) (xEntry xVersion xHeld : List BkE) (A : Option Addr) (len cap : Nat) (w : World) (h : BkAtP w g Bo cnt xEntry xVersion xHeld) (hp : P0 mkEntry 2 116 4398046511033 w Bo ⟨A, len, cap, cnt + 1, none, 0, 0⟩) (hd : ∀ e ∈ xEntry, ∀ a c, e.A = some a → A = some c → a.block ≠ c.block) (hc : cnt + 1 ≤ 1152921504606846976) (hl : xEntry.length + 1 ≤ 2199023255552) :
    Calls Tryz.prog 50 #[.pointer (some ⟨g, 0, none⟩), .slice A len cap] w fun e w' => e = .returned (.tuple #[]) ∧ BkAtP w' g Bo (cnt + 1) (xEntry ++ [⟨A, len, cap, cnt + 1, none, 0, 0⟩]) xVersion xHeld ∧ Kept w w' (fun b => b = g ∨ ∃ cs, w.heap[b]? = some (.cells cs 185 (0, 0))) ∧ Below Bo w w' := by
  obtain ⟨lo, num, ⟨cs, hg, hz, h0, nByte, nInt, nText, nWrite, nTxn, nHeldList, nEvent, nAnswer, kEntry, kVersion, kHeld⟩, lEntry, lVersion, lHeld⟩ := h
  obtain ⟨SA, sc, q1, q2, q3, q4⟩ := kEntry
  refine (keepEntry_any g Bo cnt cs xEntry SA sc A len cap w hg hz h0 q1 q2 lo.2 (by omega) num).mono fun e w' he => ?_
  obtain ⟨rfl, SA', sc', g1, g2, g3, g4⟩ := he
  have hX : ∀ b, (b = g ∨ ∃ a, SA = some a ∧ b = a.block) → ∃ c t, w.heap[b]? = some (.cells c t (0, 0)) ∧ (t = 44 ∨ t = 185) := fun b hb => by
    rcases hb with rfl | ⟨a, ea, rfl⟩
    · exact ⟨_, _, hg, Or.inl rfl⟩
    · obtain ⟨c, hc⟩ := q2.ty ea; exact ⟨c, _, hc, Or.inr rfl⟩
  refine ⟨rfl, ⟨⟨lo.1, Nat.le_trans lo.2 g3.size⟩, hc, ⟨_, g1, by simp [hz], by rw [Array.getElem?_setIfInBounds_ne (by omega), Array.getElem?_setIfInBounds_self_of_lt (by rw [hz]; omega)], by rw [Array.getElem?_setIfInBounds_ne (by omega), Array.getElem?_setIfInBounds_ne (by omega)]; exact nByte, by rw [Array.getElem?_setIfInBounds_ne (by omega), Array.getElem?_setIfInBounds_ne (by omega)]; exact nInt, by rw [Array.getElem?_setIfInBounds_ne (by omega), Array.getElem?_setIfInBounds_ne (by omega)]; exact nText, by rw [Array.getElem?_setIfInBounds_ne (by omega), Array.getElem?_setIfInBounds_ne (by omega)]; exact nWrite, by rw [Array.getElem?_setIfInBounds_ne (by omega), Array.getElem?_setIfInBounds_ne (by omega)]; exact nTxn, by rw [Array.getElem?_setIfInBounds_ne (by omega), Array.getElem?_setIfInBounds_ne (by omega)]; exact nHeldList, by rw [Array.getElem?_setIfInBounds_ne (by omega), Array.getElem?_setIfInBounds_ne (by omega)]; exact nEvent, by rw [Array.getElem?_setIfInBounds_ne (by omega), Array.getElem?_setIfInBounds_ne (by omega)]; exact nAnswer, ?_, ?_, ?_⟩, by simpa using hl, lVersion, lHeld⟩, ?_, ?_⟩
  · refine ⟨SA', sc', by rw [Array.getElem?_setIfInBounds_self_of_lt (by simp [hz])]; simp, by simpa using g2, fun e he => ?_, ?_⟩
    · rcases List.mem_append.1 he with he | he
      · exact (q3 e he).more g3 (fun a ea hx => by obtain ⟨c1, h1⟩ := (q3 e he).tk.ty ea; obtain ⟨c2, t2, h2, rfl | rfl⟩ := hX _ hx <;> exact blk_ne2 h1 h2 (by decide) rfl)
      · simp at he; subst he
        exact hp.more g3 (fun a ea hx => by obtain ⟨c1, h1⟩ := hp.tk.ty ea; obtain ⟨c2, t2, h2, rfl | rfl⟩ := hX _ hx <;> exact blk_ne2 h1 h2 (by decide) rfl)
    · refine List.pairwise_append.2 ⟨q4, List.pairwise_singleton _ _, fun e he f hf a c ea ec => ?_⟩
      simp at hf; subst hf
      exact hd e he a c ea ec
  · obtain ⟨SB, sd, r1, r2, r3, r4⟩ := kVersion
    exact ⟨SB, sd, by rw [Array.getElem?_setIfInBounds_ne (by omega), Array.getElem?_setIfInBounds_ne (by omega)]; exact r1, r2.kept g3 (fun a ea hx => by obtain ⟨c1, h1⟩ := r2.ty ea; obtain ⟨c2, t2, h2, rfl | rfl⟩ := hX _ hx <;> exact blk_ne2 h1 h2 (by decide) rfl), fun e he => (r3 e he).more g3 (fun a ea hx => by obtain ⟨c1, h1⟩ := (r3 e he).tk.ty ea; obtain ⟨c2, t2, h2, rfl | rfl⟩ := hX _ hx <;> exact blk_ne2 h1 h2 (by decide) rfl), r4⟩
  · obtain ⟨SB, sd, r1, r2, r3, r4⟩ := kHeld
    exact ⟨SB, sd, by rw [Array.getElem?_setIfInBounds_ne (by omega), Array.getElem?_setIfInBounds_ne (by omega)]; exact r1, r2.kept g3 (fun a ea hx => by obtain ⟨c1, h1⟩ := r2.ty ea; obtain ⟨c2, t2, h2, rfl | rfl⟩ := hX _ hx <;> exact blk_ne2 h1 h2 (by decide) rfl), fun e he => (r3 e he).more g3 (fun a ea hx => by obtain ⟨c1, h1⟩ := (r3 e he).tk.ty ea; obtain ⟨c2, t2, h2, rfl | rfl⟩ := hX _ hx <;> exact blk_ne2 h1 h2 (by decide) rfl), r4⟩
  · exact g3.mono fun b hb => hb.imp id (fun ⟨a, ea, eb⟩ => by rw [eb]; exact q2.ty ea)
  · exact g3.below lo.2 (fun b hb => by rcases hb with rfl | ⟨a, ea, rfl⟩; exact lo.1; exact (q2.lt ea).1)
set_option maxHeartbeats 2000000 in
theorem tellVersionP_any (g Bo cnt : Nat) (xEntry xVersion xHeld : List BkE) (A : Option Addr) (len cap : Nat) (w : World) (h : BkAtP w g Bo cnt xEntry xVersion xHeld) (hp : P0 mkVersion 3 140 4398046511033 w Bo ⟨A, len, cap, cnt + 1, none, 0, 0⟩) (hd : ∀ e ∈ xVersion, ∀ a c, e.A = some a → A = some c → a.block ≠ c.block) (hc : cnt + 1 ≤ 1152921504606846976) (hl : xVersion.length + 1 ≤ 2199023255552) :
    Calls Tryz.prog 176 #[.pointer (some ⟨g, 0, none⟩), .slice A len cap] w fun e w' => e = .returned (.tuple #[]) ∧ BkAtP w' g Bo (cnt + 1) xEntry (xVersion ++ [⟨A, len, cap, cnt + 1, none, 0, 0⟩]) xHeld ∧ Kept w w' (fun b => b = g ∨ ∃ cs, w.heap[b]? = some (.cells cs 200 (0, 0))) ∧ Below Bo w w' := by
  obtain ⟨lo, num, ⟨cs, hg, hz, h0, nByte, nInt, nText, nWrite, nTxn, nHeldList, nEvent, nAnswer, kEntry, kVersion, kHeld⟩, lEntry, lVersion, lHeld⟩ := h
  obtain ⟨SA, sc, q1, q2, q3, q4⟩ := kVersion
  refine (keepVersion_any g Bo cnt cs xVersion SA sc A len cap w hg hz h0 q1 q2 lo.2 (by omega) num).mono fun e w' he => ?_
  obtain ⟨rfl, SA', sc', g1, g2, g3, g4⟩ := he
  have hX : ∀ b, (b = g ∨ ∃ a, SA = some a ∧ b = a.block) → ∃ c t, w.heap[b]? = some (.cells c t (0, 0)) ∧ (t = 44 ∨ t = 200) := fun b hb => by
    rcases hb with rfl | ⟨a, ea, rfl⟩
    · exact ⟨_, _, hg, Or.inl rfl⟩
    · obtain ⟨c, hc⟩ := q2.ty ea; exact ⟨c, _, hc, Or.inr rfl⟩
  refine ⟨rfl, ⟨⟨lo.1, Nat.le_trans lo.2 g3.size⟩, hc, ⟨_, g1, by simp [hz], by rw [Array.getElem?_setIfInBounds_ne (by omega), Array.getElem?_setIfInBounds_self_of_lt (by rw [hz]; omega)], by rw [Array.getElem?_setIfInBounds_ne (by omega), Array.getElem?_setIfInBounds_ne (by omega)]; exact nByte, by rw [Array.getElem?_setIfInBounds_ne (by omega), Array.getElem?_setIfInBounds_ne (by omega)]; exact nInt, by rw [Array.getElem?_setIfInBounds_ne (by omega), Array.getElem?_setIfInBounds_ne (by omega)]; exact nText, by rw [Array.getElem?_setIfInBounds_ne (by omega), Array.getElem?_setIfInBounds_ne (by omega)]; exact nWrite, by rw [Array.getElem?_setIfInBounds_ne (by omega), Array.getElem?_setIfInBounds_ne (by omega)]; exact nTxn, by rw [Array.getElem?_setIfInBounds_ne (by omega), Array.getElem?_setIfInBounds_ne (by omega)]; exact nHeldList, by rw [Array.getElem?_setIfInBounds_ne (by omega), Array.getElem?_setIfInBounds_ne (by omega)]; exact nEvent, by rw [Array.getElem?_setIfInBounds_ne (by omega), Array.getElem?_setIfInBounds_ne (by omega)]; exact nAnswer, ?_, ?_, ?_⟩, lEntry, by simpa using hl, lHeld⟩, ?_, ?_⟩
  · obtain ⟨SB, sd, r1, r2, r3, r4⟩ := kEntry
    exact ⟨SB, sd, by rw [Array.getElem?_setIfInBounds_ne (by omega), Array.getElem?_setIfInBounds_ne (by omega)]; exact r1, r2.kept g3 (fun a ea hx => by obtain ⟨c1, h1⟩ := r2.ty ea; obtain ⟨c2, t2, h2, rfl | rfl⟩ := hX _ hx <;> exact blk_ne2 h1 h2 (by decide) rfl), fun e he => (r3 e he).more g3 (fun a ea hx => by obtain ⟨c1, h1⟩ := (r3 e he).tk.ty ea; obtain ⟨c2, t2, h2, rfl | rfl⟩ := hX _ hx <;> exact blk_ne2 h1 h2 (by decide) rfl), r4⟩
  · refine ⟨SA', sc', by rw [Array.getElem?_setIfInBounds_self_of_lt (by simp [hz])]; simp, by simpa using g2, fun e he => ?_, ?_⟩
    · rcases List.mem_append.1 he with he | he
      · exact (q3 e he).more g3 (fun a ea hx => by obtain ⟨c1, h1⟩ := (q3 e he).tk.ty ea; obtain ⟨c2, t2, h2, rfl | rfl⟩ := hX _ hx <;> exact blk_ne2 h1 h2 (by decide) rfl)
      · simp at he; subst he
        exact hp.more g3 (fun a ea hx => by obtain ⟨c1, h1⟩ := hp.tk.ty ea; obtain ⟨c2, t2, h2, rfl | rfl⟩ := hX _ hx <;> exact blk_ne2 h1 h2 (by decide) rfl)
    · refine List.pairwise_append.2 ⟨q4, List.pairwise_singleton _ _, fun e he f hf a c ea ec => ?_⟩
      simp at hf; subst hf
      exact hd e he a c ea ec
  · obtain ⟨SB, sd, r1, r2, r3, r4⟩ := kHeld
    exact ⟨SB, sd, by rw [Array.getElem?_setIfInBounds_ne (by omega), Array.getElem?_setIfInBounds_ne (by omega)]; exact r1, r2.kept g3 (fun a ea hx => by obtain ⟨c1, h1⟩ := r2.ty ea; obtain ⟨c2, t2, h2, rfl | rfl⟩ := hX _ hx <;> exact blk_ne2 h1 h2 (by decide) rfl), fun e he => (r3 e he).more g3 (fun a ea hx => by obtain ⟨c1, h1⟩ := (r3 e he).tk.ty ea; obtain ⟨c2, t2, h2, rfl | rfl⟩ := hX _ hx <;> exact blk_ne2 h1 h2 (by decide) rfl), r4⟩
  · exact g3.mono fun b hb => hb.imp id (fun ⟨a, ea, eb⟩ => by rw [eb]; exact q2.ty ea)
  · exact g3.below lo.2 (fun b hb => by rcases hb with rfl | ⟨a, ea, rfl⟩; exact lo.1; exact (q2.lt ea).1)
set_option maxHeartbeats 2000000 in
theorem tellHeldP_any (g Bo cnt : Nat) (xEntry xVersion xHeld : List BkE) (A : Option Addr) (len cap : Nat) (w : World) (h : BkAtP w g Bo cnt xEntry xVersion xHeld) (hp : P0 mkHeld 2 132 3518437208812 w Bo ⟨A, len, cap, cnt + 1, none, 0, 0⟩) (hd : ∀ e ∈ xHeld, ∀ a c, e.A = some a → A = some c → a.block ≠ c.block) (hc : cnt + 1 ≤ 1152921504606846976) (hl : xHeld.length + 1 ≤ 2199023255552) :
    Calls Tryz.prog 106 #[.pointer (some ⟨g, 0, none⟩), .slice A len cap] w fun e w' => e = .returned (.tuple #[]) ∧ BkAtP w' g Bo (cnt + 1) xEntry xVersion (xHeld ++ [⟨A, len, cap, cnt + 1, none, 0, 0⟩]) ∧ Kept w w' (fun b => b = g ∨ ∃ cs, w.heap[b]? = some (.cells cs 204 (0, 0))) ∧ Below Bo w w' := by
  obtain ⟨lo, num, ⟨cs, hg, hz, h0, nByte, nInt, nText, nWrite, nTxn, nHeldList, nEvent, nAnswer, kEntry, kVersion, kHeld⟩, lEntry, lVersion, lHeld⟩ := h
  obtain ⟨SA, sc, q1, q2, q3, q4⟩ := kHeld
  refine (keepHeld_any g Bo cnt cs xHeld SA sc A len cap w hg hz h0 q1 q2 lo.2 (by omega) num).mono fun e w' he => ?_
  obtain ⟨rfl, SA', sc', g1, g2, g3, g4⟩ := he
  have hX : ∀ b, (b = g ∨ ∃ a, SA = some a ∧ b = a.block) → ∃ c t, w.heap[b]? = some (.cells c t (0, 0)) ∧ (t = 44 ∨ t = 204) := fun b hb => by
    rcases hb with rfl | ⟨a, ea, rfl⟩
    · exact ⟨_, _, hg, Or.inl rfl⟩
    · obtain ⟨c, hc⟩ := q2.ty ea; exact ⟨c, _, hc, Or.inr rfl⟩
  refine ⟨rfl, ⟨⟨lo.1, Nat.le_trans lo.2 g3.size⟩, hc, ⟨_, g1, by simp [hz], by rw [Array.getElem?_setIfInBounds_ne (by omega), Array.getElem?_setIfInBounds_self_of_lt (by rw [hz]; omega)], by rw [Array.getElem?_setIfInBounds_ne (by omega), Array.getElem?_setIfInBounds_ne (by omega)]; exact nByte, by rw [Array.getElem?_setIfInBounds_ne (by omega), Array.getElem?_setIfInBounds_ne (by omega)]; exact nInt, by rw [Array.getElem?_setIfInBounds_ne (by omega), Array.getElem?_setIfInBounds_ne (by omega)]; exact nText, by rw [Array.getElem?_setIfInBounds_ne (by omega), Array.getElem?_setIfInBounds_ne (by omega)]; exact nWrite, by rw [Array.getElem?_setIfInBounds_ne (by omega), Array.getElem?_setIfInBounds_ne (by omega)]; exact nTxn, by rw [Array.getElem?_setIfInBounds_ne (by omega), Array.getElem?_setIfInBounds_ne (by omega)]; exact nHeldList, by rw [Array.getElem?_setIfInBounds_ne (by omega), Array.getElem?_setIfInBounds_ne (by omega)]; exact nEvent, by rw [Array.getElem?_setIfInBounds_ne (by omega), Array.getElem?_setIfInBounds_ne (by omega)]; exact nAnswer, ?_, ?_, ?_⟩, lEntry, lVersion, by simpa using hl⟩, ?_, ?_⟩
  · obtain ⟨SB, sd, r1, r2, r3, r4⟩ := kEntry
    exact ⟨SB, sd, by rw [Array.getElem?_setIfInBounds_ne (by omega), Array.getElem?_setIfInBounds_ne (by omega)]; exact r1, r2.kept g3 (fun a ea hx => by obtain ⟨c1, h1⟩ := r2.ty ea; obtain ⟨c2, t2, h2, rfl | rfl⟩ := hX _ hx <;> exact blk_ne2 h1 h2 (by decide) rfl), fun e he => (r3 e he).more g3 (fun a ea hx => by obtain ⟨c1, h1⟩ := (r3 e he).tk.ty ea; obtain ⟨c2, t2, h2, rfl | rfl⟩ := hX _ hx <;> exact blk_ne2 h1 h2 (by decide) rfl), r4⟩
  · obtain ⟨SB, sd, r1, r2, r3, r4⟩ := kVersion
    exact ⟨SB, sd, by rw [Array.getElem?_setIfInBounds_ne (by omega), Array.getElem?_setIfInBounds_ne (by omega)]; exact r1, r2.kept g3 (fun a ea hx => by obtain ⟨c1, h1⟩ := r2.ty ea; obtain ⟨c2, t2, h2, rfl | rfl⟩ := hX _ hx <;> exact blk_ne2 h1 h2 (by decide) rfl), fun e he => (r3 e he).more g3 (fun a ea hx => by obtain ⟨c1, h1⟩ := (r3 e he).tk.ty ea; obtain ⟨c2, t2, h2, rfl | rfl⟩ := hX _ hx <;> exact blk_ne2 h1 h2 (by decide) rfl), r4⟩
  · refine ⟨SA', sc', by rw [Array.getElem?_setIfInBounds_self_of_lt (by simp [hz])]; simp, by simpa using g2, fun e he => ?_, ?_⟩
    · rcases List.mem_append.1 he with he | he
      · exact (q3 e he).more g3 (fun a ea hx => by obtain ⟨c1, h1⟩ := (q3 e he).tk.ty ea; obtain ⟨c2, t2, h2, rfl | rfl⟩ := hX _ hx <;> exact blk_ne2 h1 h2 (by decide) rfl)
      · simp at he; subst he
        exact hp.more g3 (fun a ea hx => by obtain ⟨c1, h1⟩ := hp.tk.ty ea; obtain ⟨c2, t2, h2, rfl | rfl⟩ := hX _ hx <;> exact blk_ne2 h1 h2 (by decide) rfl)
    · refine List.pairwise_append.2 ⟨q4, List.pairwise_singleton _ _, fun e he f hf a c ea ec => ?_⟩
      simp at hf; subst hf
      exact hd e he a c ea ec
  · exact g3.mono fun b hb => hb.imp id (fun ⟨a, ea, eb⟩ => by rw [eb]; exact q2.ty ea)
  · exact g3.below lo.2 (fun b hb => by rcases hb with rfl | ⟨a, ea, rfl⟩; exact lo.1; exact (q2.lt ea).1)
set_option maxHeartbeats 16000000 in
theorem apartP_any (g Bo cnt : Nat) (xEntry xVersion xHeld : List BkE) (w : World) (h : BkAtP w g Bo cnt xEntry xVersion xHeld) (hT : TabB Tryz.prog Bo w) :
    Calls Tryz.prog 16 #[.pointer (some ⟨g, 0, none⟩)] w fun e w' => e = .returned (.bool true) ∧ Kept w w' (fun b => InE xEntry b ∨ InE xVersion b ∨ InE xHeld b ∨ (∃ cs, w.heap[b]? = some (.cells cs 185 (0, 0))) ∨ (∃ cs, w.heap[b]? = some (.cells cs 200 (0, 0))) ∨ (∃ cs, w.heap[b]? = some (.cells cs 204 (0, 0)))) ∧ Below Bo w w' := by
  have HT := Lib.hid hT
  obtain ⟨⟨lo1, lo2⟩, num, ⟨cs, hg, hz, h0, nByte, nInt, nText, nWrite, nTxn, nHeldList, nEvent, nAnswer, kEntry, kVersion, kHeld⟩, lEntry, lVersion, lHeld⟩ := h
  obtain ⟨SAEntry, scEntry, fEntry, sEntry, qEntry, dEntry⟩ := kEntry
  have HFEntry := Lib.hid fEntry
  have HSEntry_0 := Lib.hid sEntry
  have HQEntry_0 := Lib.hid qEntry
  have HDEntry := Lib.hid dEntry
  obtain ⟨SAVersion, scVersion, fVersion, sVersion, qVersion, dVersion⟩ := kVersion
  have HFVersion := Lib.hid fVersion
  have HSVersion_0 := Lib.hid sVersion
  have HQVersion_0 := Lib.hid qVersion
  have HDVersion := Lib.hid dVersion
  obtain ⟨SAHeld, scHeld, fHeld, sHeld, qHeld, dHeld⟩ := kHeld
  have HFHeld := Lib.hid fHeld
  have HSHeld_0 := Lib.hid sHeld
  have HQHeld_0 := Lib.hid qHeld
  have HDHeld := Lib.hid dHeld
  obtain ⟨X, hX⟩ : ∃ X : Nat → Prop, X = fun b => InE xEntry b ∨ InE xVersion b ∨ InE xHeld b ∨ (∃ a, SAEntry = some a ∧ b = a.block) ∨ (∃ a, SAVersion = some a ∧ b = a.block) ∨ (∃ a, SAHeld = some a ∧ b = a.block) := ⟨_, rfl⟩
  have HXl : Hid (∀ b, X b → Bo ≤ b) := Lib.hid (fun b hb => by
    rw [hX] at hb
    rcases hb with hb | hb | hb | ⟨a, ea, rfl⟩ | ⟨a, ea, rfl⟩ | ⟨a, ea, rfl⟩
    · exact InE.lo (fun e he a ha => ((qEntry e he).tk.lt ha).1) b hb
    · exact InE.lo (fun e he a ha => ((qVersion e he).tk.lt ha).1) b hb
    · exact InE.lo (fun e he a ha => ((qHeld e he).tk.lt ha).1) b hb
    · exact (sEntry.lt ea).1
    · exact (sVersion.lt ea).1
    · exact (sHeld.lt ea).1)
  have HXiEntry : Hid (∀ b, InE xEntry b → X b) := Lib.hid (fun b hb => by rw [hX]; exact Or.inl hb)
  have HXsEntry : Hid (∀ b, (∃ a, SAEntry = some a ∧ b = a.block) → X b) := Lib.hid (fun b hb => by rw [hX]; exact Or.inr (Or.inr (Or.inr (Or.inl hb))))
  have HXiVersion : Hid (∀ b, InE xVersion b → X b) := Lib.hid (fun b hb => by rw [hX]; exact Or.inr (Or.inl hb))
  have HXsVersion : Hid (∀ b, (∃ a, SAVersion = some a ∧ b = a.block) → X b) := Lib.hid (fun b hb => by rw [hX]; exact Or.inr (Or.inr (Or.inr (Or.inr (Or.inl hb)))))
  have HXiHeld : Hid (∀ b, InE xHeld b → X b) := Lib.hid (fun b hb => by rw [hX]; exact Or.inr (Or.inr (Or.inl hb)))
  have HXsHeld : Hid (∀ b, (∃ a, SAHeld = some a ∧ b = a.block) → X b) := Lib.hid (fun b hb => by rw [hX]; exact Or.inr (Or.inr (Or.inr (Or.inr (Or.inr (hb))))))
  have HXe : Hid (∀ b, X b → InE xEntry b ∨ InE xVersion b ∨ InE xHeld b ∨ (∃ cs, w.heap[b]? = some (.cells cs 185 (0, 0))) ∨ (∃ cs, w.heap[b]? = some (.cells cs 200 (0, 0))) ∨ (∃ cs, w.heap[b]? = some (.cells cs 204 (0, 0)))) := Lib.hid (fun b hb => by
    rw [hX] at hb
    rcases hb with hb | hb | hb | ⟨a, ea, rfl⟩ | ⟨a, ea, rfl⟩ | ⟨a, ea, rfl⟩
    · exact Or.inl hb
    · exact Or.inr (Or.inl hb)
    · exact Or.inr (Or.inr (Or.inl hb))
    · exact Or.inr (Or.inr (Or.inr (Or.inl (sEntry.ty ea))))
    · exact Or.inr (Or.inr (Or.inr (Or.inr (Or.inl (sVersion.ty ea)))))
    · exact Or.inr (Or.inr (Or.inr (Or.inr (Or.inr ((sHeld.ty ea)))))))
  have HG_0 := Lib.hid hg
  have HK_0 : Hid (Kept w w X) := Lib.hid (Kept.refl _ _)
  have HNByte := Lib.hid nByte
  have HNInt := Lib.hid nInt
  have HNText := Lib.hid nText
  have HNWrite := Lib.hid nWrite
  have HNTxn := Lib.hid nTxn
  have HNHeldList := Lib.hid nHeldList
  have HNEvent := Lib.hid nEvent
  have HNAnswer := Lib.hid nAnswer
  clear hg hT hX h0 hz nByte nInt nText nWrite nTxn nHeldList nEvent nAnswer fEntry sEntry qEntry dEntry fVersion sVersion qVersion dVersion fHeld sHeld qHeld dHeld
  go_enter Tryz.func16, Tryz.ntmps16
  go_wp2_with fail
  refine (fillByte_nilP g _ ((blk_cell HG_0.out 1).trans HNByte.out)).mono ?_
  rintro e wz ⟨rfl, rfl⟩
  go_wp2_with fail
  refine (fillInt_nilP g _ ((blk_cell HG_0.out 2).trans HNInt.out)).mono ?_
  rintro e wz ⟨rfl, rfl⟩
  go_wp2_with fail
  refine (fillText_nilP g _ ((blk_cell HG_0.out 3).trans HNText.out)).mono ?_
  rintro e wz ⟨rfl, rfl⟩
  go_wp2_with fail
  refine (fillWrite_nilP g _ ((blk_cell HG_0.out 4).trans HNWrite.out)).mono ?_
  rintro e wz ⟨rfl, rfl⟩
  go_wp2_with fail
  refine (fillEntry_any g Bo xEntry SAEntry scEntry _ ⟨cs, HG_0.out, HFEntry.out⟩ HSEntry_0.out HQEntry_0.out HDEntry.out (Nat.le_trans lo2 HK_0.out.size) (HT.out.next (HK_0.out.below lo2 HXl.out)) (by omega)).mono ?_
  rintro e w1 ⟨rfl, hk, hq⟩
  have hxx : ∀ b, InE xEntry b → ∃ c, w.heap[b]? = some (.cells c 116 (0, 0)) := fun b ⟨e, he, a, ha, hb⟩ => by rw [hb]; exact (HQEntry_0.out e he).tk.ty ha
  have HK_1 : Hid (Kept w w1 X) := Lib.hid (HK_0.out.trans (hk.mono HXiEntry.out))
  have HG_1 : Hid (w1.heap[g]? = some (.cells cs 44 (0, 0))) := Lib.hid (hk.blk HG_0.out (blk_lt HG_0.out) (fun hx => by have h1 := HG_0.out; obtain ⟨c2, h2⟩ := hxx _ hx; exact blk_ne2 h1 h2 (by decide) rfl))
  have HSEntry_1 := Lib.hid (HSEntry_0.out.kept hk (fun a ea hx => by obtain ⟨c1, h1⟩ := HSEntry_0.out.ty ea; obtain ⟨c2, h2⟩ := hxx _ hx; exact blk_ne2 h1 h2 (by decide) rfl))
  have HQEntry_1 : Hid (∀ e ∈ xEntry, e.len ≤ 4398046511033 ∧ e.n ≤ 1152921504606846976 ∧ P1 mkEntry 2 116 w1 Bo e) := Lib.hid (fun e he => ⟨(HQEntry_0.out e he).lim, (HQEntry_0.out e he).num, hq e he⟩)
  have HSVersion_1 := Lib.hid (HSVersion_0.out.kept hk (fun a ea hx => by obtain ⟨c1, h1⟩ := HSVersion_0.out.ty ea; obtain ⟨c2, h2⟩ := hxx _ hx; exact blk_ne2 h1 h2 (by decide) rfl))
  have HQVersion_1 := Lib.hid (fun e he => (HQVersion_0.out e he).more hk (fun a ea hx => by obtain ⟨c1, h1⟩ := (HQVersion_0.out e he).tk.ty ea; obtain ⟨c2, h2⟩ := hxx _ hx; exact blk_ne2 h1 h2 (by decide) rfl))
  have HSHeld_1 := Lib.hid (HSHeld_0.out.kept hk (fun a ea hx => by obtain ⟨c1, h1⟩ := HSHeld_0.out.ty ea; obtain ⟨c2, h2⟩ := hxx _ hx; exact blk_ne2 h1 h2 (by decide) rfl))
  have HQHeld_1 := Lib.hid (fun e he => (HQHeld_0.out e he).more hk (fun a ea hx => by obtain ⟨c1, h1⟩ := (HQHeld_0.out e he).tk.ty ea; obtain ⟨c2, h2⟩ := hxx _ hx; exact blk_ne2 h1 h2 (by decide) rfl))
  clear hk hxx hq HG_0 HK_0 HSEntry_0 HQEntry_0 HSVersion_0 HQVersion_0 HSHeld_0 HQHeld_0
  go_wp2_with fail
  refine (fillVersion_any g Bo xVersion SAVersion scVersion _ ⟨cs, HG_1.out, HFVersion.out⟩ HSVersion_1.out HQVersion_1.out HDVersion.out (Nat.le_trans lo2 HK_1.out.size) (HT.out.next (HK_1.out.below lo2 HXl.out)) (by omega)).mono ?_
  rintro e w2 ⟨rfl, hk, hq⟩
  have hxx : ∀ b, InE xVersion b → ∃ c, w1.heap[b]? = some (.cells c 140 (0, 0)) := fun b ⟨e, he, a, ha, hb⟩ => by rw [hb]; exact (HQVersion_1.out e he).tk.ty ha
  have HK_2 : Hid (Kept w w2 X) := Lib.hid (HK_1.out.trans (hk.mono HXiVersion.out))
  have HG_2 : Hid (w2.heap[g]? = some (.cells cs 44 (0, 0))) := Lib.hid (hk.blk HG_1.out (blk_lt HG_1.out) (fun hx => by have h1 := HG_1.out; obtain ⟨c2, h2⟩ := hxx _ hx; exact blk_ne2 h1 h2 (by decide) rfl))
  have HSEntry_2 := Lib.hid (HSEntry_1.out.kept hk (fun a ea hx => by obtain ⟨c1, h1⟩ := HSEntry_1.out.ty ea; obtain ⟨c2, h2⟩ := hxx _ hx; exact blk_ne2 h1 h2 (by decide) rfl))
  have HQEntry_2 : Hid (∀ e ∈ xEntry, e.len ≤ 4398046511033 ∧ e.n ≤ 1152921504606846976 ∧ P1 mkEntry 2 116 w2 Bo e) := Lib.hid (fun e he => ⟨(HQEntry_1.out e he).1, (HQEntry_1.out e he).2.1, (HQEntry_1.out e he).2.2.kept hk (fun a ea hx => by obtain ⟨c1, h1⟩ := (HQEntry_1.out e he).2.2.ty ea; obtain ⟨c2, h2⟩ := hxx _ hx; exact blk_ne2 h1 h2 (by decide) rfl)⟩)
  have HSVersion_2 := Lib.hid (HSVersion_1.out.kept hk (fun a ea hx => by obtain ⟨c1, h1⟩ := HSVersion_1.out.ty ea; obtain ⟨c2, h2⟩ := hxx _ hx; exact blk_ne2 h1 h2 (by decide) rfl))
  have HQVersion_2 : Hid (∀ e ∈ xVersion, e.len ≤ 4398046511033 ∧ e.n ≤ 1152921504606846976 ∧ P1 mkVersion 3 140 w2 Bo e) := Lib.hid (fun e he => ⟨(HQVersion_1.out e he).lim, (HQVersion_1.out e he).num, hq e he⟩)
  have HSHeld_2 := Lib.hid (HSHeld_1.out.kept hk (fun a ea hx => by obtain ⟨c1, h1⟩ := HSHeld_1.out.ty ea; obtain ⟨c2, h2⟩ := hxx _ hx; exact blk_ne2 h1 h2 (by decide) rfl))
  have HQHeld_2 := Lib.hid (fun e he => (HQHeld_1.out e he).more hk (fun a ea hx => by obtain ⟨c1, h1⟩ := (HQHeld_1.out e he).tk.ty ea; obtain ⟨c2, h2⟩ := hxx _ hx; exact blk_ne2 h1 h2 (by decide) rfl))
  clear hk hxx hq HG_1 HK_1 HSEntry_1 HQEntry_1 HSVersion_1 HQVersion_1 HSHeld_1 HQHeld_1
  go_wp2_with fail
  refine (fillTxn_nilP g _ ((blk_cell HG_2.out 7).trans HNTxn.out)).mono ?_
  rintro e wz ⟨rfl, rfl⟩
  go_wp2_with fail
  refine (fillHeld_any g Bo xHeld SAHeld scHeld _ ⟨cs, HG_2.out, HFHeld.out⟩ HSHeld_2.out HQHeld_2.out HDHeld.out (Nat.le_trans lo2 HK_2.out.size) (HT.out.next (HK_2.out.below lo2 HXl.out)) (by omega)).mono ?_
  rintro e w3 ⟨rfl, hk, hq⟩
  have hxx : ∀ b, InE xHeld b → ∃ c, w2.heap[b]? = some (.cells c 132 (0, 0)) := fun b ⟨e, he, a, ha, hb⟩ => by rw [hb]; exact (HQHeld_2.out e he).tk.ty ha
  have HK_3 : Hid (Kept w w3 X) := Lib.hid (HK_2.out.trans (hk.mono HXiHeld.out))
  have HG_3 : Hid (w3.heap[g]? = some (.cells cs 44 (0, 0))) := Lib.hid (hk.blk HG_2.out (blk_lt HG_2.out) (fun hx => by have h1 := HG_2.out; obtain ⟨c2, h2⟩ := hxx _ hx; exact blk_ne2 h1 h2 (by decide) rfl))
  have HSEntry_3 := Lib.hid (HSEntry_2.out.kept hk (fun a ea hx => by obtain ⟨c1, h1⟩ := HSEntry_2.out.ty ea; obtain ⟨c2, h2⟩ := hxx _ hx; exact blk_ne2 h1 h2 (by decide) rfl))
  have HQEntry_3 : Hid (∀ e ∈ xEntry, e.len ≤ 4398046511033 ∧ e.n ≤ 1152921504606846976 ∧ P1 mkEntry 2 116 w3 Bo e) := Lib.hid (fun e he => ⟨(HQEntry_2.out e he).1, (HQEntry_2.out e he).2.1, (HQEntry_2.out e he).2.2.kept hk (fun a ea hx => by obtain ⟨c1, h1⟩ := (HQEntry_2.out e he).2.2.ty ea; obtain ⟨c2, h2⟩ := hxx _ hx; exact blk_ne2 h1 h2 (by decide) rfl)⟩)
  have HSVersion_3 := Lib.hid (HSVersion_2.out.kept hk (fun a ea hx => by obtain ⟨c1, h1⟩ := HSVersion_2.out.ty ea; obtain ⟨c2, h2⟩ := hxx _ hx; exact blk_ne2 h1 h2 (by decide) rfl))
  have HQVersion_3 : Hid (∀ e ∈ xVersion, e.len ≤ 4398046511033 ∧ e.n ≤ 1152921504606846976 ∧ P1 mkVersion 3 140 w3 Bo e) := Lib.hid (fun e he => ⟨(HQVersion_2.out e he).1, (HQVersion_2.out e he).2.1, (HQVersion_2.out e he).2.2.kept hk (fun a ea hx => by obtain ⟨c1, h1⟩ := (HQVersion_2.out e he).2.2.ty ea; obtain ⟨c2, h2⟩ := hxx _ hx; exact blk_ne2 h1 h2 (by decide) rfl)⟩)
  have HSHeld_3 := Lib.hid (HSHeld_2.out.kept hk (fun a ea hx => by obtain ⟨c1, h1⟩ := HSHeld_2.out.ty ea; obtain ⟨c2, h2⟩ := hxx _ hx; exact blk_ne2 h1 h2 (by decide) rfl))
  have HQHeld_3 : Hid (∀ e ∈ xHeld, e.len ≤ 3518437208812 ∧ e.n ≤ 1152921504606846976 ∧ P1 mkHeld 2 132 w3 Bo e) := Lib.hid (fun e he => ⟨(HQHeld_2.out e he).lim, (HQHeld_2.out e he).num, hq e he⟩)
  clear hk hxx hq HG_2 HK_2 HSEntry_2 HQEntry_2 HSVersion_2 HQVersion_2 HSHeld_2 HQHeld_2
  go_wp2_with fail
  refine (fillHeldList_nilP g _ ((blk_cell HG_3.out 9).trans HNHeldList.out)).mono ?_
  rintro e wz ⟨rfl, rfl⟩
  go_wp2_with fail
  refine (fillEvent_nilP g _ ((blk_cell HG_3.out 10).trans HNEvent.out)).mono ?_
  rintro e wz ⟨rfl, rfl⟩
  go_wp2_with fail
  refine (fillAnswer_nilP g _ ((blk_cell HG_3.out 11).trans HNAnswer.out)).mono ?_
  rintro e wz ⟨rfl, rfl⟩
  go_wp2_with fail
  refine (growByte_nilP g _ ((blk_cell HG_3.out 1).trans HNByte.out)).mono ?_
  rintro e wz ⟨rfl, rfl⟩
  go_wp2_with fail
  refine (growInt_nilP g _ ((blk_cell HG_3.out 2).trans HNInt.out)).mono ?_
  rintro e wz ⟨rfl, rfl⟩
  go_wp2_with fail
  refine (growText_nilP g _ ((blk_cell HG_3.out 3).trans HNText.out)).mono ?_
  rintro e wz ⟨rfl, rfl⟩
  go_wp2_with fail
  refine (growWrite_nilP g _ ((blk_cell HG_3.out 4).trans HNWrite.out)).mono ?_
  rintro e wz ⟨rfl, rfl⟩
  go_wp2_with fail
  refine (growEntry_any g Bo xEntry SAEntry scEntry _ ⟨cs, HG_3.out, HFEntry.out⟩ HSEntry_3.out HQEntry_3.out HDEntry.out (Nat.le_trans lo2 HK_3.out.size) (HT.out.next (HK_3.out.below lo2 HXl.out)) (by omega)).mono ?_
  rintro e w4 ⟨rfl, hk, yEntry, hylEntry, hys, hyq⟩
  have hxx : ∀ b, (InE xEntry b ∨ ∃ a, SAEntry = some a ∧ b = a.block) → ∃ c t, w3.heap[b]? = some (.cells c t (0, 0)) ∧ (t = 116 ∨ t = 185) := fun b hb => by
    rcases hb with ⟨e, he, a, ha, rfl⟩ | ⟨a, ea, rfl⟩
    · obtain ⟨c, hc⟩ := (HQEntry_3.out e he).2.2.ty ha; exact ⟨c, _, hc, Or.inl rfl⟩
    · obtain ⟨c, hc⟩ := HSEntry_3.out.ty ea; exact ⟨c, _, hc, Or.inr rfl⟩
  have HK_4 : Hid (Kept w w4 X) := Lib.hid (HK_3.out.trans (hk.mono fun b hb => hb.elim (HXiEntry.out b) (HXsEntry.out b)))
  have HG_4 : Hid (w4.heap[g]? = some (.cells cs 44 (0, 0))) := Lib.hid (hk.blk HG_3.out (blk_lt HG_3.out) (fun hx => by have h1 := HG_3.out; obtain ⟨c2, t2, h2, rfl | rfl⟩ := hxx _ hx <;> exact blk_ne2 h1 h2 (by decide) rfl))
  have HSEntry_4 : Hid (TkAt BkE.cells 3 185 w4 Bo SAEntry yEntry.length scEntry yEntry) := Lib.hid (by rw [hylEntry]; exact hys)
  have HQEntry_4 : Hid (∀ e ∈ yEntry, e.len ≤ 4398046511033 ∧ e.n ≤ 1152921504606846976 ∧ P1 mkEntry 2 116 w4 Bo e ∧ P2 mkEntry 2 116 w4 Bo e) := Lib.hid (fun e1 he1 => by
    obtain ⟨m, hm⟩ := List.getElem?_of_mem he1
    have hlt := (List.getElem?_eq_some_iff.1 hm).1
    have hxm : xEntry[m]? = some (xEntry[m]'(by omega)) := List.getElem?_eq_getElem _
    generalize xEntry[m]'(by omega) = ex at hxm
    obtain ⟨e2, he2, hgr⟩ := hyq m ex hxm
    rw [hm] at he2
    injection he2 with he2
    subst he2
    obtain ⟨g1, g2, -⟩ := HQEntry_3.out ex (List.mem_of_getElem? hxm)
    obtain ⟨a1, a2, a3, a4⟩ := hgr.same
    refine ⟨by omega, by omega, ?_, hgr.p2 rfl⟩
    have := hgr.p1
    unfold P1 at this ⊢
    rw [a1, a2, a3, a4]; exact this)
  have hylEntry_ : yEntry.length ≤ 2199023255552 := by omega
  have HFEntryy : Hid (cs[5]? = some (.slice SAEntry yEntry.length scEntry)) := Lib.hid (by rw [hylEntry]; exact HFEntry.out)
  have HSVersion_4 := Lib.hid (HSVersion_3.out.kept hk (fun a ea hx => by obtain ⟨c1, h1⟩ := HSVersion_3.out.ty ea; obtain ⟨c2, t2, h2, rfl | rfl⟩ := hxx _ hx <;> exact blk_ne2 h1 h2 (by decide) rfl))
  have HQVersion_4 : Hid (∀ e ∈ xVersion, e.len ≤ 4398046511033 ∧ e.n ≤ 1152921504606846976 ∧ P1 mkVersion 3 140 w4 Bo e) := Lib.hid (fun e he => ⟨(HQVersion_3.out e he).1, (HQVersion_3.out e he).2.1, (HQVersion_3.out e he).2.2.kept hk (fun a ea hx => by obtain ⟨c1, h1⟩ := (HQVersion_3.out e he).2.2.ty ea; obtain ⟨c2, t2, h2, rfl | rfl⟩ := hxx _ hx <;> exact blk_ne2 h1 h2 (by decide) rfl)⟩)
  have HSHeld_4 := Lib.hid (HSHeld_3.out.kept hk (fun a ea hx => by obtain ⟨c1, h1⟩ := HSHeld_3.out.ty ea; obtain ⟨c2, t2, h2, rfl | rfl⟩ := hxx _ hx <;> exact blk_ne2 h1 h2 (by decide) rfl))
  have HQHeld_4 : Hid (∀ e ∈ xHeld, e.len ≤ 3518437208812 ∧ e.n ≤ 1152921504606846976 ∧ P1 mkHeld 2 132 w4 Bo e) := Lib.hid (fun e he => ⟨(HQHeld_3.out e he).1, (HQHeld_3.out e he).2.1, (HQHeld_3.out e he).2.2.kept hk (fun a ea hx => by obtain ⟨c1, h1⟩ := (HQHeld_3.out e he).2.2.ty ea; obtain ⟨c2, t2, h2, rfl | rfl⟩ := hxx _ hx <;> exact blk_ne2 h1 h2 (by decide) rfl)⟩)
  clear hys hyq
  clear hk hxx HG_3 HK_3 HSEntry_3 HQEntry_3 HSVersion_3 HQVersion_3 HSHeld_3 HQHeld_3
  go_wp2_with fail
  refine (growVersion_any g Bo xVersion SAVersion scVersion _ ⟨cs, HG_4.out, HFVersion.out⟩ HSVersion_4.out HQVersion_4.out HDVersion.out (Nat.le_trans lo2 HK_4.out.size) (HT.out.next (HK_4.out.below lo2 HXl.out)) (by omega)).mono ?_
  rintro e w5 ⟨rfl, hk, yVersion, hylVersion, hys, hyq⟩
  have hxx : ∀ b, (InE xVersion b ∨ ∃ a, SAVersion = some a ∧ b = a.block) → ∃ c t, w4.heap[b]? = some (.cells c t (0, 0)) ∧ (t = 140 ∨ t = 200) := fun b hb => by
    rcases hb with ⟨e, he, a, ha, rfl⟩ | ⟨a, ea, rfl⟩
    · obtain ⟨c, hc⟩ := (HQVersion_4.out e he).2.2.ty ha; exact ⟨c, _, hc, Or.inl rfl⟩
    · obtain ⟨c, hc⟩ := HSVersion_4.out.ty ea; exact ⟨c, _, hc, Or.inr rfl⟩
  have HK_5 : Hid (Kept w w5 X) := Lib.hid (HK_4.out.trans (hk.mono fun b hb => hb.elim (HXiVersion.out b) (HXsVersion.out b)))
  have HG_5 : Hid (w5.heap[g]? = some (.cells cs 44 (0, 0))) := Lib.hid (hk.blk HG_4.out (blk_lt HG_4.out) (fun hx => by have h1 := HG_4.out; obtain ⟨c2, t2, h2, rfl | rfl⟩ := hxx _ hx <;> exact blk_ne2 h1 h2 (by decide) rfl))
  have HSEntry_5 := Lib.hid (HSEntry_4.out.kept hk (fun a ea hx => by obtain ⟨c1, h1⟩ := HSEntry_4.out.ty ea; obtain ⟨c2, t2, h2, rfl | rfl⟩ := hxx _ hx <;> exact blk_ne2 h1 h2 (by decide) rfl))
  have HQEntry_5 : Hid (∀ e ∈ yEntry, e.len ≤ 4398046511033 ∧ e.n ≤ 1152921504606846976 ∧ P1 mkEntry 2 116 w5 Bo e ∧ P2 mkEntry 2 116 w5 Bo e) := Lib.hid (fun e he => ⟨(HQEntry_4.out e he).1, (HQEntry_4.out e he).2.1, (HQEntry_4.out e he).2.2.1.kept hk (fun a ea hx => by obtain ⟨c1, h1⟩ := (HQEntry_4.out e he).2.2.1.ty ea; obtain ⟨c2, t2, h2, rfl | rfl⟩ := hxx _ hx <;> exact blk_ne2 h1 h2 (by decide) rfl), (HQEntry_4.out e he).2.2.2.1, (HQEntry_4.out e he).2.2.2.2.kept hk (fun a ea hx => by obtain ⟨c1, h1⟩ := (HQEntry_4.out e he).2.2.2.2.ty ea; obtain ⟨c2, t2, h2, rfl | rfl⟩ := hxx _ hx <;> exact blk_ne2 h1 h2 (by decide) rfl)⟩)
  have HSVersion_5 : Hid (TkAt BkE.cells 3 200 w5 Bo SAVersion yVersion.length scVersion yVersion) := Lib.hid (by rw [hylVersion]; exact hys)
  have HQVersion_5 : Hid (∀ e ∈ yVersion, e.len ≤ 4398046511033 ∧ e.n ≤ 1152921504606846976 ∧ P1 mkVersion 3 140 w5 Bo e ∧ P2 mkVersion 3 140 w5 Bo e) := Lib.hid (fun e1 he1 => by
    obtain ⟨m, hm⟩ := List.getElem?_of_mem he1
    have hlt := (List.getElem?_eq_some_iff.1 hm).1
    have hxm : xVersion[m]? = some (xVersion[m]'(by omega)) := List.getElem?_eq_getElem _
    generalize xVersion[m]'(by omega) = ex at hxm
    obtain ⟨e2, he2, hgr⟩ := hyq m ex hxm
    rw [hm] at he2
    injection he2 with he2
    subst he2
    obtain ⟨g1, g2, -⟩ := HQVersion_4.out ex (List.mem_of_getElem? hxm)
    obtain ⟨a1, a2, a3, a4⟩ := hgr.same
    refine ⟨by omega, by omega, ?_, hgr.p2 rfl⟩
    have := hgr.p1
    unfold P1 at this ⊢
    rw [a1, a2, a3, a4]; exact this)
  have hylVersion_ : yVersion.length ≤ 2199023255552 := by omega
  have HFVersiony : Hid (cs[6]? = some (.slice SAVersion yVersion.length scVersion)) := Lib.hid (by rw [hylVersion]; exact HFVersion.out)
  have HSHeld_5 := Lib.hid (HSHeld_4.out.kept hk (fun a ea hx => by obtain ⟨c1, h1⟩ := HSHeld_4.out.ty ea; obtain ⟨c2, t2, h2, rfl | rfl⟩ := hxx _ hx <;> exact blk_ne2 h1 h2 (by decide) rfl))
  have HQHeld_5 : Hid (∀ e ∈ xHeld, e.len ≤ 3518437208812 ∧ e.n ≤ 1152921504606846976 ∧ P1 mkHeld 2 132 w5 Bo e) := Lib.hid (fun e he => ⟨(HQHeld_4.out e he).1, (HQHeld_4.out e he).2.1, (HQHeld_4.out e he).2.2.kept hk (fun a ea hx => by obtain ⟨c1, h1⟩ := (HQHeld_4.out e he).2.2.ty ea; obtain ⟨c2, t2, h2, rfl | rfl⟩ := hxx _ hx <;> exact blk_ne2 h1 h2 (by decide) rfl)⟩)
  clear hys hyq
  clear hk hxx HG_4 HK_4 HSEntry_4 HQEntry_4 HSVersion_4 HQVersion_4 HSHeld_4 HQHeld_4
  go_wp2_with fail
  refine (growTxn_nilP g _ ((blk_cell HG_5.out 7).trans HNTxn.out)).mono ?_
  rintro e wz ⟨rfl, rfl⟩
  go_wp2_with fail
  refine (growHeld_any g Bo xHeld SAHeld scHeld _ ⟨cs, HG_5.out, HFHeld.out⟩ HSHeld_5.out HQHeld_5.out HDHeld.out (Nat.le_trans lo2 HK_5.out.size) (HT.out.next (HK_5.out.below lo2 HXl.out)) (by omega)).mono ?_
  rintro e w6 ⟨rfl, hk, yHeld, hylHeld, hys, hyq⟩
  have hxx : ∀ b, (InE xHeld b ∨ ∃ a, SAHeld = some a ∧ b = a.block) → ∃ c t, w5.heap[b]? = some (.cells c t (0, 0)) ∧ (t = 132 ∨ t = 204) := fun b hb => by
    rcases hb with ⟨e, he, a, ha, rfl⟩ | ⟨a, ea, rfl⟩
    · obtain ⟨c, hc⟩ := (HQHeld_5.out e he).2.2.ty ha; exact ⟨c, _, hc, Or.inl rfl⟩
    · obtain ⟨c, hc⟩ := HSHeld_5.out.ty ea; exact ⟨c, _, hc, Or.inr rfl⟩
  have HK_6 : Hid (Kept w w6 X) := Lib.hid (HK_5.out.trans (hk.mono fun b hb => hb.elim (HXiHeld.out b) (HXsHeld.out b)))
  have HG_6 : Hid (w6.heap[g]? = some (.cells cs 44 (0, 0))) := Lib.hid (hk.blk HG_5.out (blk_lt HG_5.out) (fun hx => by have h1 := HG_5.out; obtain ⟨c2, t2, h2, rfl | rfl⟩ := hxx _ hx <;> exact blk_ne2 h1 h2 (by decide) rfl))
  have HSEntry_6 := Lib.hid (HSEntry_5.out.kept hk (fun a ea hx => by obtain ⟨c1, h1⟩ := HSEntry_5.out.ty ea; obtain ⟨c2, t2, h2, rfl | rfl⟩ := hxx _ hx <;> exact blk_ne2 h1 h2 (by decide) rfl))
  have HQEntry_6 : Hid (∀ e ∈ yEntry, e.len ≤ 4398046511033 ∧ e.n ≤ 1152921504606846976 ∧ P1 mkEntry 2 116 w6 Bo e ∧ P2 mkEntry 2 116 w6 Bo e) := Lib.hid (fun e he => ⟨(HQEntry_5.out e he).1, (HQEntry_5.out e he).2.1, (HQEntry_5.out e he).2.2.1.kept hk (fun a ea hx => by obtain ⟨c1, h1⟩ := (HQEntry_5.out e he).2.2.1.ty ea; obtain ⟨c2, t2, h2, rfl | rfl⟩ := hxx _ hx <;> exact blk_ne2 h1 h2 (by decide) rfl), (HQEntry_5.out e he).2.2.2.1, (HQEntry_5.out e he).2.2.2.2.kept hk (fun a ea hx => by obtain ⟨c1, h1⟩ := (HQEntry_5.out e he).2.2.2.2.ty ea; obtain ⟨c2, t2, h2, rfl | rfl⟩ := hxx _ hx <;> exact blk_ne2 h1 h2 (by decide) rfl)⟩)
  have HSVersion_6 := Lib.hid (HSVersion_5.out.kept hk (fun a ea hx => by obtain ⟨c1, h1⟩ := HSVersion_5.out.ty ea; obtain ⟨c2, t2, h2, rfl | rfl⟩ := hxx _ hx <;> exact blk_ne2 h1 h2 (by decide) rfl))
  have HQVersion_6 : Hid (∀ e ∈ yVersion, e.len ≤ 4398046511033 ∧ e.n ≤ 1152921504606846976 ∧ P1 mkVersion 3 140 w6 Bo e ∧ P2 mkVersion 3 140 w6 Bo e) := Lib.hid (fun e he => ⟨(HQVersion_5.out e he).1, (HQVersion_5.out e he).2.1, (HQVersion_5.out e he).2.2.1.kept hk (fun a ea hx => by obtain ⟨c1, h1⟩ := (HQVersion_5.out e he).2.2.1.ty ea; obtain ⟨c2, t2, h2, rfl | rfl⟩ := hxx _ hx <;> exact blk_ne2 h1 h2 (by decide) rfl), (HQVersion_5.out e he).2.2.2.1, (HQVersion_5.out e he).2.2.2.2.kept hk (fun a ea hx => by obtain ⟨c1, h1⟩ := (HQVersion_5.out e he).2.2.2.2.ty ea; obtain ⟨c2, t2, h2, rfl | rfl⟩ := hxx _ hx <;> exact blk_ne2 h1 h2 (by decide) rfl)⟩)
  have HSHeld_6 : Hid (TkAt BkE.cells 3 204 w6 Bo SAHeld yHeld.length scHeld yHeld) := Lib.hid (by rw [hylHeld]; exact hys)
  have HQHeld_6 : Hid (∀ e ∈ yHeld, e.len ≤ 3518437208812 ∧ e.n ≤ 1152921504606846976 ∧ P1 mkHeld 2 132 w6 Bo e ∧ P2 mkHeld 2 132 w6 Bo e) := Lib.hid (fun e1 he1 => by
    obtain ⟨m, hm⟩ := List.getElem?_of_mem he1
    have hlt := (List.getElem?_eq_some_iff.1 hm).1
    have hxm : xHeld[m]? = some (xHeld[m]'(by omega)) := List.getElem?_eq_getElem _
    generalize xHeld[m]'(by omega) = ex at hxm
    obtain ⟨e2, he2, hgr⟩ := hyq m ex hxm
    rw [hm] at he2
    injection he2 with he2
    subst he2
    obtain ⟨g1, g2, -⟩ := HQHeld_5.out ex (List.mem_of_getElem? hxm)
    obtain ⟨a1, a2, a3, a4⟩ := hgr.same
    refine ⟨by omega, by omega, ?_, hgr.p2 rfl⟩
    have := hgr.p1
    unfold P1 at this ⊢
    rw [a1, a2, a3, a4]; exact this)
  have hylHeld_ : yHeld.length ≤ 2199023255552 := by omega
  have HFHeldy : Hid (cs[8]? = some (.slice SAHeld yHeld.length scHeld)) := Lib.hid (by rw [hylHeld]; exact HFHeld.out)
  clear hys hyq
  clear hk hxx HG_5 HK_5 HSEntry_5 HQEntry_5 HSVersion_5 HQVersion_5 HSHeld_5 HQHeld_5
  go_wp2_with fail
  refine (growHeldList_nilP g _ ((blk_cell HG_6.out 9).trans HNHeldList.out)).mono ?_
  rintro e wz ⟨rfl, rfl⟩
  go_wp2_with fail
  refine (growEvent_nilP g _ ((blk_cell HG_6.out 10).trans HNEvent.out)).mono ?_
  rintro e wz ⟨rfl, rfl⟩
  go_wp2_with fail
  refine (growAnswer_nilP g _ ((blk_cell HG_6.out 11).trans HNAnswer.out)).mono ?_
  rintro e wz ⟨rfl, rfl⟩
  go_wp2_with fail
  refine (lookByte_nilP g _ ((blk_cell HG_6.out 1).trans HNByte.out)).mono ?_
  rintro e wz ⟨rfl, rfl⟩
  go_wp2_with fail
  refine (lookInt_nilP g _ ((blk_cell HG_6.out 2).trans HNInt.out)).mono ?_
  rintro e wz ⟨rfl, rfl⟩
  go_wp2_with fail
  refine (lookText_nilP g _ ((blk_cell HG_6.out 3).trans HNText.out)).mono ?_
  rintro e wz ⟨rfl, rfl⟩
  go_wp2_with fail
  refine (lookWrite_nilP g _ ((blk_cell HG_6.out 4).trans HNWrite.out)).mono ?_
  rintro e wz ⟨rfl, rfl⟩
  go_wp2_with fail
  refine (lookEntry_any g Bo yEntry SAEntry scEntry _ ⟨cs, HG_6.out, HFEntryy.out⟩ HSEntry_6.out HQEntry_6.out (Nat.le_trans lo2 HK_6.out.size) (HT.out.next (HK_6.out.below lo2 HXl.out)) (by omega)).mono ?_
  rintro e w7 ⟨rfl, hb⟩
  have HG_7 := Lib.hid ((hb.block _ (blk_lt HG_6.out)).trans HG_6.out)
  have HK_7 := Lib.hid (HK_6.out.trans (Kept.of_below hb))
  have HSVersion_7 := Lib.hid (HSVersion_6.out.below hb)
  have HQVersion_7 : Hid (∀ e ∈ yVersion, e.len ≤ 4398046511033 ∧ e.n ≤ 1152921504606846976 ∧ P1 mkVersion 3 140 w7 Bo e ∧ P2 mkVersion 3 140 w7 Bo e) := Lib.hid (fun e he => ⟨(HQVersion_6.out e he).1, (HQVersion_6.out e he).2.1, (HQVersion_6.out e he).2.2.1.below hb, (HQVersion_6.out e he).2.2.2.1, (HQVersion_6.out e he).2.2.2.2.below hb⟩)
  have HSHeld_7 := Lib.hid (HSHeld_6.out.below hb)
  have HQHeld_7 : Hid (∀ e ∈ yHeld, e.len ≤ 3518437208812 ∧ e.n ≤ 1152921504606846976 ∧ P1 mkHeld 2 132 w7 Bo e ∧ P2 mkHeld 2 132 w7 Bo e) := Lib.hid (fun e he => ⟨(HQHeld_6.out e he).1, (HQHeld_6.out e he).2.1, (HQHeld_6.out e he).2.2.1.below hb, (HQHeld_6.out e he).2.2.2.1, (HQHeld_6.out e he).2.2.2.2.below hb⟩)
  clear hb HG_6 HK_6 HSVersion_6 HQVersion_6 HSHeld_6 HQHeld_6
  go_wp2_with fail
  refine (lookVersion_any g Bo yVersion SAVersion scVersion _ ⟨cs, HG_7.out, HFVersiony.out⟩ HSVersion_7.out HQVersion_7.out (Nat.le_trans lo2 HK_7.out.size) (HT.out.next (HK_7.out.below lo2 HXl.out)) (by omega)).mono ?_
  rintro e w8 ⟨rfl, hb⟩
  have HG_8 := Lib.hid ((hb.block _ (blk_lt HG_7.out)).trans HG_7.out)
  have HK_8 := Lib.hid (HK_7.out.trans (Kept.of_below hb))
  have HSHeld_8 := Lib.hid (HSHeld_7.out.below hb)
  have HQHeld_8 : Hid (∀ e ∈ yHeld, e.len ≤ 3518437208812 ∧ e.n ≤ 1152921504606846976 ∧ P1 mkHeld 2 132 w8 Bo e ∧ P2 mkHeld 2 132 w8 Bo e) := Lib.hid (fun e he => ⟨(HQHeld_7.out e he).1, (HQHeld_7.out e he).2.1, (HQHeld_7.out e he).2.2.1.below hb, (HQHeld_7.out e he).2.2.2.1, (HQHeld_7.out e he).2.2.2.2.below hb⟩)
  clear hb HG_7 HK_7 HSHeld_7 HQHeld_7
  go_wp2_with fail
  refine (lookTxn_nilP g _ ((blk_cell HG_8.out 7).trans HNTxn.out)).mono ?_
  rintro e wz ⟨rfl, rfl⟩
  go_wp2_with fail
  refine (lookHeld_any g Bo yHeld SAHeld scHeld _ ⟨cs, HG_8.out, HFHeldy.out⟩ HSHeld_8.out HQHeld_8.out (Nat.le_trans lo2 HK_8.out.size) (HT.out.next (HK_8.out.below lo2 HXl.out)) (by omega)).mono ?_
  rintro e w9 ⟨rfl, hb⟩
  have HG_9 := Lib.hid ((hb.block _ (blk_lt HG_8.out)).trans HG_8.out)
  have HK_9 := Lib.hid (HK_8.out.trans (Kept.of_below hb))
  clear hb HG_8 HK_8
  go_wp2_with fail
  refine (lookHeldList_nilP g _ ((blk_cell HG_9.out 9).trans HNHeldList.out)).mono ?_
  rintro e wz ⟨rfl, rfl⟩
  go_wp2_with fail
  refine (lookEvent_nilP g _ ((blk_cell HG_9.out 10).trans HNEvent.out)).mono ?_
  rintro e wz ⟨rfl, rfl⟩
  go_wp2_with fail
  refine (lookAnswer_nilP g _ ((blk_cell HG_9.out 11).trans HNAnswer.out)).mono ?_
  rintro e wz ⟨rfl, rfl⟩
  go_wp2_with fail
  go_ret
  exact ⟨rfl, HK_9.out.mono HXe.out, (HK_9.out.below lo2 HXl.out)⟩
end Go.Proofs.YtafghiekpgjniaaGreatDoor

/- Lemmas and contracts of functions that a statement of this seat stands on; each holds under the premises typed in its head. -/
import Derived.Test.YtgkhgbeiploefaaDoorStat7
import Derived.Deep.CutRange
import Derived.Deep.DeepCutAuto
import Derived.Deep.RegionHeld3
namespace Go.Proofs.YtgkhgbeiploefaaDoor
open Go.RowKit
set_option linter.unusedVariables false
set_option linter.unusedSimpArgs false

def stOf (es : List Ev) (n : Nat) : Sts := (evRun es (sts0 es.length, List.replicate n false)).1
theorem stOf_bd (es : List Ev) (n : Nat) : (stOf es n).steps = es.length ∧ 0 ≤ (stOf es n).installs ∧ (stOf es n).installs ≤ es.length ∧ 0 ≤ (stOf es n).reads ∧ (stOf es n).reads ≤ es.length := by
  have h1 := evRun_ok (n := n) (p := (sts0 es.length, List.replicate n false)) ⟨Int.le_refl _, Int.le_refl _, Int.le_refl _, Int.le_refl _, Int.le_refl _, by show (0 : Int) ≤ _; omega, Int.le_refl _, by show (0 : Int) ≤ _; omega, by simp⟩ es
  obtain ⟨a, b, c, d, -⟩ := h1
  exact ⟨(evRun_parts es (sts0 es.length, List.replicate n false) (Int.le_refl _)).1, a, b, c, d⟩
theorem of_any (c : Cfg) (n : Nat) (hok : c.ok = true) (hn : c.lanes = n) (hn16 : n ≤ 16) (A : Option Addr) (len cap : Nat) (es : List Ev) (w : World) (he : EsAt w w.heap.size A len es) (hlen : len ≤ 4398046511104) :
    Calls Tryd.prog 5 #[c.v, .slice A len cap] w fun e w' => e = .returned (.tuple #[(stOf es n).v, .int .i64 0]) ∧ Below w.heap.size w w' := by
  have := of_good c n hok hn hn16 A len cap es w he hlen
  rw [show ((len : Nat) : Int) = (es.length : Int) from by rw [he.len]] at this
  exact this
theorem lanes_nat {c : Cfg} (h : c.ok = true) : ∃ n : Nat, c.lanes = n ∧ n ≤ 16 := by
  simp only [Cfg.ok, inB, Bool.and_eq_true, decide_eq_true_eq] at h
  exact ⟨c.lanes.toNat, by omega, by omega⟩
/-- The three answers, when there are any. -/
def Adds (a b s : Sts) : Prop := (a.steps + b.steps = s.steps ∧ a.installs + b.installs = s.installs ∧ a.reads + b.reads = s.reads ∧ max a.lag b.lag = s.lag ∧ a.busy ≤ s.busy) ∧
  (0 ≤ a.steps ∧ a.steps ≤ 4611686018427387904 ∧ 0 ≤ b.steps ∧ b.steps ≤ 2305843009213693952) ∧ (0 ≤ a.installs ∧ a.installs ≤ 2305843009213693952 ∧ 0 ≤ b.installs ∧ b.installs ≤ 2305843009213693952) ∧ (0 ≤ a.reads ∧ a.reads ≤ 2305843009213693952 ∧ 0 ≤ b.reads ∧ b.reads ≤ 2305843009213693952)
theorem adds_of (es : List Ev) (k n : Nat) (hk : k ≤ es.length) (hl : es.length ≤ 4398046511104) : Adds (stOf (es.take k) n) (stOf (es.drop k) n) (stOf es n) := by
  have hbda := stOf_bd (es.take k) n
  have hbdb := stOf_bd (es.drop k) n
  rw [List.length_take, Nat.min_eq_left hk] at hbda
  rw [List.length_drop] at hbdb
  have hadd := stat_adds es k n hk
  have e1 : stOf (es.take k) n = (evRun (es.take k) (sts0 k, List.replicate n false)).1 := by unfold stOf; rw [List.length_take, Nat.min_eq_left hk]
  have e2 : stOf (es.drop k) n = (evRun (es.drop k) (sts0 ((es.length - k : Nat) : Int), List.replicate n false)).1 := by unfold stOf; rw [List.length_drop]
  simp only [] at hadd
  rw [← e1, ← e2, show (evRun es (sts0 es.length, List.replicate n false)).1 = stOf es n from rfl] at hadd
  exact ⟨hadd, by omega, by omega, by omega⟩
end Go.Proofs.YtgkhgbeiploefaaDoor

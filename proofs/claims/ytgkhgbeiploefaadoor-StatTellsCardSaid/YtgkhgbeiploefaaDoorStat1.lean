/- Lemmas and contracts of functions that a statement of this seat stands on; each holds under the premises typed in its head. -/
import Derived.Test.YtgkhgbeiploefaaDoorCore
import Derived.Test.YtgkhgbeiploefaaDoorConf
import Derived.Deep.RegionHeld3
namespace Go.Proofs.YtgkhgbeiploefaaDoor
open Go.RowKit
set_option linter.unusedVariables false
set_option linter.unusedSimpArgs false

/-- An event. -/
structure Ev where
  task : Int
  kind : Int
  number : Int
  shard : Int
  count : Int
  mark : Int
def Ev.cells (e : Ev) : List Value := [.int .i64 e.task, .int .u8 e.kind, .int .i64 e.number, .int .i64 e.shard, .int .i64 e.count, .int .i64 e.mark]
def Ev.v (e : Ev) : Value := .agg #[.int .i64 e.task, .int .u8 e.kind, .int .i64 e.number, .int .i64 e.shard, .int .i64 e.count, .int .i64 e.mark]
/-- What is told of events. -/
structure Sts where
  steps : Int
  installs : Int
  lag : Int
  busy : Int
  reads : Int
def Sts.cells (s : Sts) : List Value := [.int .i64 s.steps, .int .i64 s.installs, .int .i64 s.lag, .int .i64 s.busy, .int .i64 s.reads]
def Sts.v (s : Sts) : Value := .agg #[.int .i64 s.steps, .int .i64 s.installs, .int .i64 s.lag, .int .i64 s.busy, .int .i64 s.reads]
def StsAt (w : World) (g : Nat) (s : Sts) : Prop := w.heap[g]? = some (.cells #[.int .i64 s.steps, .int .i64 s.installs, .int .i64 s.lag, .int .i64 s.busy, .int .i64 s.reads] 27 (0, 0))

theorem rows_any (w : World) : Calls Tryd.prog 15 #[] w fun e w' => e = .returned (.slice (some ⟨w.heap.size, 0, none⟩) 3 3) ∧ w.alloc (.cells #[.int .u8 7, .func (.func 53) #[] #[], .int .u8 3, .func (.func 54) #[] #[], .int .u8 12, .func (.func 55) #[] #[]] 61) = w' := by
  go_enter Tryd.func15, Tryd.ntmps15
  go_wp2
  go_ret
  exact ⟨rfl, rfl⟩

def mayB (n m : Int) : Bool := decide (0 ≤ n) && decide (0 ≤ m) && decide (n ≤ 65536) && decide (m ≤ 65536)
def does1 (s : Sts) (e : Ev) : Sts := if 0 < e.number then { s with installs := s.installs + 1 } else s
def does2 (s : Sts) (e : Ev) : Sts := if mayB e.number e.mark then { s with lag := max s.lag (e.number - e.mark) } else s
def does3 (s : Sts) (_ : Ev) : Sts := { s with reads := s.reads + 1 }

set_option maxHeartbeats 400000 in
theorem does1_any (g : Nat) (s : Sts) (e : Ev) (w : World) (hs : StsAt w g s) (hb : 0 ≤ s.installs ∧ s.installs ≤ 4611686018427387904) :
    Calls Tryd.prog 53 #[.pointer (some ⟨g, 0, none⟩), e.v] w fun en w' => en = .returned (.tuple #[]) ∧ StsAt w' g (does1 s e) ∧ w.grownBy w' (some g) := by
  have hgl := blk_lt hs
  have g1 := blk_cell hs 1
  have f1 := blk_frozen hs 1
  have Hs := Lib.hid hs
  have b0 := hb.1
  have b1 := hb.2
  simp only [List.getElem?_toArray, List.getElem?_cons_succ, List.getElem?_cons_zero] at g1
  have hal : ∀ o, (w.alloc o).heap[g]? = _ := fun o => (Below.heap_alloc _ _ _ hgl).trans hs
  have hst := blk_set_alloc hs
  have Hst := Lib.hid hst
  have Hal := Lib.hid hal
  clear hs hb hal hst
  by_cases hn : 0 < e.number
  · have Hd : Hid (does1 s e = { s with installs := s.installs + 1 }) := by show does1 s e = _; simp [does1, hn]
    unfold Ev.v
    go_enter Tryd.func53, Tryd.ntmps53
    go_wp2_with fail
    go_end0
    refine ⟨rfl, ?_, only_alloc (only_setCell (World.grownBy.refl _ _) (Or.inl rfl) _) _⟩
    rw [Hd.out]; unfold StsAt
    simpa using Hst.out 1 (.int .i64 (s.installs + 1)) _
  · have Hd : Hid (does1 s e = s) := by show does1 s e = _; simp [does1, hn]
    unfold Ev.v
    go_enter Tryd.func53, Tryd.ntmps53
    go_wp2_with fail
    go_end0
    refine ⟨rfl, ?_, World.grownBy_alloc _ _ _⟩
    rw [Hd.out]; exact Hal.out _

set_option maxHeartbeats 400000 in
theorem does3_any (g : Nat) (s : Sts) (e : Ev) (w : World) (hs : StsAt w g s) (hb : 0 ≤ s.reads ∧ s.reads ≤ 4611686018427387904) :
    Calls Tryd.prog 55 #[.pointer (some ⟨g, 0, none⟩), e.v] w fun en w' => en = .returned (.tuple #[]) ∧ StsAt w' g (does3 s e) ∧ w.grownBy w' (some g) := by
  have hgl := blk_lt hs
  have g1 := blk_cell hs 4
  have f1 := blk_frozen hs 4
  have b0 := hb.1
  have b1 := hb.2
  simp only [List.getElem?_toArray, List.getElem?_cons_succ, List.getElem?_cons_zero] at g1
  have hal : ∀ o, (w.alloc o).heap[g]? = _ := fun o => (Below.heap_alloc _ _ _ hgl).trans hs
  have hst := blk_set_alloc hs
  have Hst := Lib.hid hst
  have Hal := Lib.hid hal
  clear hs hb hal hst
  unfold Ev.v
  go_enter Tryd.func55, Tryd.ntmps55
  go_wp2_with fail
  go_end0
  refine ⟨rfl, ?_, only_alloc (only_setCell (World.grownBy.refl _ _) (Or.inl rfl) _) _⟩
  unfold StsAt does3
  simpa using Hst.out 4 (.int .i64 (s.reads + 1)) _

set_option maxHeartbeats 1000000 in
theorem does2_any (g : Nat) (s : Sts) (e : Ev) (w : World) (hs : StsAt w g s) (hb : 0 ≤ s.lag ∧ s.lag ≤ 65536) :
    Calls Tryd.prog 54 #[.pointer (some ⟨g, 0, none⟩), e.v] w fun en w' => en = .returned (.tuple #[]) ∧ StsAt w' g (does2 s e) ∧ w.grownBy w' (some g) := by
  have hgl := blk_lt hs
  have g1 := blk_cell hs 2
  have f1 := blk_frozen hs 2
  have b0 := hb.1
  have b1 := hb.2
  simp only [List.getElem?_toArray, List.getElem?_cons_succ, List.getElem?_cons_zero] at g1
  have hal : ∀ o, (w.alloc o).heap[g]? = _ := fun o => (Below.heap_alloc _ _ _ hgl).trans hs
  have hst := blk_set_alloc hs
  have Hst := Lib.hid hst
  have Hal := Lib.hid hal
  clear hs hb hal hst
  by_cases hm : 0 ≤ e.number ∧ 0 ≤ e.mark ∧ e.number ≤ 65536 ∧ e.mark ≤ 65536
  · obtain ⟨m0, m1, m2, m3⟩ := hm
    have hmay : mayB e.number e.mark = true := by simp [mayB, m0, m1, m2, m3]
    have Hmay := Lib.hid hmay
    clear hmay
    have fin : ∀ x : Int, x = max s.lag (e.number - e.mark) → ∀ w', w'.heap[g]? = some (.cells #[.int .i64 s.steps, .int .i64 s.installs, .int .i64 x, .int .i64 s.busy, .int .i64 s.reads] 27 (0, 0)) → StsAt w' g (does2 s e) := by
      intro x hx w' h
      have : does2 s e = { s with lag := x } := by simp [does2, Hmay.out, hx]
      rw [this]; exact h
    have Fin := Lib.hid fin
    clear fin
    by_cases hc : e.mark < e.number <;> by_cases hg : s.lag ≤ e.number - e.mark
    all_goals
      unfold Ev.v
      go_enter Tryd.func54, Tryd.ntmps54
      go_wp2_with fail
    all_goals go_region
    all_goals go_wp2_with fail
    all_goals go_end0
    all_goals refine ⟨rfl, Fin.out _ ?_ _ ((Hst.out 2 _ _).trans (by simp; rfl)), ?_⟩
    all_goals first
      | rfl
      | (rw [Int.max_def]; split <;> omega)
      | exact only_alloc (only_setCell (World.grownBy.refl _ _) (Or.inl rfl) _) _
      | exact only_drewN (only_alloc (only_setCell (World.grownBy.refl _ _) (Or.inl rfl) _) _) 1
  · have hmay : mayB e.number e.mark = false := by simp only [mayB]; grind
    have Hd : Hid (does2 s e = s) := by show does2 s e = _; simp [does2, hmay]
    clear hmay
    unfold Ev.v
    go_enter Tryd.func54, Tryd.ntmps54
    go_wp2_with fail
    all_goals first
      | (exfalso; exact hm ⟨by omega, by omega, by omega, by omega⟩)
      | (go_end0
         refine ⟨rfl, ?_, World.grownBy_alloc _ _ _⟩
         rw [Hd.out]; exact Hal.out _)
end Go.Proofs.YtgkhgbeiploefaaDoor

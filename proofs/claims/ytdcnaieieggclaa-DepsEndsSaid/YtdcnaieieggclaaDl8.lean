/- DepsChains, DepsEnds: plain words. -/
import Derived.Test.YtdcnaieieggclaaMF
namespace Go.Proofs.Ytdcnaieieggclaa
open Go.RowKit
set_option linter.unusedVariables false
set_option linter.unusedSimpArgs false

open Go.Maps Go.Sort
/-- Is n chained to an open one ahead of it, below i? -/
def chB (rs : List RTx) (E : Nat → Bool) (n i : Nat) : Bool := (List.range i).any fun j => decide (1 ≤ j) && !E j && CB rs (j - 1) (n - 1)
theorem chB_one (rs : List RTx) (E : Nat → Bool) (n : Nat) : chB rs E n 1 = false := by simp [chB, List.range_succ]
theorem chB_succ (rs : List RTx) (E : Nat → Bool) (n i : Nat) (hi : 1 ≤ i) : chB rs E n (i + 1) = (chB rs E n i || (!E i && CB rs (i - 1) (n - 1))) := by
  unfold chB; rw [List.range_succ, List.any_append]; simp [hi]
theorem chB_iff {rs : List RTx} {E : Nat → Bool} {n i : Nat} : chB rs E n i = true ↔ ∃ j, j < i ∧ 1 ≤ j ∧ E j = false ∧ CB rs (j - 1) (n - 1) = true := by
  unfold chB; rw [List.any_eq_true]
  constructor
  · rintro ⟨j, hj, h⟩
    simp only [Bool.and_eq_true, decide_eq_true_eq, Bool.not_eq_true'] at h
    exact ⟨j, List.mem_range.1 hj, h.1.1, h.1.2, h.2⟩
  · rintro ⟨j, hj, h1, h2, h3⟩
    exact ⟨j, List.mem_range.2 hj, by simp [h1, h2, h3]⟩
theorem chB_mono {rs : List RTx} {E : Nat → Bool} {n i k : Nat} (h : chB rs E n i = true) (hik : i ≤ k) : chB rs E n k = true := by
  obtain ⟨j, hj, h2⟩ := chB_iff.1 h
  exact chB_iff.2 ⟨j, by omega, h2⟩
theorem chB_dep {rs : List RTx} {m n : Nat} {E : Nat → Bool} (hc : Closed rs m E) (hn : n ≤ m) : chB rs E n n = decide (0 < (depL rs E n).length) := by
  rw [Bool.eq_iff_iff, chB_iff, decide_eq_true_eq]
  constructor
  · rintro ⟨j, hj, h1, h2, h3⟩
    obtain ⟨b, hb, ho⟩ := chain_open hc h1 h2 n n (Nat.le_refl _) hn hj h3
    exact List.length_pos_of_mem (mem_depL.2 ⟨hb, ho⟩)
  · intro h
    obtain ⟨b, hb⟩ := List.exists_mem_of_length_pos h
    obtain ⟨hd, ho⟩ := mem_depL.1 hb
    have hlt := dep_lt hd
    exact ⟨b, hlt.2, hlt.1, ho, open_chain hd⟩
/-- Those below n that are open and wait for none, rising. -/
def freeB (rs : List RTx) (E : Nat → Bool) (a : Nat) : Bool := decide (1 ≤ a) && !E a && decide (depL rs E a = [])
def freeL (rs : List RTx) (E : Nat → Bool) (n : Nat) : List Nat := (List.range n).filter (freeB rs E)
theorem freeL_one (rs : List RTx) (E : Nat → Bool) : freeL rs E 1 = [] := by simp [freeL, List.range_succ, freeB]
theorem freeL_succ (rs : List RTx) (E : Nat → Bool) (n : Nat) : freeL rs E (n + 1) = freeL rs E n ++ if freeB rs E n = true then [n] else [] := by
  unfold freeL; rw [List.range_succ, List.filter_append, List.filter_cons]; split <;> rfl
theorem mem_freeL {rs : List RTx} {E : Nat → Bool} {n a : Nat} : a ∈ freeL rs E n ↔ a < n ∧ 1 ≤ a ∧ E a = false ∧ depL rs E a = [] := by
  unfold freeL freeB
  simp only [List.mem_filter, List.mem_range, Bool.and_eq_true, decide_eq_true_eq, Bool.not_eq_true']
  exact ⟨fun h => ⟨h.1, h.2.1.1, h.2.1.2, h.2.2⟩, fun h => ⟨h.1, ⟨h.2.1, h.2.2.1⟩, h.2.2.2⟩⟩
theorem freeL_le (rs : List RTx) (E : Nat → Bool) (n : Nat) : (freeL rs E n).length ≤ n := by
  unfold freeL; exact Nat.le_trans (List.length_filter_le _ _) (by simp)
theorem free_some {rs : List RTx} {m : Nat} {E : Nat → Bool} (h : 0 < (openL m E).length) : 0 < (freeL rs E (m + 1)).length := by
  cases ho : openL m E with
  | nil => rw [ho] at h; simp at h
  | cons n l =>
    obtain ⟨h1, h2, h3, h4⟩ := head_free (rs := rs) ho
    exact List.length_pos_of_mem (mem_freeL.2 ⟨by omega, h1, h3, h4⟩)
theorem openL_E1 (m : Nat) (E : Nat → Bool) (n : Nat) : openL m (E1 E n) = (openL m E).filter fun b => decide (b ≠ n) := by
  unfold openL
  rw [List.filter_filter]
  refine List.filter_congr fun b _ => ?_
  unfold E1
  by_cases h : b = n <;> cases decide (1 ≤ b) <;> cases E b <;> simp [h]
theorem openL_done {m n : Nat} {E : Nat → Bool} (h1 : 1 ≤ n) (h2 : n ≤ m) (h : E n = false) : (openL m (E1 E n)).length + 1 = (openL m E).length := by
  have hm : n ∈ openL m E := mem_openL.2 ⟨h1, h2, h⟩
  rw [openL_E1, filter_ne_len ((openL_rises m E).imp fun h => by omega), if_pos hm]
  have := List.length_pos_of_mem hm; omega
theorem openL_all (m : Nat) {E : Nat → Bool} (h : ∀ j, E j = false) : (openL m E).length = m := by
  induction m with
  | zero => simp [openL, List.range_succ]
  | succ m ih =>
    unfold openL at *
    rw [List.range_succ, List.filter_append, List.length_append, ih]
    simp [h]
theorem Tabs.closed {rs : List RTx} {m : Nat} {E : Nat → Bool} {t : TB} {w : World} (h : Tabs rs m E t w) : Closed rs m E := by
  obtain ⟨d, -, h2⟩ := h; exact h2.closed
theorem Tabs.set {rs : List RTx} {m : Nat} {E : Nat → Bool} {t : TB} {w : World} (h : Tabs rs m E t w) {g i : Nat} (hg : ∀ j, t.has j → j ≠ g) (u : Value) : Tabs rs m E t (w.setCell ⟨g, i, none⟩ u) := by
  obtain ⟨d, h1, h2⟩ := h
  exact ⟨d, h1.of_blocks fun k hk => Below.heap_setCell _ _ _ _ (hg k hk), h2⟩
/-- A row of Bools that says which have ended. -/
def EndAt (w : World) (g n : Nat) (F : Nat → Bool) : Prop := ∃ C : Array Value, w.heap[g]? = some (.cells C 4 (0, 0)) ∧ C.size = n + 1 ∧ ∀ j, j ≤ n → C[j]? = some (.bool (F j))
theorem EndAt.lt {w : World} {g n : Nat} {F : Nat → Bool} (h : EndAt w g n F) : g < w.heap.size := by
  obtain ⟨C, h1, -⟩ := h; exact blk_lt h1
theorem EndAt.of_block {w w' : World} {g n : Nat} {F : Nat → Bool} (h : EndAt w g n F) (hb : w'.heap[g]? = w.heap[g]?) : EndAt w' g n F := by
  obtain ⟨C, h1, h2⟩ := h; exact ⟨C, hb.trans h1, h2⟩
theorem EndAt.cell {w : World} {g n : Nat} {F : Nat → Bool} (h : EndAt w g n F) {j : Nat} (hj : j ≤ n) : w.cell? ⟨g, j, none⟩ = some (.bool (F j)) ∧ w.frozen? ⟨g, j, none⟩ = false := by
  obtain ⟨C, h1, -, h3⟩ := h
  exact ⟨(blk_cell h1 j).trans (h3 j hj), blk_frozen h1 j⟩
theorem EndAt.set {w : World} {g n : Nat} {F G : Nat → Bool} (h : EndAt w g n F) {j : Nat} (hj : j ≤ n) {v : Bool} (hv : G j = v) (hG : ∀ i, i ≠ j → G i = F i) : EndAt (w.setCell ⟨g, j, none⟩ (.bool v)) g n G := by
  obtain ⟨C, h1, h2, h3⟩ := h
  refine ⟨_, blk_set h1 j _, by simpa using h2, fun i hi => ?_⟩
  rw [Array.getElem?_setIfInBounds]
  by_cases hij : j = i
  · subst hij; rw [if_pos rfl, if_pos (by omega), hv]
  · rw [if_neg hij, h3 i hi, hG i (fun e => hij e.symm)]
theorem EndAt.made {w : World} {g n : Nat} (h : w.ownsRow g 4 1 (.slice (some ⟨g, 0, none⟩) (n + 1) (n + 1)) (n + 1) (madeCells (Value.bool false).cells ((n + 1) * 1)).toList) : EndAt w g n (fun _ => false) := by
  have hb := blk_of_own h
  refine ⟨_, hb, by have := h.1; simpa using this, fun j hj => ?_⟩
  simp [madeCells, Value.cells]
  exact ⟨j, by rw [List.getElem?_range (by omega)], by simp [Nat.mod_one]⟩
theorem logErr_all {rs : List RTx} (h : ∀ (i : Nat) (r : RTx), i < rs.length → rs[i]? = some r → txB r.number r.ws = true ∧ r.number = (i : Int) + 1) : logErr rs 1 = 0 :=
  logErr_of fun k r hr => by
    obtain ⟨h1, h2⟩ := h k r (List.getElem?_eq_some_iff.1 hr).1 hr
    exact ⟨h1, by rw [h2]; omega⟩
end Go.Proofs.Ytdcnaieieggclaa

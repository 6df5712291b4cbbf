/- Lemmas and contracts of functions that a statement of this seat stands on; each holds under the premises typed in its head. -/
import Derived.Test.YtgkhgbeiploefaaDoorStat6
namespace Go.Proofs.YtgkhgbeiploefaaDoor
open Go.RowKit
set_option linter.unusedVariables false
set_option linter.unusedSimpArgs false

/-! The plain law of what adds up. -/
def inst1 (e : Ev) : Int := if e.kind = 7 ∧ 0 < e.number then 1 else 0
def read1 (e : Ev) : Int := if e.kind = 12 then 1 else 0
def lag1 (e : Ev) : Int := if e.kind = 3 ∧ mayB e.number e.mark = true then e.number - e.mark else 0
def instN (l : List Ev) : Int := (l.map inst1).sum
def readN (l : List Ev) : Int := (l.map read1).sum
def lagN (l : List Ev) : Int := l.foldr (fun e n => max (lag1 e) n) 0
theorem kindN_parts (s : Sts) (e : Ev) (h : 0 ≤ s.lag) : (kindN s e).steps = s.steps ∧ (kindN s e).installs = s.installs + inst1 e ∧ (kindN s e).reads = s.reads + read1 e ∧ (kindN s e).lag = max s.lag (lag1 e) ∧ (kindN s e).busy = s.busy := by
  unfold kindN does1 does2 does3 inst1 read1 lag1
  by_cases h7 : e.kind = 7
  · by_cases hn : 0 < e.number <;> simp [h7, hn] <;> omega
  · by_cases h3 : e.kind = 3
    · by_cases hm : mayB e.number e.mark = true
      · simp [h3, hm]
      · simp [h3, hm]; omega
    · by_cases h12 : e.kind = 12
      · simp [h12]; omega
      · simp [h7, h3, h12]; omega
theorem lagN_pos (l : List Ev) : 0 ≤ lagN l := by
  induction l with
  | nil => simp [lagN]
  | cons e r ih => simp only [lagN, List.foldr_cons] at *; omega
theorem evRun_parts : ∀ (l : List Ev) (p : Sts × List Bool), 0 ≤ p.1.lag → (evRun l p).1.steps = p.1.steps ∧ (evRun l p).1.installs = p.1.installs + instN l ∧ (evRun l p).1.reads = p.1.reads + readN l ∧ (evRun l p).1.lag = max p.1.lag (lagN l) ∧ p.1.busy ≤ (evRun l p).1.busy := by
  intro l
  induction l with
  | nil => intro p h; refine ⟨rfl, by simp [evRun, instN], by simp [evRun, readN], by simp only [evRun, List.foldl_nil, lagN, List.foldr_nil]; omega, Int.le_refl _⟩
  | cons e r ih =>
    intro p h
    obtain ⟨a, b, c, d, f⟩ := kindN_parts p.1 e h
    have hl : 0 ≤ (evStep p e).1.lag := by simp only [evStep]; omega
    obtain ⟨a', b', c', d', f'⟩ := ih (evStep p e) hl
    simp only [evStep] at a' b' c' d' f'
    have he : evRun (e :: r) p = evRun r (evStep p e) := rfl
    rw [he]
    simp only [evStep]
    refine ⟨by omega, ?_, ?_, ?_, by omega⟩
    · rw [b', b]; simp only [instN, List.map_cons, List.sum_cons]; omega
    · rw [c', c]; simp only [readN, List.map_cons, List.sum_cons]; omega
    · rw [d', d]; simp only [lagN, List.foldr_cons]; omega
theorem evRun_append (a b : List Ev) (p : Sts × List Bool) : evRun (a ++ b) p = evRun b (evRun a p) := by simp [evRun, List.foldl_append]
theorem evRun_busy : ∀ (l : List Ev) (p q : Sts × List Bool), p.2 = q.2 → p.1.busy = q.1.busy → 0 ≤ p.1.lag → 0 ≤ q.1.lag → (evRun l p).1.busy = (evRun l q).1.busy := by
  intro l
  induction l with
  | nil => intro p q _ h _ _; exact h
  | cons e r ih =>
    intro p q h2 h1 hp hq
    obtain ⟨a, b, c, d, f⟩ := kindN_parts p.1 e hp
    obtain ⟨a', b', c', d', f'⟩ := kindN_parts q.1 e hq
    refine ih (evStep p e) (evStep q e) (by simp [evStep, h2]) (by simp only [evStep]; rw [f, f', h1, h2]) (by simp only [evStep]; omega) (by simp only [evStep]; omega)
/-- What is told of the first ones, of the others, and of all. -/
theorem stat_adds (l : List Ev) (k n : Nat) (hk : k ≤ l.length) :
    let z := List.replicate n false
    let a := (evRun (l.take k) (sts0 k, z)).1
    let b := (evRun (l.drop k) (sts0 ((l.length - k : Nat) : Int), z)).1
    let s := (evRun l (sts0 l.length, z)).1
    a.steps + b.steps = s.steps ∧ a.installs + b.installs = s.installs ∧ a.reads + b.reads = s.reads ∧ max a.lag b.lag = s.lag ∧ a.busy ≤ s.busy := by
  intro z a b s
  obtain ⟨a1, a2, a3, a4, a5⟩ := evRun_parts (l.take k) (sts0 k, z) (Int.le_refl _)
  obtain ⟨b1, b2, b3, b4, b5⟩ := evRun_parts (l.drop k) (sts0 ((l.length - k : Nat) : Int), z) (Int.le_refl _)
  obtain ⟨c1, c2, c3, c4, c5⟩ := evRun_parts (l.take k) (sts0 l.length, z) (Int.le_refl _)
  have hs : s = (evRun (l.drop k) (evRun (l.take k) (sts0 l.length, z))).1 := by
    rw [← evRun_append, List.take_append_drop]
  have hlag : 0 ≤ (evRun (l.take k) (sts0 l.length, z)).1.lag := by rw [c4]; exact Int.le_trans (Int.le_refl 0) (Int.le_max_left _ _)
  obtain ⟨d1, d2, d3, d4, d5⟩ := evRun_parts (l.drop k) (evRun (l.take k) (sts0 l.length, z)) hlag
  rw [← hs] at d1 d2 d3 d4 d5
  have hbz := evRun_busy (l.take k) (sts0 k, z) (sts0 l.length, z) rfl rfl (Int.le_refl _) (Int.le_refl _)
  have p1 := lagN_pos (l.take k)
  have p2 := lagN_pos (l.drop k)
  refine ⟨?_, ?_, ?_, ?_, ?_⟩
  · show (evRun (l.take k) (sts0 k, z)).1.steps + (evRun (l.drop k) (sts0 ((l.length - k : Nat) : Int), z)).1.steps = s.steps
    rw [a1, b1, d1, c1]; simp only [sts0]; omega
  · show (evRun (l.take k) (sts0 k, z)).1.installs + (evRun (l.drop k) (sts0 ((l.length - k : Nat) : Int), z)).1.installs = s.installs
    rw [a2, b2, d2, c2]; simp only [sts0]; omega
  · show (evRun (l.take k) (sts0 k, z)).1.reads + (evRun (l.drop k) (sts0 ((l.length - k : Nat) : Int), z)).1.reads = s.reads
    rw [a3, b3, d3, c3]; simp only [sts0]; omega
  · show max (evRun (l.take k) (sts0 k, z)).1.lag (evRun (l.drop k) (sts0 ((l.length - k : Nat) : Int), z)).1.lag = s.lag
    rw [a4, b4, d4, c4]; simp only [sts0]; omega
  · show (evRun (l.take k) (sts0 k, z)).1.busy ≤ s.busy
    rw [hbz]; exact d5

/-- The chapter's row. -/
def liveEs : List Ev := [⟨0, 3, 3, 0, 0, 1⟩, ⟨1, 4, 0, 0, 0, 0⟩, ⟨2, 4, 0, 0, 0, 0⟩, ⟨0, 7, 3, 0, 0, 0⟩, ⟨0, 7, -1, 0, 0, 0⟩, ⟨1, 6, 0, 0, 0, 0⟩, ⟨0, 12, -1, 0, 0, 0⟩]
theorem live_run : evRun liveEs (sts0 7, List.replicate 2 false) = (⟨7, 1, 2, 2, 1⟩, [false, true]) := by kernel_rfl
theorem live_lane : (laneRun liveEs (lane0 2)).1 = [4, 5] := by kernel_rfl
theorem stlives_any (w : World) : Calls Tryd.prog 13 #[] w fun e w' => e = .returned (.bool true) ∧ Below w.heap.size w w' := by
  obtain ⟨W2, hW2⟩ : ∃ W2 : World, W2 = (w.alloc (.cells #[.int .i64 2, .int .i64 1, .int .i64 4, .int .i64 1] 23)).alloc (.cells (liveEs.flatMap Ev.cells).toArray 54) := ⟨_, rfl⟩
  have hb2 : Below w.heap.size w W2 := by rw [hW2]; exact ((Below.refl _ _).alloc (Nat.le_refl _) _).alloc (by simp) _
  have hz2 : W2.heap.size = w.heap.size + 2 := by rw [hW2]; simp
  have hblk : W2.heap[w.heap.size + 1]? = some (.cells (liveEs.flatMap Ev.cells).toArray 54 (0, 0)) := by rw [hW2]; exact blk_new2 _ _ _
  have hc : ∀ i, W2.cell? ⟨w.heap.size, i, none⟩ = (#[.int .i64 2, .int .i64 1, .int .i64 4, .int .i64 1] : Array Value)[i]? := fun i => by
    have : W2.heap[w.heap.size]? = some (.cells #[.int .i64 2, .int .i64 1, .int .i64 4, .int .i64 1] 23 (0, 0)) := by rw [hW2]; exact (Below.heap_alloc _ _ _ (by simp)).trans (blk_new _ _)
    exact blk_cell this i
  have hes : EsAt W2 W2.heap.size (some ⟨w.heap.size + 1, 0, none⟩) 7 liveEs := rowAt_block liveEs (fun x _ => rfl) hblk (by omega) (fun j u hu => by simpa using hu)
  have HW2 := Lib.hid hW2
  have hq1 : ∀ W, EsAt W W.heap.size (some ⟨w.heap.size + 1, 0, none⟩) 7 liveEs → Calls Tryd.prog 5 #[(Cfg.mk 2 1 4 1).v, .slice (some ⟨w.heap.size + 1, 0, none⟩) 7 7] W fun e w' => e = .returned (.tuple #[.agg #[.int .i64 7, .int .i64 1, .int .i64 2, .int .i64 2, .int .i64 1], .int .i64 0]) ∧ Below W.heap.size W w' := fun W h => by
    have := of_good ⟨2, 1, 4, 1⟩ 2 (by decide) rfl (by decide) _ 7 7 liveEs W h (by decide)
    rw [show ((7 : Nat) : Int) = 7 from rfl, live_run] at this
    exact this
  have hq2 : ∀ W, EsAt W W.heap.size (some ⟨w.heap.size + 1, 0, none⟩) 7 liveEs → Calls Tryd.prog 6 #[(Cfg.mk 2 1 4 1).v, .slice (some ⟨w.heap.size + 1, 0, none⟩) 7 7] W fun e w' => ∃ g, W.heap.size < g ∧ g < w'.heap.size ∧ e = .returned (.tuple #[.slice (some ⟨g, 0, none⟩) 2 2, .int .i64 0]) ∧ IntsIn w' g [4, 5] ∧ Below W.heap.size W w' := fun W h => by
    have := lanes_good ⟨2, 1, 4, 1⟩ 2 (by decide) rfl (by decide) _ 7 7 liveEs W h (by decide)
    rw [live_lane] at this
    exact this
  have Hq1 := Lib.hid hq1
  have Hq2 := Lib.hid hq2
  have Hes := Lib.hid hes
  have Hb2 := Lib.hid hb2
  have Hc := Lib.hid hc
  clear hW2 hblk hes hq1 hq2 hb2 hc
  go_enter Tryd.func13, Tryd.ntmps13
  go_wp2_with fail
  have hW3 := HW2.out
  simp only [liveEs, Ev.cells, List.flatMap_cons, List.flatMap_nil, List.cons_append, List.nil_append, List.append_nil] at hW3
  rw [← hW3]
  clear hW3
  refine (Hq1.out _ Hes.out).mono ?_
  rintro e w3 ⟨rfl, hb3⟩
  have hs3 := hb3.size
  have c0 := (hb3.cell (p := ⟨w.heap.size, 0, none⟩) (by simp; omega)).trans (Hc.out 0)
  have c1 := (hb3.cell (p := ⟨w.heap.size, 1, none⟩) (by simp; omega)).trans (Hc.out 1)
  have c2 := (hb3.cell (p := ⟨w.heap.size, 2, none⟩) (by simp; omega)).trans (Hc.out 2)
  have c3 := (hb3.cell (p := ⟨w.heap.size, 3, none⟩) (by simp; omega)).trans (Hc.out 3)
  simp only [List.getElem?_toArray, List.getElem?_cons_succ, List.getElem?_cons_zero] at c0 c1 c2 c3
  have hes3 := ((Hes.out.below hb3).more hs3)
  have Hes3 := Lib.hid hes3
  have Hb3 := Lib.hid (Hb2.out.trans (hb3.mono (by omega)))
  have hlt : w.heap.size < w3.heap.size := by omega
  clear hb3 hes3
  go_wp2_with fail
  refine (Hq2.out _ ((Hes3.out.below ((Below.refl _ _).alloc (Nat.le_refl _) _)).more (by simp))).mono ?_
  rintro e w4 ⟨g, hg1, hg2, rfl, hi4, hb4⟩
  have hs4 : StsAt w4 w3.heap.size ⟨7, 1, 2, 2, 1⟩ := (hb4.block _ (by simp)).trans (blk_new _ _)
  have l0 := blk_cell hi4 0
  have l1 := blk_cell hi4 1
  simp only [List.map_cons, List.map_nil, List.getElem?_toArray, List.getElem?_cons_succ, List.getElem?_cons_zero] at l0 l1
  obtain ⟨d0, d1, d2, d3, d4⟩ := hs4.cell
  simp only at d0 d1 d2 d3 d4
  have hsz4 := hb4.size
  simp only [World.size_alloc] at hsz4
  have Hb4 := Lib.hid (Hb3.out.trans (((Below.refl _ _).alloc (Nat.le_of_lt hlt) _).trans (hb4.mono (by simp; omega))))
  have Hg1 := Lib.hid hg1
  clear hb4 hs4 hi4 c0 c1 c2 c3 hg1
  go_wp2_with fail
  go_ret
  exact ⟨rfl, Hb4.out⟩
end Go.Proofs.YtgkhgbeiploefaaDoor

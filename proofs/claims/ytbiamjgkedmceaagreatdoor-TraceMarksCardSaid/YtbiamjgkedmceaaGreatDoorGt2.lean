/- The gate at memory: Mark, Has. -/
import Derived.Test.YtbiamjgkedmceaaGreatDoorGt1
namespace Go.Proofs.YtbiamjgkedmceaaGreatDoor
open Go.RowKit
set_option linter.unusedVariables false
set_option linter.unusedSimpArgs false

structure GtAt (w : World) (g : Nat) (G : Gt) : Prop where
  ok : G.Ok
  st : ∃ W top, GC w g G.mark top W ∧ BitsOf W (fun n => G.bs.contains n) ∧ top ≤ 65536 ∧ G.mark ≤ top ∧ ∀ b ∈ G.bs, b ≤ top
theorem GtAt.lt {w : World} {g : Nat} {G : Gt} (h : GtAt w g G) : g < w.heap.size := by obtain ⟨W, t, h1, -⟩ := h.st; exact blk_lt h1
theorem GtAt.of_block {w w' : World} {g : Nat} {G : Gt} (h : GtAt w g G) (hb : w'.heap[g]? = w.heap[g]?) : GtAt w' g G := ⟨h.ok, by obtain ⟨W, t, h1, h2⟩ := h.st; exact ⟨W, t, hb.trans h1, h2⟩⟩
theorem gmark_any (g : Nat) (G : Gt) (w : World) (h : GtAt w g G) : Calls Tryz.prog 74 #[.pointer (some ⟨g, 0, none⟩)] w fun e w' => e = .returned (.int .i64 G.mark) ∧ w = w' := by
  obtain ⟨W, t, h1, -⟩ := h.st
  have c := (blk_cell h1 1).trans (gcs_1 _ _ _)
  go_enter Tryz.func74, Tryz.ntmps74
  go_wp2_with fail
  go_ret
  exact ⟨rfl, rfl⟩
theorem ghas_any (g : Nat) (G : Gt) (n : Nat) (w : World) (h : GtAt w g G) (hn : n ≤ 4294967296) : Calls Tryz.prog 103 #[.pointer (some ⟨g, 0, none⟩), .int .i64 n] w fun e w' => e = .returned (.bool (G.has n)) ∧ w = w' := by
  obtain ⟨W, t, h1, h2, -⟩ := h.st
  have c0 := (blk_cell h1 0).trans (gcs_0 _ _ _)
  have c1 := (blk_cell h1 1).trans (gcs_1 _ _ _)
  have Hi := Lib.hid (is_any g G.mark t n W _ w h1 h2 hn)
  have hlo := h.ok.lo
  clear h2
  have hlo := Lib.hid hlo
  by_cases hn1 : 1 ≤ n
  · by_cases hm : n ≤ G.mark
    · have e1 : (1 : Int) ≤ n := by omega
      have e2 : (n : Int) ≤ G.mark := by omega
      go_enter Tryz.func103, Tryz.ntmps103
      go_wp2_with fail
      go_ret
      exact ⟨congrArg (fun b => Ending.returned (.bool b)) (show true = G.has n by simp [Gt.has, hn1, hm]), rfl⟩
    · have e1 : (1 : Int) ≤ n := by omega
      have e2 : ¬ (n : Int) ≤ G.mark := by omega
      go_enter Tryz.func103, Tryz.ntmps103
      go_wp2_with fail
      refine Hi.out.mono ?_
      rintro e w1 ⟨rfl, rfl⟩
      go_wp2_with fail
      go_ret
      refine ⟨congrArg (fun b => Ending.returned (.bool b)) (show (decide (n ≤ 65536) && decide (n ∈ G.bs)) = G.has n from ?_), rfl⟩
      have hlo := hlo.out
      simp only [Gt.has, hn1, hm, decide_true, decide_false, Bool.true_and, Bool.false_or]
      by_cases hx : n ∈ G.bs
      · have := (hlo n hx).2
        simp [hx, this]
      · simp [hx]
  · have e1 : ¬ (1 : Int) ≤ n := by omega
    go_enter Tryz.func103, Tryz.ntmps103
    go_wp2_with fail
    go_ret
    exact ⟨congrArg (fun b => Ending.returned (.bool b)) (show false = G.has n by simp [Gt.has, hn1]), rfl⟩
end Go.Proofs.YtbiamjgkedmceaaGreatDoor

/- Lemmas and contracts of functions that a statement of this seat stands on; each holds under the premises typed in its head. -/
import Derived.Test.YtgkhgbeiploefaaDoorStat3
namespace Go.Proofs.YtgkhgbeiploefaaDoor
open Go.RowKit
set_option linter.unusedVariables false
set_option linter.unusedSimpArgs false


theorem StsAt.set {w : World} {g : Nat} {s0 : Sts} (h : StsAt w g s0) (s : Sts) :
    StsAt (((((w.setCell ⟨g, 0, none⟩ (.int .i64 s.steps)).setCell ⟨g, 1, none⟩ (.int .i64 s.installs)).setCell ⟨g, 2, none⟩ (.int .i64 s.lag)).setCell ⟨g, 3, none⟩ (.int .i64 s.busy)).setCell ⟨g, 4, none⟩ (.int .i64 s.reads)) g s := by
  unfold StsAt at h ⊢
  have := blk_set (blk_set (blk_set (blk_set (blk_set h 0 (.int .i64 s.steps)) 1 (.int .i64 s.installs)) 2 (.int .i64 s.lag)) 3 (.int .i64 s.busy)) 4 (.int .i64 s.reads)
  simpa using this
theorem StsAt.cell {w : World} {g : Nat} {s : Sts} (h : StsAt w g s) : w.cell? ⟨g, 0, none⟩ = some (.int .i64 s.steps) ∧ w.cell? ⟨g, 1, none⟩ = some (.int .i64 s.installs) ∧ w.cell? ⟨g, 2, none⟩ = some (.int .i64 s.lag) ∧ w.cell? ⟨g, 3, none⟩ = some (.int .i64 s.busy) ∧ w.cell? ⟨g, 4, none⟩ = some (.int .i64 s.reads) :=
  ⟨blk_cell h 0, blk_cell h 1, blk_cell h 2, blk_cell h 3, blk_cell h 4⟩
theorem StsAt.frozen {w : World} {g : Nat} {s : Sts} (h : StsAt w g s) : w.frozen? ⟨g, 0, none⟩ = false ∧ w.frozen? ⟨g, 1, none⟩ = false ∧ w.frozen? ⟨g, 2, none⟩ = false ∧ w.frozen? ⟨g, 3, none⟩ = false ∧ w.frozen? ⟨g, 4, none⟩ = false :=
  ⟨blk_frozen h 0, blk_frozen h 1, blk_frozen h 2, blk_frozen h 3, blk_frozen h 4⟩

theorem of_bad (c : Cfg) (A : Option Addr) (len cap : Nat) (w : World) (hbad : c.ok = false) :
    Calls Tryd.prog 5 #[c.v, .slice A len cap] w fun e w' => e = .returned (.tuple #[(Sts.v ⟨0, 0, 0, 0, 0⟩), .int .i64 7]) ∧ Below w.heap.size w w' := by
  have Hbad := Lib.hid hbad
  clear hbad
  unfold Cfg.v
  go_enter Tryd.func5, Tryd.ntmps5
  go_wp2_with fail
  refine (cfg_any c _).mono ?_
  rintro e w1 ⟨rfl, hb1⟩
  rw [Hbad.out, show errCfg false = 7 from rfl]
  have hz1 : w.heap.size + 1 < w1.heap.size := by have := hb1.size; simp at this; omega
  have hblk : StsAt w1 (w.heap.size + 1) ⟨0, 0, 0, 0, 0⟩ := (hb1.block _ (by simp)).trans (blk_new2 _ _ _)
  obtain ⟨c0, c1, c2, c3, c4⟩ := hblk.cell
  obtain ⟨f0, f1, f2, f3, f4⟩ := hblk.frozen
  obtain ⟨d0, d1, d2, d3, d4⟩ := (hblk.set ⟨0, 0, 0, 0, 0⟩).cell
  have Hd := Lib.hid (And.intro d0 (And.intro d1 (And.intro d2 (And.intro d3 d4))))
  have Hb1 := Lib.hid (below_two (hb1.mono (by simp)))
  clear hb1 hblk d0 d1 d2 d3 d4
  go_wp2_with fail
  obtain ⟨d0, d1, d2, d3, d4⟩ := Hd.out
  refine bodyPost_ret (v := .tuple #[Sts.v ⟨0, 0, 0, 0, 0⟩, .int .i64 7]) (by simp [results, Tryd.results5, go_sem, d0, d1, d2, d3, d4, Sts.v]) rfl ⟨rfl, ?_⟩
  exact (((((Hb1.out).setCell (by simp) _).setCell (by simp) _).setCell (by simp) _).setCell (by simp) _).setCell (by simp) _
end Go.Proofs.YtgkhgbeiploefaaDoor

/- Events that came in, opened. Over any program. -/
import Derived.Test.YtfokcdgahiljdaaOpen2
import Derived.Test.YtfokcdgahiljdaaStat3
namespace Go.Proofs.Ytfokcdgahiljdaa
open Go.RowKit
set_option linter.unusedVariables false
set_option linter.unusedSimpArgs false

open Go.ChangeShapes Go.WideShapes Go.Deep
section
variable {H : Type} {enc : TypeId × Value → H} {P : Program} {w : World} {base : Nat} {spare : Nat → Bool} {held : Bool}
theorem open_es {t e ti tk : TypeId} {fs : Array Field} {fuel : Nat} {A : Option Addr} {len cap : Nat} {x : DataW H × List MemPlace} (ht : P.underlying t = some (.slice e)) (he : P.underlying e = some (.struct fs))
    (hone : oneCellFields P fs = true) (hC : P.cellsOf e = 6) (hB : P.bytesOf e = 48) (hfs : fs.toList.map (·.type) = [ti, tk, ti, ti, ti, ti]) (hti : P.underlying ti = some (.int .i64)) (htk : P.underlying tk = some (.int .u8))
    (h : DataW.trod enc P w base spare held fuel t [.slice A len cap] = some x) (hwt : Wt P t x.1) : ∃ es, EsAt w w.heap.size A len es ∧ len ≤ cap ∧ len * 48 ≤ 140737488351232 ∧ (∀ x ∈ es, (Lit.int .u8 x.kind).wf = true ∧ (Lit.int .i64 x.task).wf = true ∧ (Lit.int .i64 x.number).wf = true ∧ (Lit.int .i64 x.shard).wf = true ∧ (Lit.int .i64 x.count).wf = true ∧ (Lit.int .i64 x.mark).wf = true) := by
  have hsz : fs.size = 6 := (fs_types hfs).1
  obtain ⟨f0, e0, g0⟩ := fs_at hfs 0 rfl
  obtain ⟨f1, e1, g1⟩ := fs_at hfs 1 rfl
  obtain ⟨f2, e2, g2⟩ := fs_at hfs 2 rfl
  obtain ⟨f3, e3, g3⟩ := fs_at hfs 3 rfl
  obtain ⟨f4, e4, g4⟩ := fs_at hfs 4 rfl
  obtain ⟨f5, e5, g5⟩ := fs_at hfs 5 rfl
  obtain ⟨xs, h1, h2, h3, h4, h5, h6⟩ := open_row2 (cells := Ev.cells) (Q := fun x : Ev => (Lit.int .u8 x.kind).wf = true ∧ (Lit.int .i64 x.task).wf = true ∧ (Lit.int .i64 x.number).wf = true ∧ (Lit.int .i64 x.shard).wf = true ∧ (Lit.int .i64 x.count).wf = true ∧ (Lit.int .i64 x.mark).wf = true) ht he hone (by rw [hC, hsz]) (by omega) (fun g n hg => by
    obtain ⟨y0, hy0, -⟩ := hg 0 _ e0
    obtain ⟨y1, hy1, -⟩ := hg 1 _ e1
    obtain ⟨y2, hy2, -⟩ := hg 2 _ e2
    obtain ⟨y3, hy3, -⟩ := hg 3 _ e3
    obtain ⟨y4, hy4, -⟩ := hg 4 _ e4
    obtain ⟨y5, hy5, -⟩ := hg 5 _ e5
    rw [g0] at hy0
    rw [g1] at hy1
    rw [g2] at hy2
    rw [g3] at hy3
    rw [g4] at hy4
    rw [g5] at hy5
    obtain ⟨a, ha, -, wa⟩ := DataW.trod_int hti hy0
    obtain ⟨b, hb, -, wb⟩ := DataW.trod_int htk hy1
    obtain ⟨c, hc, -, wc⟩ := DataW.trod_int hti hy2
    obtain ⟨d, hd, -, wd⟩ := DataW.trod_int hti hy3
    obtain ⟨p, hp, -, wp⟩ := DataW.trod_int hti hy4
    obtain ⟨q, hq, -, wq⟩ := DataW.trod_int hti hy5
    simp at ha hb hc hd hp hq
    refine ⟨⟨a, b, c, d, p, q⟩, ⟨wb, wa, wc, wd, wp, wq⟩, hsz.symm, fun j u hu => ?_⟩
    match j, hu with
    | 0, hu => simp [Ev.cells] at hu; rw [ha, hu]
    | 1, hu => simp [Ev.cells] at hu; rw [hb, hu]
    | 2, hu => simp [Ev.cells] at hu; rw [hc, hu]
    | 3, hu => simp [Ev.cells] at hu; rw [hd, hu]
    | 4, hu => simp [Ev.cells] at hu; rw [hp, hu]
    | 5, hu => simp [Ev.cells] at hu; rw [hq, hu]) h hwt
  rw [hsz] at h1
  rw [hB] at h6
  exact ⟨xs, h1, h3, h6, h2⟩
end
end Go.Proofs.Ytfokcdgahiljdaa

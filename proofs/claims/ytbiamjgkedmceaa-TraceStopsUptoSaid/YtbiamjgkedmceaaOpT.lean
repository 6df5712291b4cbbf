/- What trace.Check takes (a configuration, a log, where it began, events), opened. Over any program. -/
import Derived.Test.YtbiamjgkedmceaaOpz
namespace Go.Proofs.Ytbiamjgkedmceaa
open Go.RowKit
set_option linter.unusedVariables false
set_option linter.unusedSimpArgs false

open Go.ChangeShapes Go.WideShapes Go.Deep
section
variable {H : Type} {enc : TypeId × Value → H} {P : Program} {w : World} {base : Nat} {spare : Nat → Bool} {held : Bool}
theorem open_fields {t : TypeId} {fs : Array Field} {l : List (TypeId × Nat)} {fuel : Nat} {cs : List Value} {x : DataW H × List MemPlace} (hr : P.underlying t = some (.struct fs)) (hfs : fs.toList.map (fun f => (f.type, f.offset)) = l)
    (h : DataW.trod enc P w base spare held fuel t cs = some x) (hwt : Wt P t x.1) : cs.length = P.cellsOf t ∧ ∃ n, ∀ (j : Nat) (t' : TypeId) (o : Nat), l[j]? = some (t', o) → ∃ y, DataW.trod enc P w base spare held n t' ((cs.drop o).take (P.cellsOf t')) = some y ∧ Wt P t' y.1 := by
  obtain ⟨ys, n, -, hx, hcl, hyl, hf⟩ := DataW.trod_struct hr h
  rw [hx] at hwt
  refine ⟨hcl, n, fun j t' o hj => ?_⟩
  obtain ⟨f, e, g, o'⟩ := fld_at hfs j hj
  subst g o'
  have hjl : j < ys.length := by rw [hyl]; exact (Array.getElem?_eq_some_iff.1 e).1
  have hy : ys[j]? = some ys[j] := List.getElem?_eq_getElem hjl
  exact ⟨ys[j], (hf j f e).trans hy, wt_field hr hwt e (by rw [List.getElem?_map, hy]; rfl)⟩
theorem open_cfgc {tc ti : TypeId} {fs : Array Field} {fuel : Nat} {cs : List Value} {x : DataW H × List MemPlace} (hr : P.underlying tc = some (.struct fs)) (hC : P.cellsOf tc = 4) (hfs : fs.toList.map (fun f => (f.type, f.offset)) = [(ti, 0), (ti, 1), (ti, 2), (ti, 3)])
    (hti : P.underlying ti = some (.int .i64)) (hci : P.cellsOf ti = 1) (h : DataW.trod enc P w base spare held fuel tc cs = some x) (hwt : Wt P tc x.1) : ∃ a b c d : Int, cs = [.int .i64 a, .int .i64 b, .int .i64 c, .int .i64 d] ∧ (Lit.int .i64 a).wf = true ∧ (Lit.int .i64 b).wf = true ∧ (Lit.int .i64 c).wf = true ∧ (Lit.int .i64 d).wf = true := by
  obtain ⟨hl, n, hf⟩ := open_fields hr hfs h hwt
  rw [hC] at hl
  obtain ⟨y0, h0, -⟩ := hf 0 _ _ rfl
  obtain ⟨y1, h1, -⟩ := hf 1 _ _ rfl
  obtain ⟨y2, h2, -⟩ := hf 2 _ _ rfl
  obtain ⟨y3, h3, -⟩ := hf 3 _ _ rfl
  rw [hci] at h0 h1 h2 h3
  obtain ⟨a, ha, -, wa⟩ := DataW.trod_int hti h0
  obtain ⟨b, hb, -, wb⟩ := DataW.trod_int hti h1
  obtain ⟨c, hc, -, wc⟩ := DataW.trod_int hti h2
  obtain ⟨d, hd, -, wd⟩ := DataW.trod_int hti h3
  match cs, hl with
  | [a0, a1, a2, a3], _ =>
    simp at ha hb hc hd
    exact ⟨a, b, c, d, by simp [ha, hb, hc, hd], wa, wb, wc, wd⟩
/-- Where a log was left. -/
theorem open_savedc {ts ti tl th te : TypeId} {fs : Array Field} {fuel : Nat} {cs : List Value} {x : DataW H × List MemPlace} (hr : P.underlying ts = some (.struct fs)) (hC : P.cellsOf ts = 3) (hfs : fs.toList.map (fun f => (f.type, f.offset)) = [(ti, 0), (tl, 1), (th, 2)])
    (hti : P.underlying ti = some (.int .i64)) (hci : P.cellsOf ti = 1) (hBi : P.bytesOf ti = 8) (htl : P.underlying tl = some (.slice ti)) (hcl : P.cellsOf tl = 1) (hth : P.underlying th = some (.slice te)) (hch : P.cellsOf th = 1)
    (h : DataW.trod enc P w base spare held fuel ts cs = some x) (hwt : Wt P ts x.1) : ∃ (m : Int) (A2 : Option Addr) (n2 c2 : Nat) (A3 : Option Addr) (n3 c3 : Nat) (by_ : List Int), cs = [.int .i64 m, .slice A2 n2 c2, .slice A3 n3 c3] ∧ RowAt Icell 1 w w.heap.size A2 n2 by_ ∧ (A2 = none → c2 = 0) ∧ n2 ≤ 17592186043904 ∧ (Lit.int .i64 m).wf = true := by
  obtain ⟨hl, n, hf⟩ := open_fields hr hfs h hwt
  rw [hC] at hl
  obtain ⟨y0, h0, -⟩ := hf 0 _ _ rfl
  obtain ⟨y1, h1, w1⟩ := hf 1 _ _ rfl
  obtain ⟨y2, h2, -⟩ := hf 2 _ _ rfl
  rw [hci] at h0
  rw [hcl] at h1
  rw [hch] at h2
  obtain ⟨m, hm, -, wm⟩ := DataW.trod_int hti h0
  match cs, hl with
  | [a0, a1, a2], _ =>
    have h1' : DataW.trod enc P w base spare held n tl [a1] = some y1 := h1
    have h2' : DataW.trod enc P w base spare held n th [a2] = some y2 := h2
    obtain ⟨A2, n2, c2, rfl⟩ := shape_slice htl h1'
    obtain ⟨A3, n3, c3, rfl⟩ := shape_slice hth h2'
    obtain ⟨l, g1, g2, g3⟩ := open_is2 htl hti hci hBi h1' w1
    simp at hm
    exact ⟨m, A2, n2, c2, A3, n3, c3, l, by simp [hm], g1, g3, g2, wm⟩
theorem open_told {tt tc tg tw ew tg1 ts tl th te ti tv ev tk tst tb : TypeId} {fs fc fg fw fsv fe : Array Field} {fuel : Nat} {cs : List Value} {x : DataW H × List MemPlace} (hr : P.underlying tt = some (.struct fs)) (hC : P.cellsOf tt = 9) (hfs : fs.toList.map (fun f => (f.type, f.offset)) = [(tc, 0), (tg, 4), (ts, 5), (tv, 8)])
    (hc : P.underlying tc = some (.struct fc)) (hCc : P.cellsOf tc = 4) (hfc : fc.toList.map (fun f => (f.type, f.offset)) = [(ti, 0), (ti, 1), (ti, 2), (ti, 3)]) (hti : P.underlying ti = some (.int .i64)) (hci : P.cellsOf ti = 1) (hBi : P.bytesOf ti = 8)
    (htg : P.underlying tg = some (.slice tg1)) (hcg : P.cellsOf tg = 1) (hg1 : P.underlying tg1 = some (.struct fg)) (hone : oneCellFields P fg = true) (hCg : P.cellsOf tg1 = 2) (hBg : P.bytesOf tg1 = 32) (hfg : fg.toList.map (·.type) = [ti, tw]) (htw : P.underlying tw = some (.slice ew)) (hew : P.underlying ew = some (.struct fw))
    (honew : oneCellFields P fw = true) (hCw : P.cellsOf ew = 3) (hBw : P.bytesOf ew = 40) (hfw : fw.toList.map (·.type) = [tst, tst, tb]) (htst : P.underlying tst = some .string) (htb : P.underlying tb = some .bool)
    (hs : P.underlying ts = some (.struct fsv)) (hCs : P.cellsOf ts = 3) (hfsv : fsv.toList.map (fun f => (f.type, f.offset)) = [(ti, 0), (tl, 1), (th, 2)]) (htl : P.underlying tl = some (.slice ti)) (hcl : P.cellsOf tl = 1) (hth : P.underlying th = some (.slice te)) (hch : P.cellsOf th = 1)
    (htv : P.underlying tv = some (.slice ev)) (hcv : P.cellsOf tv = 1) (hev : P.underlying ev = some (.struct fe)) (honee : oneCellFields P fe = true) (hCe : P.cellsOf ev = 6) (hBe : P.bytesOf ev = 48) (hfe : fe.toList.map (·.type) = [ti, tk, ti, ti, ti, ti]) (htk : P.underlying tk = some (.int .u8))
    (h : DataW.trod enc P w base spare held fuel tt cs = some x) (hwt : Wt P tt x.1) :
    ∃ (a b c d : Int) (A : Option Addr) (len cap : Nat) (m : Int) (A2 : Option Addr) (n2 c2 : Nat) (A3 : Option Addr) (n3 c3 : Nat) (A4 : Option Addr) (n4 c4 : Nat) (rs : List RTx) (by_ : List Int) (l : List Ev),
      cs = [.int .i64 a, .int .i64 b, .int .i64 c, .int .i64 d, .slice A len cap, .int .i64 m, .slice A2 n2 c2, .slice A3 n3 c3, .slice A4 n4 c4] ∧
      TxsAt w w.heap.size A len rs ∧ len * 32 ≤ 140737488351232 ∧ (∀ r ∈ rs, r.len ≤ r.cap) ∧ RowAt Icell 1 w w.heap.size A2 n2 by_ ∧ (A2 = none → c2 = 0) ∧ n2 ≤ 17592186043904 ∧ EsAt w w.heap.size A4 n4 l ∧ n4 ≤ c4 ∧ n4 * 48 ≤ 140737488351232 ∧
      ((Lit.int .i64 a).wf = true ∧ (Lit.int .i64 b).wf = true ∧ (Lit.int .i64 c).wf = true ∧ (Lit.int .i64 d).wf = true ∧ (Lit.int .i64 m).wf = true) ∧ ∀ x ∈ l, (Lit.int .u8 x.kind).wf = true ∧ (Lit.int .i64 x.task).wf = true ∧ (Lit.int .i64 x.number).wf = true ∧ (Lit.int .i64 x.shard).wf = true ∧ (Lit.int .i64 x.count).wf = true ∧ (Lit.int .i64 x.mark).wf = true := by
  obtain ⟨hlen, n, hf⟩ := open_fields hr hfs h hwt
  rw [hC] at hlen
  obtain ⟨y0, h0, w0⟩ := hf 0 _ _ rfl
  obtain ⟨y1, h1, w1⟩ := hf 1 _ _ rfl
  obtain ⟨y2, h2, w2⟩ := hf 2 _ _ rfl
  obtain ⟨y3, h3, w3⟩ := hf 3 _ _ rfl
  rw [hCc] at h0
  rw [hcg] at h1
  rw [hCs] at h2
  rw [hcv] at h3
  match cs, hlen with
  | [a0, a1, a2, a3, a4, a5, a6, a7, a8], _ =>
    have h1' : DataW.trod enc P w base spare held n tg [a4] = some y1 := h1
    have h3' : DataW.trod enc P w base spare held n tv [a8] = some y3 := h3
    obtain ⟨a, b, c, d, e0, wfs⟩ := open_cfgc hc hCc hfc hti hci h0 w0
    obtain ⟨m, A2, n2, c2, A3, n3, c3, by_, e2, g1, g2, g3, wm⟩ := open_savedc hs hCs hfsv hti hci hBi htl hcl hth hch h2 w2
    obtain ⟨A, len, cap, rfl⟩ := shape_slice htg h1'
    obtain ⟨A4, n4, c4, rfl⟩ := shape_slice htv h3'
    obtain ⟨rs, r1, r2, r3, r4⟩ := open_txs htg hg1 hone hCg hBg hfg hti htw hew honew hCw hBw hfw htst htb h1' w1
    obtain ⟨l, l1, l2, l3, l4⟩ := open_es htv hev honee hCe hBe hfe hti htk h3' w3
    simp only [List.drop_zero, List.take_succ_cons, List.take_zero, List.cons.injEq, and_true] at e0
    obtain ⟨rfl, rfl, rfl, rfl⟩ := e0
    simp only [List.drop_succ_cons, List.drop_zero, List.take_succ_cons, List.take_zero, List.cons.injEq, and_true] at e2
    obtain ⟨rfl, rfl, rfl⟩ := e2
    exact ⟨a, b, c, d, A, len, cap, m, A2, n2, c2, A3, n3, c3, A4, n4, c4, rs, by_, l, rfl, r1, r3, fun r hr => (r4 r hr).1.2, g1, g2, g3, l1, l2, l3, ⟨wfs.1, wfs.2.1, wfs.2.2.1, wfs.2.2.2, wm⟩, l4⟩
end
end Go.Proofs.Ytbiamjgkedmceaa

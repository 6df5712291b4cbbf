/- DepsPlays: a script that came in, opened with the bounds that the form's own reach gives. -/
import Derived.Test.YtfafhfjmoijaeaaGreatDoorOpb
namespace Go.Proofs.YtfafhfjmoijaeaaGreatDoor
open Go.RowKit
set_option linter.unusedVariables false
set_option linter.unusedSimpArgs false

open Go.ChangeShapes Go.WideShapes Go.Deep
section
variable {H : Type} {enc : TypeId × Value → H} {P : Program} {w : World} {base : Nat} {spare : Nat → Bool} {held : Bool}
theorem open_ws3 {t e ts tb : TypeId} {fs : Array Field} {fuel : Nat} {A : Option Addr} {len cap : Nat} {x : DataW H × List MemPlace} (ht : P.underlying t = some (.slice e)) (he : P.underlying e = some (.struct fs))
    (hone : oneCellFields P fs = true) (hC : P.cellsOf e = 3) (hB : P.bytesOf e = 40) (hfs : fs.toList.map (·.type) = [ts, ts, tb]) (hts : P.underlying ts = some .string) (htb : P.underlying tb = some .bool)
    (h : DataW.trod enc P w base spare held fuel t [.slice A len cap] = some x) (hwt : Wt P t x.1) : ∃ ws, WsAt w w.heap.size A len ws ∧ len ≤ cap ∧ len * 40 ≤ 140737488351232 ∧ (∀ x ∈ ws, x.key.size ≤ 140737488351232 ∧ x.val.size ≤ 140737488351232) ∧ (A = none → cap = 0) := by
  have hsz : fs.size = 3 := (fs_types hfs).1
  obtain ⟨f0, e0, g0⟩ := fs_at hfs 0 rfl
  obtain ⟨f1, e1, g1⟩ := fs_at hfs 1 rfl
  obtain ⟨f2, e2, g2⟩ := fs_at hfs 2 rfl
  obtain ⟨xs, h1, h2, h3, h4, h5, h6⟩ := open_row2 (cells := Wr.cells) (Q := fun x : Wr => x.key.size ≤ 140737488351232 ∧ x.val.size ≤ 140737488351232) ht he hone (by rw [hC, hsz]) (by omega) (fun g n hg => by
    obtain ⟨y0, hy0, w0⟩ := hg 0 _ e0
    obtain ⟨y1, hy1, w1⟩ := hg 1 _ e1
    obtain ⟨y2, hy2, -⟩ := hg 2 _ e2
    rw [g0] at hy0 w0
    rw [g1] at hy1 w1
    rw [g2] at hy2
    obtain ⟨k, hk, ek, -⟩ := DataW.trod_string hts hy0
    obtain ⟨v, hv, ev, -⟩ := DataW.trod_string hts hy1
    rw [ek] at w0
    rw [ev] at w1
    have zk := wt_string w0
    have zv := wt_string w1
    obtain ⟨d, hd, -⟩ := DataW.trod_bool htb hy2
    simp at hk hv hd
    refine ⟨⟨k, v, d⟩, ⟨zk, zv⟩, hsz.symm, fun j u hu => ?_⟩
    match j, hu with
    | 0, hu => simp [Wr.cells] at hu; rw [hk, hu]
    | 1, hu => simp [Wr.cells] at hu; rw [hv, hu]
    | 2, hu => simp [Wr.cells] at hu; rw [hd, hu]) h hwt
  rw [hsz] at h1
  rw [hB] at h6
  exact ⟨xs, h1, h3, h6, h2, h5⟩

theorem open_kops {t e tk ti tx tl tw ts tb : TypeId} {es xs gs : Array Field} {fuel : Nat} {A : Option Addr} {len cap : Nat} {x : DataW H × List MemPlace} (ht : P.underlying t = some (.slice e)) (he : P.underlying e = some (.struct es)) (hCe : P.cellsOf e = 5) (hBe : P.bytesOf e = 64)
    (hes : es.toList.map (fun f => (f.type, f.offset)) = [(tk, 0), (ti, 1), (tx, 2), (ts, 4)]) (htk : P.underlying tk = some (.int .u8)) (hck : P.cellsOf tk = 1) (hti : P.underlying ti = some (.int .i64)) (hci : P.cellsOf ti = 1)
    (hx : P.underlying tx = some (.struct xs)) (hCx : P.cellsOf tx = 2) (hxs : xs.toList.map (fun f => (f.type, f.offset)) = [(ti, 0), (tl, 1)]) (htl : P.underlying tl = some (.slice tw)) (hcl1 : P.cellsOf tl = 1)
    (hw : P.underlying tw = some (.struct gs)) (hone : oneCellFields P gs = true) (hCw : P.cellsOf tw = 3) (hBw : P.bytesOf tw = 40) (hgs : gs.toList.map (·.type) = [ts, ts, tb]) (hts : P.underlying ts = some .string) (htb : P.underlying tb = some .bool) (hcs1 : P.cellsOf ts = 1)
    (h : DataW.trod enc P w base spare held fuel t [.slice A len cap] = some x) (hwt : Wt P t x.1) : ∃ l : List KOp, RowAt KOp.cells 5 w w.heap.size A len l ∧ (∀ o ∈ l, OpOk w w.heap.size o) ∧ len ≤ cap ∧ len * 64 ≤ 140737488351232 := by
  obtain ⟨l, h1, h2, h3, -, -, h6⟩ := open_row3 (cells := KOp.cells) (Q := fun o : KOp => OpOk w w.heap.size o) ht hCe (by omega) (fun cs n y hy hwy => by
    obtain ⟨ys, n', -, hxy, hcl, hyl, hf⟩ := DataW.trod_struct he hy
    rw [hCe] at hcl
    obtain ⟨f0, e0, g0, o0⟩ := fld_at hes 0 rfl
    obtain ⟨f1, e1, g1, o1⟩ := fld_at hes 1 rfl
    obtain ⟨f2, e2, g2, o2⟩ := fld_at hes 2 rfl
    obtain ⟨f3, e3, g3, o3⟩ := fld_at hes 3 rfl
    have hsz : es.size = 4 := by rw [← Array.length_toList]; simpa using congrArg List.length hes
    have hyy : ∀ j, j < 4 → ∃ y, ys[j]? = some y := fun j hj => ⟨_, List.getElem?_eq_getElem (by omega)⟩
    obtain ⟨y0, z0⟩ := hyy 0 (by omega)
    obtain ⟨y1, z1⟩ := hyy 1 (by omega)
    obtain ⟨y2, z2⟩ := hyy 2 (by omega)
    obtain ⟨y3, z3⟩ := hyy 3 (by omega)
    have t0 := hf 0 f0 e0
    have t1 := hf 1 f1 e1
    have t2 := hf 2 f2 e2
    have t3 := hf 3 f3 e3
    rw [g0, o0, hck, z0] at t0
    rw [g1, o1, hci, z1] at t1
    rw [g2, o2, hCx, z2] at t2
    rw [g3, o3, hcs1, z3] at t3
    rw [hxy] at hwy
    have w2 : Wt P tx y2.1 := by have := wt_field he hwy e2 (y := y2.1) (by rw [List.getElem?_map, z2]; rfl); rwa [g2] at this
    have w3 : Wt P ts y3.1 := by have := wt_field he hwy e3 (y := y3.1) (by rw [List.getElem?_map, z3]; rfl); rwa [g3] at this
    obtain ⟨k, c0, -, -⟩ := DataW.trod_int htk t0
    obtain ⟨m, c1, -, -⟩ := DataW.trod_int hti t1
    obtain ⟨s, c3, es3, -⟩ := DataW.trod_string hts t3
    rw [es3] at w3
    have hs := wt_string w3
    -- the transaction
    obtain ⟨us, n2, -, hxu, hclu, hul, hfu⟩ := DataW.trod_struct hx t2
    obtain ⟨q0, d0, p0, r0⟩ := fld_at hxs 0 rfl
    obtain ⟨q1, d1, p1, r1⟩ := fld_at hxs 1 rfl
    have hsx : xs.size = 2 := by rw [← Array.length_toList]; simpa using congrArg List.length hxs
    have huu : ∀ j, j < 2 → ∃ y, us[j]? = some y := fun j hj => ⟨_, List.getElem?_eq_getElem (by omega)⟩
    obtain ⟨u0, b0⟩ := huu 0 (by omega)
    obtain ⟨u1, b1⟩ := huu 1 (by omega)
    have v0 := hfu 0 q0 d0
    have v1 := hfu 1 q1 d1
    rw [p0, r0, hci, b0] at v0
    rw [p1, r1, hcl1, b1] at v1
    rw [hxu] at w2
    have w1 : Wt P tl u1.1 := by have := wt_field hx w2 d1 (y := u1.1) (by rw [List.getElem?_map, b1]; rfl); rwa [p1] at this
    obtain ⟨tn, c2, -, -⟩ := DataW.trod_int hti v0
    match cs, hcl with
    | [a0, a1, a2, a3, a4], _ =>
      have v1' : DataW.trod enc P w base spare held n2 tl [a3] = some u1 := v1
      obtain ⟨B, bl, bc, rfl⟩ := shape_slice htl v1'
      obtain ⟨ws, k1, k2, k3, k4, k5⟩ := open_ws3 htl hw hone hCw hBw hgs hts htb v1' w1
      simp at c0 c1 c2 c3
      exact ⟨⟨k, m, tn, B, bl, bc, ws, s⟩, ⟨k1, k5, k3, hs, k4⟩, by simp [KOp.cells, c0, c1, c2, c3]⟩) h hwt
  rw [hBe] at h6
  exact ⟨l, h1, h2, h3, h6⟩
end
end Go.Proofs.YtfafhfjmoijaeaaGreatDoor

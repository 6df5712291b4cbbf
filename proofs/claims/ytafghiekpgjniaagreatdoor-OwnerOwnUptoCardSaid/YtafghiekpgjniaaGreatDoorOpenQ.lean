/- Requests, and slices of asks, that came in, opened with the bounds that the form's own reach gives. Over any program. -/
import Derived.Test.YtafghiekpgjniaaGreatDoorOP
import Derived.Test.YtafghiekpgjniaaGreatDoorOl2
namespace Go.Proofs.YtafghiekpgjniaaGreatDoor
open Go.RowKit
set_option linter.unusedVariables false
set_option linter.unusedSimpArgs false

open Go.ChangeShapes Go.WideShapes Go.Deep
section
variable {H : Type} {enc : TypeId × Value → H} {P : Program} {w : World} {base : Nat} {spare : Nat → Bool} {held : Bool}
theorem open_is2 {t e : TypeId} {fuel : Nat} {A : Option Addr} {len cap : Nat} {x : DataW H × List MemPlace} (ht : P.underlying t = some (.slice e)) (he : P.underlying e = some (.int .i64)) (hC : P.cellsOf e = 1) (hB : P.bytesOf e = 8)
    (h : DataW.trod enc P w base spare held fuel t [.slice A len cap] = some x) (hwt : Wt P t x.1) : ∃ l : List Int, RowAt Icell 1 w w.heap.size A len l ∧ len ≤ 17592186043904 ∧ (A = none → cap = 0) := by
  rcases open_ints ht he hC h with ⟨hcs, hx⟩ | ⟨a, len', cap', zs, hcs, hb, hl, hm, hz, hx, hcell, hwz⟩
  · simp at hcs
    obtain ⟨rfl, rfl, rfl⟩ := hcs
    exact ⟨[], RowAt.nil_, by simp, fun _ => rfl⟩
  · simp at hcs
    obtain ⟨rfl, rfl, rfl⟩ := hcs
    have hby : len * 8 ≤ 140737488351232 := by
      rw [hx] at hwt
      have := wt_slice ht hwt
      rw [hB] at this
      simp only [lits, List.length_map, List.length_take, List.length_drop, reachBytes] at this
      split at hz <;> omega
    have hlz : len ≤ zs.length := by rw [hz]; split <;> omega
    refine ⟨zs.take len, ⟨by simp; omega, fun hpos => ?_⟩, by omega, fun h => by cases h⟩
    have h0 := hcell 0 (by omega)
    obtain ⟨b, off, rfl⟩ := spot_add (World.cell?_spot h0)
    refine ⟨b, off, rfl, by simpa [Addr.add] using World.block_lt_of_cell? w _ h0, fun i x hx j u hu => ?_⟩
    have hi : i < len := by have := (List.getElem?_eq_some_iff.1 hx).1; simp at this; omega
    have h1 := hcell i (by omega)
    rw [List.getElem?_take_of_lt hi] at hx
    match j, hu with
    | 0, hu =>
      simp [Icell] at hu
      rw [Addr.add_lit] at h1
      rw [show zs.getD i 0 = x by simp [List.getD, hx]] at h1
      rw [Nat.mul_one, Nat.add_zero, ← hu]
      exact h1
/-- A request that is a field or an element. -/
theorem open_rq {tr tk ti tw ts tb tl : TypeId} {fs gs : Array Field} {fuel : Nat} {cs : List Value} {x : DataW H × List MemPlace} (hr : P.underlying tr = some (.struct fs)) (hC : P.cellsOf tr = 9)
    (hfs : fs.toList.map (fun f => (f.type, f.offset)) = [(tk, 0), (ti, 1), (ti, 2), (tw, 3), (ts, 6), (ts, 7), (tl, 8)]) (htk : P.underlying tk = some (.int .u8)) (hck : P.cellsOf tk = 1) (hti : P.underlying ti = some (.int .i64)) (hci : P.cellsOf ti = 1)
    (hw : P.underlying tw = some (.struct gs)) (hCw : P.cellsOf tw = 3) (hgs : gs.toList.map (fun f => (f.type, f.offset)) = [(ts, 0), (ts, 1), (tb, 2)]) (hts : P.underlying ts = some .string) (htb : P.underlying tb = some .bool) (hcs1 : P.cellsOf ts = 1) (hcb1 : P.cellsOf tb = 1)
    (htl : P.underlying tl = some (.slice ti)) (hcl1 : P.cellsOf tl = 1) (hBi : P.bytesOf ti = 8)
    (h : DataW.trod enc P w base spare held fuel tr cs = some x) (hwt : Wt P tr x.1) : ∃ r : Rq, cs = r.cells ∧ RowAt Icell 1 w w.heap.size r.A r.len r.bs ∧ r.len ≤ 17592186043904 ∧ (r.A = none → r.cap = 0) := by
  obtain ⟨ys, n, -, hx, hcl, hyl, hf⟩ := DataW.trod_struct hr h
  rw [hC] at hcl
  obtain ⟨f0, e0, g0, o0⟩ := fld_at hfs 0 rfl
  obtain ⟨f1, e1, g1, o1⟩ := fld_at hfs 1 rfl
  obtain ⟨f2, e2, g2, o2⟩ := fld_at hfs 2 rfl
  obtain ⟨f3, e3, g3, o3⟩ := fld_at hfs 3 rfl
  obtain ⟨f4, e4, g4, o4⟩ := fld_at hfs 4 rfl
  obtain ⟨f5, e5, g5, o5⟩ := fld_at hfs 5 rfl
  obtain ⟨f6, e6, g6, o6⟩ := fld_at hfs 6 rfl
  have hsz : fs.size = 7 := by rw [← Array.length_toList]; simpa using congrArg List.length hfs
  have hy : ∀ j, j < 7 → ∃ y, ys[j]? = some y := fun j hj => ⟨_, List.getElem?_eq_getElem (by omega)⟩
  obtain ⟨y0, z0⟩ := hy 0 (by omega)
  obtain ⟨y1, z1⟩ := hy 1 (by omega)
  obtain ⟨y2, z2⟩ := hy 2 (by omega)
  obtain ⟨y3, z3⟩ := hy 3 (by omega)
  obtain ⟨y4, z4⟩ := hy 4 (by omega)
  obtain ⟨y5, z5⟩ := hy 5 (by omega)
  obtain ⟨y6, z6⟩ := hy 6 (by omega)
  have h0 := hf 0 f0 e0
  have h1 := hf 1 f1 e1
  have h2 := hf 2 f2 e2
  have h3 := hf 3 f3 e3
  have h4 := hf 4 f4 e4
  have h5 := hf 5 f5 e5
  have h6 := hf 6 f6 e6
  rw [g0, o0, hck, z0] at h0
  rw [g1, o1, hci, z1] at h1
  rw [g2, o2, hci, z2] at h2
  rw [g3, o3, hCw, z3] at h3
  rw [g4, o4, hcs1, z4] at h4
  rw [g5, o5, hcs1, z5] at h5
  rw [g6, o6, hcl1, z6] at h6
  rw [hx] at hwt
  have w3 : Wt P tw y3.1 := by have := wt_field hr hwt e3 (y := y3.1) (by rw [List.getElem?_map, z3]; rfl); rwa [g3] at this
  have w6 : Wt P tl y6.1 := by have := wt_field hr hwt e6 (y := y6.1) (by rw [List.getElem?_map, z6]; rfl); rwa [g6] at this
  obtain ⟨k, c0, -, -⟩ := DataW.trod_int htk h0
  obtain ⟨m1, c1, -, -⟩ := DataW.trod_int hti h1
  obtain ⟨m2, c2, -, -⟩ := DataW.trod_int hti h2
  obtain ⟨wr, c3, -, -⟩ := open_wr hw hCw hgs hts htb hcs1 hcb1 h3 w3
  obtain ⟨s4, c4, -, -⟩ := DataW.trod_string hts h4
  obtain ⟨s5, c5, -, -⟩ := DataW.trod_string hts h5
  match cs, hcl with
  | [a0, a1, a2, a3, a4, a5, a6, a7, a8], _ =>
    have h6' : DataW.trod enc P w base spare held n tl [a8] = some y6 := h6
    obtain ⟨A, len, cap, rfl⟩ := shape_slice htl h6'
    obtain ⟨l, hl1, hl2, hl3⟩ := open_is2 htl hti hci hBi h6' w6
    simp at c0 c1 c2 c4 c5
    simp only [List.drop_succ_cons, List.drop_zero, List.take_succ_cons, List.take_zero, Wr.cells, List.cons.injEq, and_true] at c3
    obtain ⟨c3a, c3b, c3c⟩ := c3
    exact ⟨⟨k, m1, m2, wr.key, wr.val, wr.drop, s4, s5, A, len, cap, l⟩, by simp [Rq.cells, c0, c1, c2, c3a, c3b, c3c, c4, c5], hl1, hl2, hl3⟩
theorem open_asks {t e tr tk ti tw ts tb tl : TypeId} {es fs gs : Array Field} {fuel : Nat} {A : Option Addr} {len cap : Nat} {x : DataW H × List MemPlace} (ht : P.underlying t = some (.slice e)) (he : P.underlying e = some (.struct es)) (hCe : P.cellsOf e = 10) (hBe : P.bytesOf e = 128)
    (hes : es.toList.map (fun f => (f.type, f.offset)) = [(tb, 0), (tr, 1)]) (hr : P.underlying tr = some (.struct fs)) (hC : P.cellsOf tr = 9)
    (hfs : fs.toList.map (fun f => (f.type, f.offset)) = [(tk, 0), (ti, 1), (ti, 2), (tw, 3), (ts, 6), (ts, 7), (tl, 8)]) (htk : P.underlying tk = some (.int .u8)) (hck : P.cellsOf tk = 1) (hti : P.underlying ti = some (.int .i64)) (hci : P.cellsOf ti = 1)
    (hw : P.underlying tw = some (.struct gs)) (hCw : P.cellsOf tw = 3) (hgs : gs.toList.map (fun f => (f.type, f.offset)) = [(ts, 0), (ts, 1), (tb, 2)]) (hts : P.underlying ts = some .string) (htb : P.underlying tb = some .bool) (hcs1 : P.cellsOf ts = 1) (hcb1 : P.cellsOf tb = 1)
    (htl : P.underlying tl = some (.slice ti)) (hcl1 : P.cellsOf tl = 1) (hBi : P.bytesOf ti = 8)
    (h : DataW.trod enc P w base spare held fuel t [.slice A len cap] = some x) (hwt : Wt P t x.1) : ∃ asks : List AskR, AsAt w w.heap.size A len asks ∧ len ≤ cap ∧ len * 128 ≤ 140737488351232 := by
  obtain ⟨xs, h1, h2, h3, -, -, h6⟩ := open_row3 (cells := AskR.cells) (Q := fun a : AskR => RowAt Icell 1 w w.heap.size a.r.A a.r.len a.r.bs ∧ a.r.len ≤ 17592186043904 ∧ (a.r.A = none → a.r.cap = 0)) ht hCe (by omega) (fun cs n y hy hwy => by
    obtain ⟨ys, n', -, hx, hcl, hyl, hf⟩ := DataW.trod_struct he hy
    rw [hCe] at hcl
    obtain ⟨f0, e0, g0, o0⟩ := fld_at hes 0 rfl
    obtain ⟨f1, e1, g1, o1⟩ := fld_at hes 1 rfl
    have hsz : es.size = 2 := by rw [← Array.length_toList]; simpa using congrArg List.length hes
    have hyy : ∀ j, j < 2 → ∃ y, ys[j]? = some y := fun j hj => ⟨_, List.getElem?_eq_getElem (by omega)⟩
    obtain ⟨y0, z0⟩ := hyy 0 (by omega)
    obtain ⟨y1, z1⟩ := hyy 1 (by omega)
    have t0 := hf 0 f0 e0
    have t1 := hf 1 f1 e1
    rw [g0, o0, hcb1, z0] at t0
    rw [g1, o1, hC, z1] at t1
    rw [hx] at hwy
    have w1 : Wt P tr y1.1 := by have := wt_field he hwy e1 (y := y1.1) (by rw [List.getElem?_map, z1]; rfl); rwa [g1] at this
    obtain ⟨b, c0, -⟩ := DataW.trod_bool htb t0
    obtain ⟨r, c1, s1⟩ := open_rq hr hC hfs htk hck hti hci hw hCw hgs hts htb hcs1 hcb1 htl hcl1 hBi t1 w1
    refine ⟨⟨b, r⟩, s1, ?_⟩
    match cs, hcl with
    | [a0, a1, a2, a3, a4, a5, a6, a7, a8, a9], _ =>
      simp at c0
      have c1' : [a1, a2, a3, a4, a5, a6, a7, a8, a9] = r.cells := c1
      show AskR.cells ⟨b, r⟩ = _
      unfold AskR.cells
      rw [← c1', c0]) h hwt
  rw [hBe] at h6
  exact ⟨xs, ⟨h1, h2⟩, h3, h6⟩
end
end Go.Proofs.YtafghiekpgjniaaGreatDoor

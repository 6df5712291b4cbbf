/- DepsPlays: asked. -/
import Derived.Test.YtfafhfjmoijaeaaGreatDoorKa
namespace Go.Proofs.YtfafhfjmoijaeaaGreatDoor
open Go.RowKit
set_option linter.unusedVariables false
set_option linter.unusedSimpArgs false

open Go.Maps
set_option maxRecDepth 100000
def AskP (w : World) (lo : Nat) (t : TB) (gz gr gb N : Nat) (e : Ending) (w' : World) : Prop := e = .returned (.bool true) ∧ DPS w' lo t gz gr gb N ∧ Below lo w w'
def OpV (kind n tn : Int) (A : Option Addr) (len cap : Nat) (key : ByteArray) : Value := .agg #[.int .u8 kind, .int .i64 n, .int .i64 tn, .slice A len cap, .string key]
theorem DPT.lo_ {w : World} {lo gz gr N m n c : Nat} {t : TB} {d : DT} {A : Option Addr} {xs : List O2} (h : DPT w lo t gz gr N m d A n c xs) : lo ≤ w.heap.size := Nat.le_trans h.log (Nat.le_of_lt (blk_lt h.rr.st))
theorem hasL.lt {w : World} {lo gr n c : Nat} {A : Option Addr} {xs : List O2} (h : RTAt w lo gr A n c xs) {b : Nat} (hb : hasL xs b) : lo ≤ b ∧ b < w.heap.size := by
  obtain ⟨x, hx, ⟨a, ea, rfl⟩ | ⟨a, ea, rfl⟩⟩ := hb
  · exact (h.el x hx).1.lt ea
  · exact (h.el x hx).2.lt ea
theorem InE.snoc {es : List BkE} {e : BkE} {b : Nat} (h : InE (es ++ [e]) b) : InE es b ∨ ∃ a, e.A = some a ∧ b = a.block := by
  obtain ⟨f, hf, a, ea, eb⟩ := h
  rcases List.mem_append.1 hf with hf | hf
  · exact Or.inl ⟨f, hf, a, ea, eb⟩
  · simp at hf; subst hf; exact Or.inr ⟨a, ea, eb⟩
theorem twin_row {w : World} {b B len : Nat} {ws : List Wr} (h : w.heap[b]? = some (.cells ((ws ++ [spW]).flatMap Wr.cells).toArray 75 (0, 0))) (hB : b < B) (hl : ws.length = len) : WsAt w B (some ⟨b, 0, none⟩) len ws := by
  subst hl
  refine rowAt_block ws (len_wr _) h hB (fun j u hu => ?_)
  have hj := (List.getElem?_eq_some_iff.1 hu).1
  simp only [List.getElem?_toArray, List.flatMap_append]
  rw [List.getElem?_append_left hj]; exact hu
theorem twin_p0 {w : World} {b lo len k : Nat} {ws : List Wr} (h : w.heap[b]? = some (.cells ((ws ++ [spW]).flatMap Wr.cells).toArray 75 (0, 0))) (hB : lo ≤ b) (hl : ws.length = len) (hr : len * 40 ≤ 140737488351232) (hk : k ≤ 1152921504606846976) : P0 mkWrite 3 75 3518437208812 w lo ⟨some ⟨b, 0, none⟩, len, len + 1, k, none, 0, 0⟩ := by
  have hfl : ((ws ++ [spW]).flatMap Wr.cells).length = (len + 1) * 3 := by rw [flat_len _ (len_wr _)]; simp [hl]
  exact ⟨Nat.le_succ _, by simp only; omega, hk, rfl, Nat.zero_le _, Or.inr ⟨b, 0, _, rfl, hB, h, by rw [List.size_toArray, hfl]; show 0 + (len + 1) * 3 ≤ (len + 1) * 3; omega, fun i x hx => by simp at hx⟩⟩
/-- Blocks of cells that stay as they are. -/
def Bks (w : World) (l : List (Nat × Array Value × TypeId)) : Prop := ∀ p ∈ l, w.heap[p.1]? = some (.cells p.2.1 p.2.2 (0, 0))
theorem Bks.keptT {w w' : World} {l : List (Nat × Array Value × TypeId)} {X : Nat → Prop} {S : List TypeId} (h : Bks w l) (k : Kept w w' X) (hX : ∀ b, X b → Typ w b S) (hS : ∀ p ∈ l, p.2.2 ∉ S) : Bks w' l := fun p hp => k.blk (h p hp) (blk_lt (h p hp)) (fun hb => (hX _ hb).no (h p hp) (hS p hp))
theorem Bks.below {w w' : World} {l : List (Nat × Array Value × TypeId)} (h : Bks w l) (hb : Below w.heap.size w w') : Bks w' l := fun p hp => (hb.block _ (blk_lt (h p hp))).trans (h p hp)
theorem Bks.g0 {w : World} {a : Nat × Array Value × TypeId} {l : List (Nat × Array Value × TypeId)} (h : Bks w (a :: l)) : w.heap[a.1]? = some (.cells a.2.1 a.2.2 (0, 0)) := h a (by simp)
theorem Bks.tl {w : World} {a : Nat × Array Value × TypeId} {l : List (Nat × Array Value × TypeId)} (h : Bks w (a :: l)) : Bks w l := fun p hp => h p (List.mem_cons_of_mem _ hp)
theorem RTAt.typ2 {w : World} {lo gr n c : Nat} {A : Option Addr} {xs : List O2} (h : RTAt w lo gr A n c xs) (b : Nat) (hb : b = gr ∨ ∃ a, A = some a ∧ b = a.block) : Typ w b [57, 79] := by
  rcases hb with rfl | ⟨a, ea, rfl⟩
  · exact Or.inr ⟨_, _, h.st, by simp⟩
  · obtain ⟨cs, hc⟩ := h.tk.ty ea; exact Or.inr ⟨cs, _, hc, by simp⟩
theorem BkAtK.typX {w : World} {g Bo cnt : Nat} {xI xW : List BkE} {H : TypeId} (h : BkAtK w g Bo cnt xI xW) (b : Nat) (hb : TyX w g (· = H) b) : ∃ cs e, w.heap[b]? = some (.cells cs e (0, 0)) ∧ e ∈ [46, H] := by
  rcases hb with rfl | ⟨cs, t, rfl, hc⟩
  · obtain ⟨cs, hg⟩ := h.tyg; exact ⟨cs, _, hg, by simp⟩
  · exact ⟨cs, _, hc, by simp⟩
theorem addR_pair (r : Int × Int) : ((r.1 == r.1) = true) ∧ (r.2 == r.2) = true := ⟨beq_self_eq_true _, beq_self_eq_true _⟩
set_option maxHeartbeats 4000000 in
theorem asked1_any (lo : Nat) (t : TB) (gz gr gb N : Nat) (n tn : Int) (A : Option Addr) (len cap : Nat) (ws : List Wr) (key : ByteArray) (w : World) (H : DPS w lo t gz gr gb N) (hws : WsAt w lo A len ws) (hnil : A = none → cap = 0) (hreach : len * 40 ≤ 140737488351232) (hN : N ≤ 8000) :
    Calls Tryz.prog 7 #[.pointer (some ⟨t.g, 0, none⟩), .pointer (some ⟨gr, 0, none⟩), OpV 1 n tn A len cap key, .pointer (some ⟨gb, 0, none⟩)] w (AskP w lo t gz gr gb (N + 1)) := by
  obtain ⟨m, d, A0, n0, c0, xs, cnt, xI, xW, hD, hB, hcnt, hlI, hlW, hsep⟩ := H
  have hlo := hD.lo_
  obtain ⟨W0, hW0⟩ : ∃ W0, W0 = w.alloc (.cells #[.int .u8 1, .int .i64 n, .int .i64 tn, .slice A len cap, .string key] 52) := ⟨_, rfl⟩
  have hb0 : Below w.heap.size w W0 := hW0 ▸ bel_alloc (Below.refl _ _) _
  have hblk : W0.heap[w.heap.size]? = some (.cells #[.int .u8 1, .int .i64 n, .int .i64 tn, .slice A len cap, .string key] 52 (0, 0)) := by rw [hW0]; exact blk_new _ _
  have x0 : W0.cell? ⟨w.heap.size, 0, none⟩ = some (.int .u8 1) := blk_cell hblk 0
  have x2 : W0.cell? ⟨w.heap.size, 2, none⟩ = some (.int .i64 tn) := blk_cell hblk 2
  have x3 : W0.cell? ⟨w.heap.size, 3, none⟩ = some (.slice A len cap) := blk_cell hblk 3
  have Hb0 := Lib.hid hb0
  have Hblk := Lib.hid hblk
  have HW0 := Lib.hid hW0
  have HD := Lib.hid hD
  have HB := Lib.hid hB
  have Hsep := Lib.hid hsep
  have Hws := Lib.hid hws
  have Hlo := Lib.hid hlo
  have Hwl := Lib.hid hws.len
  have Hnil := Lib.hid hnil
  have hz0 := hb0.size
  have hz0' : w.heap.size < W0.heap.size := blk_lt hblk
  clear hb0 hblk hsep hws hlo hW0 hD hB hnil
  unfold OpV
  go_enter Tryz.func7, Tryz.ntmps7
  go_wp2_with fail
  rw [← HW0.out]
  go_wp2_with fail
  refine (twintx_any tn A len cap ws W0 (((Hws.out.more Hlo.out).below Hb0.out).more hz0) hreach).mono ?_
  rintro e w1 ⟨b, g1, g2, rfl, g3, g4⟩
  have HB1 := Lib.hid (Hb0.out.trans (g4.mono hz0))
  have HG3 := Lib.hid g3
  have HG := Lib.hid (And.intro g1 g2)
  have Hop1 := Lib.hid ((g4.block _ hz0').trans Hblk.out)
  clear g3 g4 g1 g2 x0 x2 x3
  go_wp2_with fail
  -- the table's Add
  obtain ⟨w2, hw2⟩ : ∃ w2, w2 = w1.alloc (.cells #[.int .i64 tn, .slice (some ⟨b, 0, none⟩) len (len + 1)] 50) := ⟨_, rfl⟩
  have hk2 : Below w1.heap.size w1 w2 := hw2 ▸ bel_alloc (Below.refl _ _) _
  have HK2 : Hid (Bks w2 [(w1.heap.size, #[.int .i64 tn, .slice (some ⟨b, 0, none⟩) len (len + 1)], 50), (b, ((ws ++ [spW]).flatMap Wr.cells).toArray, 75), (w.heap.size, #[.int .u8 1, .int .i64 n, .int .i64 tn, .slice A len cap, .string key], 52)]) := Lib.hid (fun p hp => by
    simp only [List.mem_cons, List.not_mem_nil, or_false] at hp
    rcases hp with rfl | rfl | rfl
    · rw [hw2]; exact blk_new _ _
    · exact (hk2.block _ HG.out.2).trans HG3.out
    · exact (hk2.block _ (by have := HB1.out.size; have := HG.out; omega)).trans Hop1.out)
  have HB2 := Lib.hid (HB1.out.trans (hk2.mono HB1.out.size))
  rw [← hw2]
  have hz2 := HB2.out.size
  have hzg : w1.heap.size ≤ w2.heap.size := hk2.size
  have hbw : w.heap.size < b := by have := HG.out.1; omega
  have hbw2 : b < w2.heap.size := by have := HG.out.2; omega
  clear hk2 hw2
  have HD2 := Lib.hid (HD.out.below HB2.out)
  have HQ2 := Lib.hid (HB.out.kept (X := fun _ => False) (Kept.of_below HB2.out) (fun _ h => h.elim))
  have hws2 : ∀ X, Kept w2 X t.has → WsAt X X.heap.size (some ⟨b, 0, none⟩) len ws := fun X k => by
    have h := (HK2.out.keptT k (fun b hb => HD2.out.tt.typ hb) (by simp)).tl.g0
    exact twin_row h (blk_lt h) Hwl.out
  refine (tadd_u tn _ len (len + 1) ws _ HD2.out.kk HD2.out.tt hws2 (by omega)).mono ?_
  rintro e w3 ⟨rfl, hT3, hk3⟩
  have HT3 := Lib.hid hT3
  have HK3 := Lib.hid (HK2.out.keptT hk3 (fun b hb => HD2.out.tt.typ hb) (by simp))
  have HR3 := Lib.hid (HD2.out.rr.keptT hk3 (fun b hb => HD2.out.tt.typ hb) (by simp))
  have HQ3 := Lib.hid (HQ2.out.keptT hk3 (fun b hb => HD2.out.tt.typ hb) (by simp))
  have HZ3 : Hid (ZeroT w3 gz) := Lib.hid (hk3.blk HD2.out.z (blk_lt HD2.out.z) HD2.out.ne)
  have HB3 : Hid (Below lo w w3) := Lib.hid ((HB2.out.mono Hlo.out).trans (hk3.below (by have := Hlo.out; omega) HD.out.lot))
  have hz3 : w2.heap.size ≤ w3.heap.size := hk3.size
  have hop3 := HK3.out.tl.tl.g0
  have x2 : w3.cell? ⟨w.heap.size, 2, none⟩ = some (.int .i64 tn) := blk_cell hop3 2
  have x3 : w3.cell? ⟨w.heap.size, 3, none⟩ = some (.slice A len cap) := blk_cell hop3 3
  clear hT3 hk3 hws2 hop3
  go_wp2_with fail
  refine (radd_u tn A len cap ws HD.out.kk HR3.out (by have := Hlo.out; omega) (by have := HD.out.nn; omega) HD.out.w32 ((Hws.out.below HB3.out).more (by have := Hlo.out; omega)) Hnil.out (by omega)).mono ?_
  rintro e w4 ⟨rfl, hR4, hk4⟩
  have HR4 := Lib.hid hR4
  have HK4 := Lib.hid (HK3.out.keptT hk4 HR3.out.typ2 (by simp))
  have HQ4 := Lib.hid (HQ3.out.keptT hk4 HR3.out.typ2 (by simp))
  have HT4 : Hid (∃ m' d', KIn m' d' (addL m (xs.map O2.o) tn ws) ∧ TabAt w4 t d') := Lib.hid (by
    obtain ⟨m', d', q1, q2⟩ := HT3.out
    refine ⟨m', d', q1, q2.keptT hk4 fun b hb => ?_⟩
    rcases hb with rfl | ⟨a, ea, rfl⟩
    · exact ⟨_, _, HR3.out.st, by decide⟩
    · obtain ⟨cs, hc⟩ := HR3.out.tk.ty ea; exact ⟨cs, _, hc, by decide⟩)
  have HZ4 : Hid (ZeroT w4 gz) := Lib.hid (hk4.blk HZ3.out (blk_lt HZ3.out) (fun hb => (HR3.out.typ2 _ hb).no HZ3.out (by simp)))
  have HB4 : Hid (Below lo w w4) := Lib.hid (HB3.out.trans (hk4.below (by have := Hlo.out; omega) (fun k hk => by
    rcases hk with rfl | ⟨a, ea, rfl⟩
    · exact HD.out.log
    · exact (HR3.out.tk.lt ea).1)))
  have hz4 : w3.heap.size ≤ w4.heap.size := hk4.size
  have hop4 := HK4.out.tl.tl.g0
  have y2 : w4.cell? ⟨w.heap.size, 2, none⟩ = some (.int .i64 tn) := blk_cell hop4 2
  have y3 : w4.cell? ⟨w.heap.size, 3, none⟩ = some (.slice A len cap) := blk_cell hop4 3
  have hx4 := HK4.out.g0
  have z0 : w4.cell? ⟨w1.heap.size, 0, none⟩ = some (.int .i64 tn) := blk_cell hx4 0
  have z1 : w4.cell? ⟨w1.heap.size, 1, none⟩ = some (.slice (some ⟨b, 0, none⟩) len (len + 1)) := blk_cell hx4 1
  have HW4 := Lib.hid HK4.out.tl.g0
  clear hR4 hk4 x2 x3 hop4 hx4
  go_wp2_with fail
  refine (lefttx_any tn b A len cap ws w4 HW4.out ((Hws.out.below HB4.out).more (by have := Hlo.out; omega)) hreach).mono ?_
  rintro e w5 ⟨rfl, hb5⟩
  have HR5 : Hid (∃ A' n' c' ys, List.map O2.o ys = addL m (xs.map O2.o) tn ws ∧ RTAt w5 lo gr A' n' c' ys ∧ n' ≤ n0 + 1 ∧ ∀ b, hasL ys b → hasL xs b ∨ w3.heap.size ≤ b) := Lib.hid (by
    obtain ⟨A', n', c', ys, q1, q2, q3, q4⟩ := HR4.out
    exact ⟨A', n', c', ys, q1, q2.below hb5, q3, q4⟩)
  have HT5 : Hid (∃ m' d', KIn m' d' (addL m (xs.map O2.o) tn ws) ∧ TabAt w5 t d') := Lib.hid (by
    obtain ⟨m', d', q1, q2⟩ := HT4.out
    exact ⟨m', d', q1, q2.below hb5⟩)
  have HZ5 : Hid (ZeroT w5 gz) := Lib.hid ((hb5.block _ (blk_lt HZ4.out)).trans HZ4.out)
  have HQ5 := Lib.hid (HQ4.out.kept (X := fun _ => False) (Kept.of_below hb5) (fun _ h => h.elim))
  have HK5 := Lib.hid (HK4.out.below hb5)
  have HB5 : Hid (Below lo w w5) := Lib.hid (HB4.out.trans (hb5.mono (by have := Hlo.out; omega)))
  have hx5 := HK5.out.g0
  have u0 : w5.cell? ⟨w1.heap.size, 0, none⟩ = some (.int .i64 tn) := blk_cell hx5 0
  have u1 : w5.cell? ⟨w1.heap.size, 1, none⟩ = some (.slice (some ⟨b, 0, none⟩) len (len + 1)) := blk_cell hx5 1
  have HP5 := Lib.hid (twin_p0 (b := b) (lo := lo) (k := cnt + 1) HK5.out.tl.g0 (by have := Hlo.out; omega) Hwl.out hreach (by omega))
  have hz5 : w4.heap.size ≤ w5.heap.size := hb5.size
  clear hb5 hx5 z0 z1 y2 y3
  go_wp2_with fail
  refine (txnK_any gb lo cnt xI xW tn (some ⟨b, 0, none⟩) len (len + 1) w5 HQ5.out HP5.out (fun e he a c ea ec => by
    injection ec with ec; subst ec
    have := (HB.out.inlt (Or.inr ⟨e, he, a, ea, rfl⟩)).2
    show a.block ≠ b
    omega) (by omega) (by omega)).mono ?_
  rintro e w6 ⟨rfl, hq6, hk6, hb6⟩
  have HQ6 := Lib.hid hq6
  have HB6 := Lib.hid (HB5.out.trans hb6)
  have HT6 : Hid (∃ m' d', KIn m' d' (addL m (xs.map O2.o) tn ws) ∧ TabAt w6 t d') := Lib.hid (by
    obtain ⟨m', d', q1, q2⟩ := HT5.out
    refine ⟨m', d', q1, q2.keptT hk6 fun b hb => ?_⟩
    obtain ⟨cs, e, h1, h2⟩ := HQ5.out.typX b hb
    exact ⟨cs, e, h1, fun e2 => by subst e2; revert h2; decide⟩)
  have HZ6 : Hid (ZeroT w6 gz) := Lib.hid (hk6.blk HZ5.out (blk_lt HZ5.out) (fun hb => by
    obtain ⟨cs, e, h1, h2⟩ := HQ5.out.typX _ hb
    exact (show Typ w5 gz _ from Or.inr ⟨cs, e, h1, h2⟩).no HZ5.out (by decide)))
  have HR6 : Hid (∃ A' n' c' ys, List.map O2.o ys = addL m (xs.map O2.o) tn ws ∧ RTAt w6 lo gr A' n' c' ys ∧ n' ≤ n0 + 1 ∧ ∀ b, hasL ys b → hasL xs b ∨ w3.heap.size ≤ b) := Lib.hid (by
    obtain ⟨A', n', c', ys, q1, q2, q3, q4⟩ := HR5.out
    exact ⟨A', n', c', ys, q1, q2.keptT hk6 (fun b hb => Or.inr (HQ5.out.typX b hb)) (by decide), q3, q4⟩)
  clear hq6 hk6 hb6 u0 u1
  obtain ⟨e1, e2⟩ := addR_pair (addR m (xs.map O2.o) tn ws)
  go_wp2_with fail
  go_ret
  refine ⟨rfl, ?_, HB6.out⟩
  obtain ⟨m', d', q1, q2⟩ := HT6.out
  obtain ⟨A', n', c', ys, r1, r2, r3, r4⟩ := HR6.out
  refine ⟨m', d', A', n', c', ys, cnt + 1, xI, _, ⟨by rw [r1]; exact q1, q2, r2, by have := HD.out.nn; omega, by rw [r1]; exact HD.out.w32.add _ _, HZ6.out, HD.out.lot, HD.out.log⟩, HQ6.out, by omega, by omega, by simp; omega, fun q hq hx => ?_⟩
  have hx' : (InE xI q ∨ InE xW q) ∨ q = b := by
    rcases hx with hx | hx
    · exact Or.inl (Or.inl hx)
    · rcases hx.snoc with hx | ⟨a, ea, hx⟩
      · exact Or.inl (Or.inr hx)
      · injection ea with ea; subst ea; exact Or.inr hx
  rcases r4 q hq with h | h
  · rcases hx' with hx' | rfl
    · exact Hsep.out q h hx'
    · have := (hasL.lt HD.out.rr h).2; omega
  · rcases hx' with hx' | rfl
    · have := (HB.out.inlt hx').2; omega
    · omega
end Go.Proofs.YtfafhfjmoijaeaaGreatDoor

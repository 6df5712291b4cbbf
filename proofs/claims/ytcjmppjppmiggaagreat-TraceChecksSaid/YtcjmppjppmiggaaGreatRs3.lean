/- The document's story: the gate's step. -/
import Derived.Test.YtcjmppjppmiggaaGreatM4
import Derived.Test.YtcjmppjppmiggaaGreatSt3
namespace Go.Proofs.YtcjmppjppmiggaaGreat
open Go.RowKit
set_option linter.unusedVariables false
set_option linter.unusedSimpArgs false

open Go.Maps
set_option maxRecDepth 100000
set_option maxHeartbeats 4000000 in
theorem r21gates_any (φ : Nat → Nat) (Bo : Nat) (c : Cfg) (rs rs' : List RTx) (by_ : List Int) (M k : Nat) (a : RA) (x : RG) (s : TS) (w : World) (h : RsAt w φ Bo c rs rs' by_ a x s) (hi : SInv c rs rs' M k s) (hrl : rs.length ≤ 65536) :
    Calls Tryz.prog 52 #[ptrV a.g] w (RTaskEnd w φ Bo c rs rs' by_ a x.bd (s.gates rs')) := by
  obtain ⟨i0, hi0, hz0, hz1, hz2⟩ := info_parts info_int
  have H := Lib.hid h
  obtain ⟨⟨Al, nl, cl⟩, ⟨Ag, ng, cg⟩, QA, LA, C, cs, T, xs, K, bd⟩ := x
  have hst := h.st (fun h => h)
  unfold rstoryC SL.v at hst
  simp only at hst
  have hln := (h.gone (fun h => h)).1.len
  simp only at hln
  have hbz : Below w.heap.size w (w.alloc (.cells #[.int .i64 0, .int .u8 0, .int .i64 0, .int .i64 0, .int .i64 0, .int .i64 0] 51)) := (Below.refl _ _).alloc (Nat.le_refl _) _
  unfold TS.gates ptrV
  cases hg : s.gone with
  | nil =>
    rw [hg] at hln
    have hn0 : ng = 0 := by rw [← hln]; rfl
    subst hn0
    have c11 : ∀ o, (w.alloc o).cell? ⟨a.g, 11, none⟩ = some (.slice Ag 0 cg) := fun o => blk_cell ((Below.heap_alloc _ _ _ (blk_lt hst)).trans hst) 11
    have Hbz := Lib.hid hbz
    clear h hi hst hln hg hbz
    go_enter Tryz.func52, Tryz.ntmps52
    go_wp2_with fail
    refine bodyPost_ret (v := .tuple #[.agg #[.int .i64 0, .int .u8 0, .int .i64 0, .int .i64 0, .int .i64 0, .int .i64 0], .bool false]) (by simp [results, Tryz.results52, go_sem]) rfl ⟨0, 0, 0, 0, rfl, ⟨Hbz.out.mono H.out.lo, (H.out.below Hbz.out (fun h => h) (fun h => h)).markOk (n := w.heap.size) (fun _ _ => rfl) H.out.fr.1⟩, fun e => by cases e⟩
  | cons y r =>
    obtain ⟨φ0, hφ0⟩ : ∃ φ0 : Nat → Nat, φ0 = fun b => if b < w.heap.size then φ b else 50 := ⟨_, rfl⟩
    have hφ1 : ∀ b, b < w.heap.size → φ0 b = φ b := fun b hb => by rw [hφ0]; simp only [if_pos hb]
    have hφ2 : ∀ b, w.heap.size ≤ b → φ0 b = 50 := fun b hb => by rw [hφ0]; simp only [if_neg (show ¬ b < w.heap.size by omega)]
    have h1 := h.relabel hφ1
    have Hφ1 := Lib.hid hφ1
    have Hφ2 := Lib.hid hφ2
    clear hφ0 hφ1 hφ2
    obtain ⟨hT, hA⟩ := h1.gone (fun h => h)
    simp only at hT hA
    rw [hg] at hT hln
    have hng : ng = r.length + 1 := by rw [← hln]; rfl
    subst hng
    obtain ⟨b, off, y', rfl, hbl, hx, hc⟩ := hT.row.at_ (i := 0) (by omega)
    have hy : y' = y := by simp at hx; exact hx.symm
    subst hy
    have x0 : ∀ o, (w.alloc o).cell? ⟨b, off, none⟩ = some (.int .i64 y') := fun o => by
      have := hc 0 _ rfl
      simp only [Nat.zero_mul, Nat.add_zero] at this
      exact (((Below.refl w.heap.size w).alloc (Nat.le_refl _) o).cell (p := ⟨b, off, none⟩) hbl).trans this
    have hpop := hT.pop
    have HBz := Lib.hid (hi.busy y' (by rw [hg]; simp))
    have HM : Hid (s.m ≤ 65536) := Lib.hid (by have := hi.ml; omega)
    have HI := Lib.hid hi
    have h_line_len : Hid (s.line.length = nl) := Lib.hid (h.line (fun h => h)).1.len
    obtain ⟨W0, hW0⟩ : ∃ W0, W0 = w.alloc (.cells #[.int .i64 0, .int .u8 0, .int .i64 0, .int .i64 0, .int .i64 0, .int .i64 0] 51) := ⟨_, rfl⟩
    rw [← hW0] at hbz
    have HB0 := Lib.hid hbz
    have HS0 := Lib.hid (h1.below hbz (fun h => h) (fun h => h))
    have HE0 : Hid (W0.heap[w.heap.size]? = some (.cells #[.int .i64 0, .int .u8 0, .int .i64 0, .int .i64 0, .int .i64 0, .int .i64 0] 51 (0, 0))) := Lib.hid (hW0 ▸ blk_new _ _)
    have HW0 := Lib.hid hW0
    have Hpop := Lib.hid hpop
    have hstA : ∀ o, (w.alloc o).heap[a.g]? = _ := fun o => (Below.heap_alloc _ _ _ (blk_lt hst)).trans hst
    have c11 : ∀ o, (w.alloc o).cell? ⟨a.g, 11, none⟩ = some (.slice (some ⟨b, off, none⟩) (r.length + 1) cg) := fun o => blk_cell (hstA o) 11
    have f11 : ∀ o, (w.alloc o).frozen? ⟨a.g, 11, none⟩ = false := fun o => blk_frozen (hstA o) 11
    have c8 : ∀ o, (w.alloc o).cell? ⟨a.g, 8, none⟩ = some (.pointer (some ⟨a.t, 0, none⟩)) := fun o => blk_cell (hstA o) 8
    have hcap := hT.le
    have HA := Lib.hid hA
    clear hi hst hln hg hT hA hx hc hpop hstA hbz hW0 h h1
    go_enter Tryz.func52, Tryz.ntmps52
    by_cases hc1 : cg = 1
    · subst hc1
      have hr0 : Hid (r = []) := Lib.hid (List.eq_nil_of_length_eq_zero (by omega))
      have hrl0 : r.length = 0 := by rw [hr0.out]; rfl
      obtain ⟨A1, n1, c1, hA1, hn1, hcc⟩ : ∃ (A1 : Option Addr) (n1 c1 : Nat), A1 = some ⟨b, off, none⟩ ∧ n1 = 0 ∧ c1 = 0 := ⟨_, _, _, rfl, rfl, rfl⟩
      have HT1 : Hid (TkAt natC 1 3 w Bo A1 n1 c1 r) := Lib.hid (by rw [hA1, hn1, hcc]; have := Hpop.out; rw [hr0.out] at this ⊢; simpa using this)
      have HA1 : Hid (At φ0 11 A1) := Lib.hid (by rw [hA1]; exact HA.out)
      have HX := Lib.hid (And.intro hA1 (And.intro hn1 hcc))
      clear hA1 hn1 hcc
      simp only [hrl0, Nat.zero_add] at c11
      clear hrl0 hcap
      go_wp2_with fail
      have hsl : Value.slice (some ⟨b, off, none⟩) 0 0 = Value.slice A1 n1 c1 := by rw [HX.out.1, HX.out.2.1, HX.out.2.2]
      rw [hsl]
      as_aux_lemma =>
      rw [← HW0.out]
      obtain ⟨W1, hW1⟩ : ∃ W1, W1 = W0.setCell ⟨a.g, 11, none⟩ (.slice A1 n1 c1) := ⟨_, rfl⟩
      have hS1 : RsAt W1 φ0 Bo c rs rs' by_ a { line := ⟨Al, nl, cl⟩, gone := ⟨A1, n1, c1⟩, QA := QA, LA := LA, C := C, cs := cs, T := T, xs := xs, K := K, bd := bd } { s with gone := r } := hW1 ▸ RsH.setGone HS0.out (fun _ h => h.elim) (HT1.out.below HB0.out) HA1.out
      have HBo1 : Hid (Below Bo W0 W1) := Lib.hid (hW1 ▸ (Below.refl Bo W0).setCell (p := ⟨a.g, 11, none⟩) HS0.out.fst.2.1 _)
      have HE1 : Hid (W1.heap[w.heap.size]? = some (.cells #[.int .i64 0, .int .u8 0, .int .i64 0, .int .i64 0, .int .i64 0, .int .i64 0] 51 (0, 0))) := Lib.hid (by
        rw [hW1]; exact ((Kept.refl W0 (fun q => q = a.g)).setCell (p := ⟨a.g, 11, none⟩) (Or.inl rfl) _).blk HE0.out (blk_lt HE0.out) (by have := H.out.fst.2.2; omega))
      rw [← hW1]
      obtain ⟨φ1, hφ1⟩ : ∃ φ1 : Nat → Nat, φ1 = fun b => if b < W1.heap.size then φ0 b else 8 := ⟨_, rfl⟩
      have hf1 : ∀ b, b < W1.heap.size → φ1 b = φ0 b := fun b hb => by rw [hφ1]; simp only [if_pos hb]
      have hf2 : ∀ b, W1.heap.size ≤ b → φ1 b = 8 := fun b hb => by rw [hφ1]; simp only [if_neg (show ¬ b < W1.heap.size by omega)]
      have hS1' := hS1.relabel hf1
      obtain ⟨tb, ti, tc⟩ := hS1'.tb (fun h => h)
      simp only at tb ti tc
      obtain ⟨i, o, hLi, hon, howt, hpl⟩ := ti.open_ HBz.out.1 HBz.out.2.1 HBz.out.2.2.1 HBz.out.2.2.2
      obtain ⟨z, hz, hzo⟩ : ∃ z, xs[i]? = some z ∧ z.o = o := by
        rw [List.getElem?_map] at hLi
        cases hxi : xs[i]? with
        | none => rw [hxi] at hLi; cases hLi
        | some z => rw [hxi] at hLi; injection hLi with hLi; exact ⟨z, rfl, hLi⟩
      subst hzo
      have hTn : T.n ≤ 65537 := by
        have h1 := ti.len
        have h2 := tb.tk.len
        have h3 := HM.out
        rw [List.length_map] at h1
        have h4 : TS.m { s with gone := r } = s.m := rfl
        omega
      have Hd := Lib.hid (r11done_any Bo a.t T.A T.n T.c xs y' i z W1 tb hS1'.lo hTn hpl hz howt (ti.wt_len HM.out))
      refine Hd.out.mono ?_
      rintro e w2 ⟨Af, nf, cf, zs, rfl, hTf, hR, hzs, hkT, hdis, hprov⟩
      have hs2 := hkT.size
      have HS2 := Lib.hid (hS1'.setTab (E := E1 s.E y') hR ⟨by rw [hzs]; exact ti.done2 hLi hon, close_done HBz.out.2.2.2 tc⟩ (fun q hq => by
        rcases hprov q hq with h1 | h1
        · have := hS1'.ftb q h1
          exact ⟨this.1, this.2.1, by have := this.2.2; omega⟩
        · exact ⟨hf2 q h1, Nat.le_trans hS1'.lo h1, hR.has_lt hq⟩) (hkT.mono (fun q hq => Or.inr (Or.inl hq))))
      have hout : outO (xs.map O2.o) y' = freeL rs' s.m s.E y' := ti.out tc y'
      rw [hout] at hTf
      have hsz01 : w.heap.size < W1.heap.size := blk_lt HE1.out
      have hbox : φ1 w.heap.size = 50 := by rw [hf1 _ hsz01]; exact Hφ2.out _ (Nat.le_refl _)
      have HB2 : Hid (Below Bo W1 w2) := Lib.hid (hkT.below hS1'.lo (fun q ⟨ad, ea, e⟩ => by rw [e]; exact (tb.tk.lt ea).1))
      have HE2 : Hid (w2.heap[w.heap.size]? = some (.cells #[.int .i64 0, .int .u8 0, .int .i64 0, .int .i64 0, .int .i64 0, .int .i64 0] 51 (0, 0))) := Lib.hid (hkT.blk HE1.out (blk_lt HE1.out) (fun ⟨ad, ea, e⟩ => by
        have h8 := (hS1'.ftb ad.block (Or.inr (Or.inl ⟨ad, ea, rfl⟩))).1
        rw [← e, hbox] at h8; omega))
      obtain ⟨φ2, hφ2⟩ : ∃ φ2 : Nat → Nat, φ2 = fun b => if b < w2.heap.size then φ1 b else 10 := ⟨_, rfl⟩
      have hg1 : ∀ b, b < w2.heap.size → φ2 b = φ1 b := fun b hb => by rw [hφ2]; simp only [if_pos hb]
      have hg2 : ∀ b, w2.heap.size ≤ b → φ2 b = 10 := fun b hb => by rw [hφ2]; simp only [if_neg (show ¬ b < w2.heap.size by omega)]
      have HS2' := Lib.hid (HS2.out.relabel hg1)
      have HTf : Hid (TkAt natC 1 3 w2 W1.heap.size Af nf cf (freeL rs' s.m s.E y')) := Lib.hid hTf
      have hst2 := HS2.out.st (fun h => h)
      unfold rstoryC SL.v at hst2
      simp only at hst2
      have d10 : w2.cell? ⟨a.g, 10, none⟩ = some (.slice Al nl cl) := blk_cell hst2 10
      have f10 : w2.frozen? ⟨a.g, 10, none⟩ = false := blk_frozen hst2 10
      have e9 : w2.cell? ⟨a.g, 9, none⟩ = some (.pointer (some ⟨a.gt, 0, none⟩)) := blk_cell hst2 9
      have Hst2 := Lib.hid hst2
      have HL2 := Lib.hid (HS2'.out.line (fun h => h)).1
      have HAl := Lib.hid (HS2'.out.line (fun h => h)).2
      have hfl : (freeL rs' s.m s.E y').length ≤ 65537 := by
        have := List.length_filter_le (fun a => decide (1 ≤ a) && !s.E a && decide (depL rs' s.E a = [y'])) (List.range (s.m + 1))
        simp at this; have := HM.out; unfold freeL; omega
      have Hfl := Lib.hid hfl
      have hnl : nl ≤ 65537 := by have := HI.out.line_len; have := HM.out; have := (h_line_len : Hid (s.line.length = nl)).out; omega
      have hb2z : Bo ≤ w2.heap.size := HS2'.out.lo
      have HszT := Lib.hid hs2
      clear hst2 hTf hout hzs hkT hdis hprov hR tb ti tc hfl hS1 hS1' hs2 hLi hz howt hpl
      have Hbox : Hid (φ2 w.heap.size = 50) := Lib.hid (by rw [hg1 _ (blk_lt HE2.out)]; exact hbox)
      have hs12 : W1.heap.size ≤ w2.heap.size := HszT.out
      have Hlow : Hid (∀ b, b < w.heap.size → φ2 b = φ b) := Lib.hid (fun b hb => by rw [hg1 b (by omega), hf1 b (by omega)]; exact Hφ1.out b hb)
      have Hg2 := Lib.hid hg2
      clear hφ1 hf1 hf2 hφ2 hg1 hg2 hbox hW1
      cases Af with
      | none =>
        have hz : nf = 0 ∧ cf = 0 := HTf.out.none_
        have hfr : freeL rs' s.m s.E y' = [] := List.eq_nil_of_length_eq_zero (by rw [HTf.out.len]; exact hz.1)
        obtain ⟨A3, n3, c3, hA3e, hn3e, hc3e⟩ : ∃ (A3 : Option Addr) (n3 c3 : Nat), A3 = Al ∧ n3 = nl ∧ c3 = cl := ⟨_, _, _, rfl, rfl, rfl⟩
        obtain ⟨w3, hw3⟩ : ∃ w3, w3 = w2 := ⟨_, rfl⟩
        have HS3 := Lib.hid (show RsAt (w3.setCell ⟨a.g, 10, none⟩ (.slice A3 n3 c3)) φ2 Bo c rs rs' by_ a _ _ by rw [hw3, hA3e, hn3e, hc3e]; exact HS2'.out.setLine (fun _ h => h.elim) (l := s.line ++ freeL rs' s.m s.E y') (by rw [hfr, List.append_nil]; exact HL2.out) HAl.out)
        have HB3 : Hid (Below Bo w2 w3) := Lib.hid (hw3 ▸ Below.refl _ _)
        have HE3 : Hid (w3.heap[w.heap.size]? = some (.cells #[.int .i64 0, .int .u8 0, .int .i64 0, .int .i64 0, .int .i64 0, .int .i64 0] 51 (0, 0))) := Lib.hid (hw3 ▸ HE2.out)
        rw [hz.1, hz.2]
        have HQ := Lib.hid (And.intro hA3e (And.intro hn3e (And.intro hc3e hw3)))
        clear hz hfr hA3e hn3e hc3e hw3
        go_wp2_with (at_builtin; refine wpList_push0 rfl _ _ 25 rfl 3 i0 1 Tryz.underlying25 hi0 Bo Al nl cl s.line rfl HL2.out rfl ?_)
        rw [← HQ.out.1, ← HQ.out.2.1, ← HQ.out.2.2.1, ← HQ.out.2.2.2]
        rw [← HQ.out.1, ← HQ.out.2.1, ← HQ.out.2.2.1, ← HQ.out.2.2.2] at d10
        rw [← HQ.out.2.2.2] at e9 f10
        go_wp2_with fail
        obtain ⟨w4, hw4⟩ : ∃ w4, w4 = w3.setCell ⟨a.g, 10, none⟩ (.slice A3 n3 c3) := ⟨_, rfl⟩
        rw [← hw4] at HS3 ⊢
        have hz34 : w4.heap.size = w3.heap.size := by rw [hw4]; simp
        have HB4 : Hid (Below Bo w3 w4) := Lib.hid (hw4 ▸ (Below.refl Bo w3).setCell (p := ⟨a.g, 10, none⟩) HS3.out.fst.2.1 _)
        have HE4 : Hid (w4.heap[w.heap.size]? = some (.cells #[.int .i64 0, .int .u8 0, .int .i64 0, .int .i64 0, .int .i64 0, .int .i64 0] 51 (0, 0))) := Lib.hid (by
          rw [hw4]; exact ((Kept.refl w3 (fun q => q = a.g)).setCell (p := ⟨a.g, 10, none⟩) (Or.inl rfl) _).blk HE3.out (blk_lt HE3.out) (fun e => by have h1 := HS3.out.fst.1; rw [← e, Hbox.out] at h1; omega))
        clear hw4
        have HGD := Lib.hid (r12done_any Bo a.gt K.A K.n K.c s.G y' w4 (HS3.out.gt (fun h => h)) HS3.out.lo)
        refine HGD.out.mono ?_
        rintro e w5 ⟨A5, n5, c5, rfl, hg5, hgk, hA5⟩
        obtain ⟨φ3, hφ3⟩ : ∃ φ3 : Nat → Nat, φ3 = fun b => if b < w4.heap.size then φ2 b else 9 := ⟨_, rfl⟩
        have hk1 : ∀ b, b < w4.heap.size → φ3 b = φ2 b := fun b hb => by rw [hφ3]; simp only [if_pos hb]
        have hk2 : ∀ b, w4.heap.size ≤ b → φ3 b = 9 := fun b hb => by rw [hφ3]; simp only [if_neg (show ¬ b < w4.heap.size by omega)]
        have hS4 := HS3.out.relabel hk1
        have HS5 := Lib.hid (hS4.setGate (A := A5) (n := n5) (cp := c5) hg5 (fun q e => by
          rcases hA5 q e with h4 | h4
          · exact hS4.fgt.2.2.2 q (h4.symm.trans e)
          · exact hk2 _ h4) hgk)
        have hz45 := hgk.size
        have HB5 : Hid (Below Bo w4 w5) := Lib.hid (hgk.below HS3.out.lo (fun q e => by rw [e]; exact HS3.out.fgt.2.1))
        have hE5 := hgk.blk HE4.out (blk_lt HE4.out) (fun e => by have h1 := HS3.out.fgt.1; rw [← e, Hbox.out] at h1; omega)
        have Hbox3 : Hid (φ3 w.heap.size = 50) := Lib.hid (by rw [hk1 _ (blk_lt HE4.out)]; exact Hbox.out)
        have Hall : Hid (∀ b, b < w.heap.size → φ3 b = φ b) := Lib.hid (fun b hb => by
          have := blk_lt HE4.out
          rw [hk1 b (by omega)]; exact Hlow.out b hb)
        have HE5 := Lib.hid hE5
        have g0 := blk_cell hE5 0
        have g1 := blk_cell hE5 1
        have g2 := blk_cell hE5 2
        have g3 := blk_cell hE5 3
        have g4 := blk_cell hE5 4
        have g5 := blk_cell hE5 5
        have k0 := blk_frozen hE5 0
        have k1 := blk_frozen hE5 1
        have k2 := blk_frozen hE5 2
        have k3 := blk_frozen hE5 3
        have k4 := blk_frozen hE5 4
        have k5 := blk_frozen hE5 5
        clear hg5 hgk hE5 hA5 hφ3 hk1 hk2 hS4
        go_wp2_with fail
        obtain ⟨X, hX⟩ : ∃ X, X = (((((w5.setCell ⟨w.heap.size, 0, none⟩ (.int .i64 0)).setCell ⟨w.heap.size, 1, none⟩ (.int .u8 8)).setCell ⟨w.heap.size, 2, none⟩ (.int .i64 y')).setCell ⟨w.heap.size, 3, none⟩ (.int .i64 0)).setCell ⟨w.heap.size, 4, none⟩ (.int .i64 (s.G.done y').2.1)).setCell ⟨w.heap.size, 5, none⟩ (.int .i64 0) := ⟨_, rfl⟩
        rw [← hX]
        obtain ⟨hXk, r0, r1, r2, r3, r4, r5⟩ := ev_box HE5.out rfl _ _ _ _ _ _ hX
        have hBX : Below Bo w X := by
          have t1 : Below Bo w W0 := HB0.out.mono H.out.lo
          have t2 : Below Bo w5 X := hXk.below HS5.out.lo (fun q e => by rw [e]; exact H.out.lo)
          exact ((((t1.trans HBo1.out).trans HB2.out).trans HB3.out).trans HB4.out).trans (HB5.out.trans t2)
        refine bodyPost_ret (v := .tuple #[.agg #[.int .i64 0, .int .u8 8, .int .i64 y', .int .i64 0, .int .i64 (s.G.done y').2.1, .int .i64 0], .bool true]) (by simp [results, Tryz.results52, go_sem, r0, r1, r2, r3, r4, r5]) rfl ⟨8, y', 0, (s.G.done y').2.1, rfl, ⟨hBX, (HS5.out.junk (hXk.mono fun q e => by rw [e]; exact Hbox3.out)).markOk Hall.out H.out.fr.1⟩, fun _ => ⟨rfl, rfl, rfl, rfl, φ3, _, Hall.out, HS5.out.junk (hXk.mono fun q e => by rw [e]; exact Hbox3.out), Nat.le_succ _⟩⟩
      | some ad =>
        have hnfl : nf = (freeL rs' s.m s.E y').length := HTf.out.len.symm
        subst hnfl
        go_wp2_with (at_builtin; refine wpList_pushN rfl _ _ 25 rfl 3 i0 _ 1 8 Tryz.underlying25 hi0 hz0 hz1 hz2 rfl (by decide) (fun _ => rfl) one_natC Bo Al nl cl s.line rfl HL2.out hb2z (freeL rs' s.m s.E y') ad cf rfl (HTf.out.cells_ (fun _ => rfl)) (by simp only [maxLen]; have := Hfl.out; omega) (by have := Hfl.out; omega) ?_)
        intro A3 c3 w3 h1 h2 h3
        obtain ⟨n3, hn3⟩ : ∃ n3, n3 = nl + (freeL rs' s.m s.E y').length := ⟨_, rfl⟩
        rw [← hn3] at h1 ⊢
        have Hn3 := Lib.hid hn3
        clear hn3
        have hA3 : At φ2 10 A3 := fun q e => by
          rcases h3 q e with ⟨c', e1, e2⟩ | h4
          · rw [e2]; exact HAl.out c' e1
          · exact Hg2.out _ h4
        have HH3 := Lib.hid (HS2'.out.kept (I := fun j => j = 10) (h2.mono fun q ⟨ad', e, e2⟩ => by rw [e2]; exact HAl.out ad' e) (by omega) (by omega) (fun _ h => h.elim))
        have HB3 : Hid (Below Bo w2 w3) := Lib.hid (h2.below hb2z (fun q ⟨ad', e, e2⟩ => by rw [e2]; exact (HL2.out.lt e).1))
        have HE3 : Hid (w3.heap[w.heap.size]? = some (.cells #[.int .i64 0, .int .u8 0, .int .i64 0, .int .i64 0, .int .i64 0, .int .i64 0] 51 (0, 0))) := Lib.hid (h2.blk HE2.out (blk_lt HE2.out) (fun ⟨ad', e, e2⟩ => by
          have := HAl.out ad' e
          rw [← e2, Hbox.out] at this; omega))
        have HS3 := Lib.hid (HH3.out.setLine (fun i h => h) h1 hA3)
        have hst3 := HH3.out.st (by omega)
        unfold rstoryC SL.v at hst3
        simp only at hst3
        clear d10 f10 e9
        have d10 : w3.cell? ⟨a.g, 10, none⟩ = some (.slice Al nl cl) := blk_cell hst3 10
        have f10 : w3.frozen? ⟨a.g, 10, none⟩ = false := blk_frozen hst3 10
        have e9 : w3.cell? ⟨a.g, 9, none⟩ = some (.pointer (some ⟨a.gt, 0, none⟩)) := blk_cell hst3 9
        clear h1 h2 h3 hA3 HH3 hst3 HL2 HTf
        go_wp2_with fail
        obtain ⟨w4, hw4⟩ : ∃ w4, w4 = w3.setCell ⟨a.g, 10, none⟩ (.slice A3 n3 c3) := ⟨_, rfl⟩
        rw [← hw4] at HS3 ⊢
        have hz34 : w4.heap.size = w3.heap.size := by rw [hw4]; simp
        have HB4 : Hid (Below Bo w3 w4) := Lib.hid (hw4 ▸ (Below.refl Bo w3).setCell (p := ⟨a.g, 10, none⟩) HS3.out.fst.2.1 _)
        have HE4 : Hid (w4.heap[w.heap.size]? = some (.cells #[.int .i64 0, .int .u8 0, .int .i64 0, .int .i64 0, .int .i64 0, .int .i64 0] 51 (0, 0))) := Lib.hid (by
          rw [hw4]; exact ((Kept.refl w3 (fun q => q = a.g)).setCell (p := ⟨a.g, 10, none⟩) (Or.inl rfl) _).blk HE3.out (blk_lt HE3.out) (fun e => by have h1 := HS3.out.fst.1; rw [← e, Hbox.out] at h1; omega))
        clear hw4
        have HGD := Lib.hid (r12done_any Bo a.gt K.A K.n K.c s.G y' w4 (HS3.out.gt (fun h => h)) HS3.out.lo)
        refine HGD.out.mono ?_
        rintro e w5 ⟨A5, n5, c5, rfl, hg5, hgk, hA5⟩
        obtain ⟨φ3, hφ3⟩ : ∃ φ3 : Nat → Nat, φ3 = fun b => if b < w4.heap.size then φ2 b else 9 := ⟨_, rfl⟩
        have hk1 : ∀ b, b < w4.heap.size → φ3 b = φ2 b := fun b hb => by rw [hφ3]; simp only [if_pos hb]
        have hk2 : ∀ b, w4.heap.size ≤ b → φ3 b = 9 := fun b hb => by rw [hφ3]; simp only [if_neg (show ¬ b < w4.heap.size by omega)]
        have hS4 := HS3.out.relabel hk1
        have HS5 := Lib.hid (hS4.setGate (A := A5) (n := n5) (cp := c5) hg5 (fun q e => by
          rcases hA5 q e with h4 | h4
          · exact hS4.fgt.2.2.2 q (h4.symm.trans e)
          · exact hk2 _ h4) hgk)
        have hz45 := hgk.size
        have HB5 : Hid (Below Bo w4 w5) := Lib.hid (hgk.below HS3.out.lo (fun q e => by rw [e]; exact HS3.out.fgt.2.1))
        have hE5 := hgk.blk HE4.out (blk_lt HE4.out) (fun e => by have h1 := HS3.out.fgt.1; rw [← e, Hbox.out] at h1; omega)
        have Hbox3 : Hid (φ3 w.heap.size = 50) := Lib.hid (by rw [hk1 _ (blk_lt HE4.out)]; exact Hbox.out)
        have Hall : Hid (∀ b, b < w.heap.size → φ3 b = φ b) := Lib.hid (fun b hb => by
          have := blk_lt HE4.out
          rw [hk1 b (by omega)]; exact Hlow.out b hb)
        have HE5 := Lib.hid hE5
        have g0 := blk_cell hE5 0
        have g1 := blk_cell hE5 1
        have g2 := blk_cell hE5 2
        have g3 := blk_cell hE5 3
        have g4 := blk_cell hE5 4
        have g5 := blk_cell hE5 5
        have k0 := blk_frozen hE5 0
        have k1 := blk_frozen hE5 1
        have k2 := blk_frozen hE5 2
        have k3 := blk_frozen hE5 3
        have k4 := blk_frozen hE5 4
        have k5 := blk_frozen hE5 5
        clear hg5 hgk hE5 hA5 hφ3 hk1 hk2 hS4
        go_wp2_with fail
        obtain ⟨X, hX⟩ : ∃ X, X = (((((w5.setCell ⟨w.heap.size, 0, none⟩ (.int .i64 0)).setCell ⟨w.heap.size, 1, none⟩ (.int .u8 8)).setCell ⟨w.heap.size, 2, none⟩ (.int .i64 y')).setCell ⟨w.heap.size, 3, none⟩ (.int .i64 0)).setCell ⟨w.heap.size, 4, none⟩ (.int .i64 (s.G.done y').2.1)).setCell ⟨w.heap.size, 5, none⟩ (.int .i64 0) := ⟨_, rfl⟩
        rw [← hX]
        obtain ⟨hXk, r0, r1, r2, r3, r4, r5⟩ := ev_box HE5.out rfl _ _ _ _ _ _ hX
        have hBX : Below Bo w X := by
          have t1 : Below Bo w W0 := HB0.out.mono H.out.lo
          have t2 : Below Bo w5 X := hXk.below HS5.out.lo (fun q e => by rw [e]; exact H.out.lo)
          exact ((((t1.trans HBo1.out).trans HB2.out).trans HB3.out).trans HB4.out).trans (HB5.out.trans t2)
        refine bodyPost_ret (v := .tuple #[.agg #[.int .i64 0, .int .u8 8, .int .i64 y', .int .i64 0, .int .i64 (s.G.done y').2.1, .int .i64 0], .bool true]) (by simp [results, Tryz.results52, go_sem, r0, r1, r2, r3, r4, r5]) rfl ⟨8, y', 0, (s.G.done y').2.1, rfl, ⟨hBX, (HS5.out.junk (hXk.mono fun q e => by rw [e]; exact Hbox3.out)).markOk Hall.out H.out.fr.1⟩, fun _ => ⟨rfl, rfl, rfl, rfl, φ3, _, Hall.out, HS5.out.junk (hXk.mono fun q e => by rw [e]; exact Hbox3.out), Nat.le_succ _⟩⟩
    · obtain ⟨A1, n1, c1, hA1, hn1, hcc⟩ : ∃ (A1 : Option Addr) (n1 c1 : Nat), A1 = some ⟨b, off + 1, none⟩ ∧ n1 = r.length ∧ c1 = cg - 1 := ⟨_, _, _, rfl, rfl, rfl⟩
      have HT1 : Hid (TkAt natC 1 3 w Bo A1 n1 c1 r) := Lib.hid (by rw [hA1, hn1, hcc]; have := Hpop.out; rw [if_neg hc1] at this; simpa [Addr.add_lit] using this)
      have HA1 : Hid (At φ0 11 A1) := Lib.hid (by rw [hA1]; intro q e; injection e with e; subst e; have := HA.out ⟨b, off, none⟩ rfl; exact this)
      have HX := Lib.hid (And.intro hA1 (And.intro hn1 hcc))
      clear hA1 hn1 hcc
      go_wp2_with fail
      rw [← HX.out.1, ← HX.out.2.1, ← HX.out.2.2]
      as_aux_lemma =>
      rw [← HW0.out]
      obtain ⟨W1, hW1⟩ : ∃ W1, W1 = W0.setCell ⟨a.g, 11, none⟩ (.slice A1 n1 c1) := ⟨_, rfl⟩
      have hS1 : RsAt W1 φ0 Bo c rs rs' by_ a { line := ⟨Al, nl, cl⟩, gone := ⟨A1, n1, c1⟩, QA := QA, LA := LA, C := C, cs := cs, T := T, xs := xs, K := K, bd := bd } { s with gone := r } := hW1 ▸ RsH.setGone HS0.out (fun _ h => h.elim) (HT1.out.below HB0.out) HA1.out
      have HBo1 : Hid (Below Bo W0 W1) := Lib.hid (hW1 ▸ (Below.refl Bo W0).setCell (p := ⟨a.g, 11, none⟩) HS0.out.fst.2.1 _)
      have HE1 : Hid (W1.heap[w.heap.size]? = some (.cells #[.int .i64 0, .int .u8 0, .int .i64 0, .int .i64 0, .int .i64 0, .int .i64 0] 51 (0, 0))) := Lib.hid (by
        rw [hW1]; exact ((Kept.refl W0 (fun q => q = a.g)).setCell (p := ⟨a.g, 11, none⟩) (Or.inl rfl) _).blk HE0.out (blk_lt HE0.out) (by have := H.out.fst.2.2; omega))
      rw [← hW1]
      obtain ⟨φ1, hφ1⟩ : ∃ φ1 : Nat → Nat, φ1 = fun b => if b < W1.heap.size then φ0 b else 8 := ⟨_, rfl⟩
      have hf1 : ∀ b, b < W1.heap.size → φ1 b = φ0 b := fun b hb => by rw [hφ1]; simp only [if_pos hb]
      have hf2 : ∀ b, W1.heap.size ≤ b → φ1 b = 8 := fun b hb => by rw [hφ1]; simp only [if_neg (show ¬ b < W1.heap.size by omega)]
      have hS1' := hS1.relabel hf1
      obtain ⟨tb, ti, tc⟩ := hS1'.tb (fun h => h)
      simp only at tb ti tc
      obtain ⟨i, o, hLi, hon, howt, hpl⟩ := ti.open_ HBz.out.1 HBz.out.2.1 HBz.out.2.2.1 HBz.out.2.2.2
      obtain ⟨z, hz, hzo⟩ : ∃ z, xs[i]? = some z ∧ z.o = o := by
        rw [List.getElem?_map] at hLi
        cases hxi : xs[i]? with
        | none => rw [hxi] at hLi; cases hLi
        | some z => rw [hxi] at hLi; injection hLi with hLi; exact ⟨z, rfl, hLi⟩
      subst hzo
      have hTn : T.n ≤ 65537 := by
        have h1 := ti.len
        have h2 := tb.tk.len
        have h3 := HM.out
        rw [List.length_map] at h1
        have h4 : TS.m { s with gone := r } = s.m := rfl
        omega
      have Hd := Lib.hid (r11done_any Bo a.t T.A T.n T.c xs y' i z W1 tb hS1'.lo hTn hpl hz howt (ti.wt_len HM.out))
      refine Hd.out.mono ?_
      rintro e w2 ⟨Af, nf, cf, zs, rfl, hTf, hR, hzs, hkT, hdis, hprov⟩
      have hs2 := hkT.size
      have HS2 := Lib.hid (hS1'.setTab (E := E1 s.E y') hR ⟨by rw [hzs]; exact ti.done2 hLi hon, close_done HBz.out.2.2.2 tc⟩ (fun q hq => by
        rcases hprov q hq with h1 | h1
        · have := hS1'.ftb q h1
          exact ⟨this.1, this.2.1, by have := this.2.2; omega⟩
        · exact ⟨hf2 q h1, Nat.le_trans hS1'.lo h1, hR.has_lt hq⟩) (hkT.mono (fun q hq => Or.inr (Or.inl hq))))
      have hout : outO (xs.map O2.o) y' = freeL rs' s.m s.E y' := ti.out tc y'
      rw [hout] at hTf
      have hsz01 : w.heap.size < W1.heap.size := blk_lt HE1.out
      have hbox : φ1 w.heap.size = 50 := by rw [hf1 _ hsz01]; exact Hφ2.out _ (Nat.le_refl _)
      have HB2 : Hid (Below Bo W1 w2) := Lib.hid (hkT.below hS1'.lo (fun q ⟨ad, ea, e⟩ => by rw [e]; exact (tb.tk.lt ea).1))
      have HE2 : Hid (w2.heap[w.heap.size]? = some (.cells #[.int .i64 0, .int .u8 0, .int .i64 0, .int .i64 0, .int .i64 0, .int .i64 0] 51 (0, 0))) := Lib.hid (hkT.blk HE1.out (blk_lt HE1.out) (fun ⟨ad, ea, e⟩ => by
        have h8 := (hS1'.ftb ad.block (Or.inr (Or.inl ⟨ad, ea, rfl⟩))).1
        rw [← e, hbox] at h8; omega))
      obtain ⟨φ2, hφ2⟩ : ∃ φ2 : Nat → Nat, φ2 = fun b => if b < w2.heap.size then φ1 b else 10 := ⟨_, rfl⟩
      have hg1 : ∀ b, b < w2.heap.size → φ2 b = φ1 b := fun b hb => by rw [hφ2]; simp only [if_pos hb]
      have hg2 : ∀ b, w2.heap.size ≤ b → φ2 b = 10 := fun b hb => by rw [hφ2]; simp only [if_neg (show ¬ b < w2.heap.size by omega)]
      have HS2' := Lib.hid (HS2.out.relabel hg1)
      have HTf : Hid (TkAt natC 1 3 w2 W1.heap.size Af nf cf (freeL rs' s.m s.E y')) := Lib.hid hTf
      have hst2 := HS2.out.st (fun h => h)
      unfold rstoryC SL.v at hst2
      simp only at hst2
      have d10 : w2.cell? ⟨a.g, 10, none⟩ = some (.slice Al nl cl) := blk_cell hst2 10
      have f10 : w2.frozen? ⟨a.g, 10, none⟩ = false := blk_frozen hst2 10
      have e9 : w2.cell? ⟨a.g, 9, none⟩ = some (.pointer (some ⟨a.gt, 0, none⟩)) := blk_cell hst2 9
      have Hst2 := Lib.hid hst2
      have HL2 := Lib.hid (HS2'.out.line (fun h => h)).1
      have HAl := Lib.hid (HS2'.out.line (fun h => h)).2
      have hfl : (freeL rs' s.m s.E y').length ≤ 65537 := by
        have := List.length_filter_le (fun a => decide (1 ≤ a) && !s.E a && decide (depL rs' s.E a = [y'])) (List.range (s.m + 1))
        simp at this; have := HM.out; unfold freeL; omega
      have Hfl := Lib.hid hfl
      have hnl : nl ≤ 65537 := by have := HI.out.line_len; have := HM.out; have := (h_line_len : Hid (s.line.length = nl)).out; omega
      have hb2z : Bo ≤ w2.heap.size := HS2'.out.lo
      have HszT := Lib.hid hs2
      clear hst2 hTf hout hzs hkT hdis hprov hR tb ti tc hfl hS1 hS1' hs2 hLi hz howt hpl
      have Hbox : Hid (φ2 w.heap.size = 50) := Lib.hid (by rw [hg1 _ (blk_lt HE2.out)]; exact hbox)
      have hs12 : W1.heap.size ≤ w2.heap.size := HszT.out
      have Hlow : Hid (∀ b, b < w.heap.size → φ2 b = φ b) := Lib.hid (fun b hb => by rw [hg1 b (by omega), hf1 b (by omega)]; exact Hφ1.out b hb)
      have Hg2 := Lib.hid hg2
      clear hφ1 hf1 hf2 hφ2 hg1 hg2 hbox hW1
      cases Af with
      | none =>
        have hz : nf = 0 ∧ cf = 0 := HTf.out.none_
        have hfr : freeL rs' s.m s.E y' = [] := List.eq_nil_of_length_eq_zero (by rw [HTf.out.len]; exact hz.1)
        obtain ⟨A3, n3, c3, hA3e, hn3e, hc3e⟩ : ∃ (A3 : Option Addr) (n3 c3 : Nat), A3 = Al ∧ n3 = nl ∧ c3 = cl := ⟨_, _, _, rfl, rfl, rfl⟩
        obtain ⟨w3, hw3⟩ : ∃ w3, w3 = w2 := ⟨_, rfl⟩
        have HS3 := Lib.hid (show RsAt (w3.setCell ⟨a.g, 10, none⟩ (.slice A3 n3 c3)) φ2 Bo c rs rs' by_ a _ _ by rw [hw3, hA3e, hn3e, hc3e]; exact HS2'.out.setLine (fun _ h => h.elim) (l := s.line ++ freeL rs' s.m s.E y') (by rw [hfr, List.append_nil]; exact HL2.out) HAl.out)
        have HB3 : Hid (Below Bo w2 w3) := Lib.hid (hw3 ▸ Below.refl _ _)
        have HE3 : Hid (w3.heap[w.heap.size]? = some (.cells #[.int .i64 0, .int .u8 0, .int .i64 0, .int .i64 0, .int .i64 0, .int .i64 0] 51 (0, 0))) := Lib.hid (hw3 ▸ HE2.out)
        rw [hz.1, hz.2]
        have HQ := Lib.hid (And.intro hA3e (And.intro hn3e (And.intro hc3e hw3)))
        clear hz hfr hA3e hn3e hc3e hw3
        go_wp2_with (at_builtin; refine wpList_push0 rfl _ _ 25 rfl 3 i0 1 Tryz.underlying25 hi0 Bo Al nl cl s.line rfl HL2.out rfl ?_)
        rw [← HQ.out.1, ← HQ.out.2.1, ← HQ.out.2.2.1, ← HQ.out.2.2.2]
        rw [← HQ.out.1, ← HQ.out.2.1, ← HQ.out.2.2.1, ← HQ.out.2.2.2] at d10
        rw [← HQ.out.2.2.2] at e9 f10
        go_wp2_with fail
        obtain ⟨w4, hw4⟩ : ∃ w4, w4 = w3.setCell ⟨a.g, 10, none⟩ (.slice A3 n3 c3) := ⟨_, rfl⟩
        rw [← hw4] at HS3 ⊢
        have hz34 : w4.heap.size = w3.heap.size := by rw [hw4]; simp
        have HB4 : Hid (Below Bo w3 w4) := Lib.hid (hw4 ▸ (Below.refl Bo w3).setCell (p := ⟨a.g, 10, none⟩) HS3.out.fst.2.1 _)
        have HE4 : Hid (w4.heap[w.heap.size]? = some (.cells #[.int .i64 0, .int .u8 0, .int .i64 0, .int .i64 0, .int .i64 0, .int .i64 0] 51 (0, 0))) := Lib.hid (by
          rw [hw4]; exact ((Kept.refl w3 (fun q => q = a.g)).setCell (p := ⟨a.g, 10, none⟩) (Or.inl rfl) _).blk HE3.out (blk_lt HE3.out) (fun e => by have h1 := HS3.out.fst.1; rw [← e, Hbox.out] at h1; omega))
        clear hw4
        have HGD := Lib.hid (r12done_any Bo a.gt K.A K.n K.c s.G y' w4 (HS3.out.gt (fun h => h)) HS3.out.lo)
        refine HGD.out.mono ?_
        rintro e w5 ⟨A5, n5, c5, rfl, hg5, hgk, hA5⟩
        obtain ⟨φ3, hφ3⟩ : ∃ φ3 : Nat → Nat, φ3 = fun b => if b < w4.heap.size then φ2 b else 9 := ⟨_, rfl⟩
        have hk1 : ∀ b, b < w4.heap.size → φ3 b = φ2 b := fun b hb => by rw [hφ3]; simp only [if_pos hb]
        have hk2 : ∀ b, w4.heap.size ≤ b → φ3 b = 9 := fun b hb => by rw [hφ3]; simp only [if_neg (show ¬ b < w4.heap.size by omega)]
        have hS4 := HS3.out.relabel hk1
        have HS5 := Lib.hid (hS4.setGate (A := A5) (n := n5) (cp := c5) hg5 (fun q e => by
          rcases hA5 q e with h4 | h4
          · exact hS4.fgt.2.2.2 q (h4.symm.trans e)
          · exact hk2 _ h4) hgk)
        have hz45 := hgk.size
        have HB5 : Hid (Below Bo w4 w5) := Lib.hid (hgk.below HS3.out.lo (fun q e => by rw [e]; exact HS3.out.fgt.2.1))
        have hE5 := hgk.blk HE4.out (blk_lt HE4.out) (fun e => by have h1 := HS3.out.fgt.1; rw [← e, Hbox.out] at h1; omega)
        have Hbox3 : Hid (φ3 w.heap.size = 50) := Lib.hid (by rw [hk1 _ (blk_lt HE4.out)]; exact Hbox.out)
        have Hall : Hid (∀ b, b < w.heap.size → φ3 b = φ b) := Lib.hid (fun b hb => by
          have := blk_lt HE4.out
          rw [hk1 b (by omega)]; exact Hlow.out b hb)
        have HE5 := Lib.hid hE5
        have g0 := blk_cell hE5 0
        have g1 := blk_cell hE5 1
        have g2 := blk_cell hE5 2
        have g3 := blk_cell hE5 3
        have g4 := blk_cell hE5 4
        have g5 := blk_cell hE5 5
        have k0 := blk_frozen hE5 0
        have k1 := blk_frozen hE5 1
        have k2 := blk_frozen hE5 2
        have k3 := blk_frozen hE5 3
        have k4 := blk_frozen hE5 4
        have k5 := blk_frozen hE5 5
        clear hg5 hgk hE5 hA5 hφ3 hk1 hk2 hS4
        go_wp2_with fail
        obtain ⟨X, hX⟩ : ∃ X, X = (((((w5.setCell ⟨w.heap.size, 0, none⟩ (.int .i64 0)).setCell ⟨w.heap.size, 1, none⟩ (.int .u8 8)).setCell ⟨w.heap.size, 2, none⟩ (.int .i64 y')).setCell ⟨w.heap.size, 3, none⟩ (.int .i64 0)).setCell ⟨w.heap.size, 4, none⟩ (.int .i64 (s.G.done y').2.1)).setCell ⟨w.heap.size, 5, none⟩ (.int .i64 0) := ⟨_, rfl⟩
        rw [← hX]
        obtain ⟨hXk, r0, r1, r2, r3, r4, r5⟩ := ev_box HE5.out rfl _ _ _ _ _ _ hX
        have hBX : Below Bo w X := by
          have t1 : Below Bo w W0 := HB0.out.mono H.out.lo
          have t2 : Below Bo w5 X := hXk.below HS5.out.lo (fun q e => by rw [e]; exact H.out.lo)
          exact ((((t1.trans HBo1.out).trans HB2.out).trans HB3.out).trans HB4.out).trans (HB5.out.trans t2)
        refine bodyPost_ret (v := .tuple #[.agg #[.int .i64 0, .int .u8 8, .int .i64 y', .int .i64 0, .int .i64 (s.G.done y').2.1, .int .i64 0], .bool true]) (by simp [results, Tryz.results52, go_sem, r0, r1, r2, r3, r4, r5]) rfl ⟨8, y', 0, (s.G.done y').2.1, rfl, ⟨hBX, (HS5.out.junk (hXk.mono fun q e => by rw [e]; exact Hbox3.out)).markOk Hall.out H.out.fr.1⟩, fun _ => ⟨rfl, rfl, rfl, rfl, φ3, _, Hall.out, HS5.out.junk (hXk.mono fun q e => by rw [e]; exact Hbox3.out), Nat.le_succ _⟩⟩
      | some ad =>
        have hnfl : nf = (freeL rs' s.m s.E y').length := HTf.out.len.symm
        subst hnfl
        go_wp2_with (at_builtin; refine wpList_pushN rfl _ _ 25 rfl 3 i0 _ 1 8 Tryz.underlying25 hi0 hz0 hz1 hz2 rfl (by decide) (fun _ => rfl) one_natC Bo Al nl cl s.line rfl HL2.out hb2z (freeL rs' s.m s.E y') ad cf rfl (HTf.out.cells_ (fun _ => rfl)) (by simp only [maxLen]; have := Hfl.out; omega) (by have := Hfl.out; omega) ?_)
        intro A3 c3 w3 h1 h2 h3
        obtain ⟨n3, hn3⟩ : ∃ n3, n3 = nl + (freeL rs' s.m s.E y').length := ⟨_, rfl⟩
        rw [← hn3] at h1 ⊢
        have Hn3 := Lib.hid hn3
        clear hn3
        have hA3 : At φ2 10 A3 := fun q e => by
          rcases h3 q e with ⟨c', e1, e2⟩ | h4
          · rw [e2]; exact HAl.out c' e1
          · exact Hg2.out _ h4
        have HH3 := Lib.hid (HS2'.out.kept (I := fun j => j = 10) (h2.mono fun q ⟨ad', e, e2⟩ => by rw [e2]; exact HAl.out ad' e) (by omega) (by omega) (fun _ h => h.elim))
        have HB3 : Hid (Below Bo w2 w3) := Lib.hid (h2.below hb2z (fun q ⟨ad', e, e2⟩ => by rw [e2]; exact (HL2.out.lt e).1))
        have HE3 : Hid (w3.heap[w.heap.size]? = some (.cells #[.int .i64 0, .int .u8 0, .int .i64 0, .int .i64 0, .int .i64 0, .int .i64 0] 51 (0, 0))) := Lib.hid (h2.blk HE2.out (blk_lt HE2.out) (fun ⟨ad', e, e2⟩ => by
          have := HAl.out ad' e
          rw [← e2, Hbox.out] at this; omega))
        have HS3 := Lib.hid (HH3.out.setLine (fun i h => h) h1 hA3)
        have hst3 := HH3.out.st (by omega)
        unfold rstoryC SL.v at hst3
        simp only at hst3
        clear d10 f10 e9
        have d10 : w3.cell? ⟨a.g, 10, none⟩ = some (.slice Al nl cl) := blk_cell hst3 10
        have f10 : w3.frozen? ⟨a.g, 10, none⟩ = false := blk_frozen hst3 10
        have e9 : w3.cell? ⟨a.g, 9, none⟩ = some (.pointer (some ⟨a.gt, 0, none⟩)) := blk_cell hst3 9
        clear h1 h2 h3 hA3 HH3 hst3 HL2 HTf
        go_wp2_with fail
        obtain ⟨w4, hw4⟩ : ∃ w4, w4 = w3.setCell ⟨a.g, 10, none⟩ (.slice A3 n3 c3) := ⟨_, rfl⟩
        rw [← hw4] at HS3 ⊢
        have hz34 : w4.heap.size = w3.heap.size := by rw [hw4]; simp
        have HB4 : Hid (Below Bo w3 w4) := Lib.hid (hw4 ▸ (Below.refl Bo w3).setCell (p := ⟨a.g, 10, none⟩) HS3.out.fst.2.1 _)
        have HE4 : Hid (w4.heap[w.heap.size]? = some (.cells #[.int .i64 0, .int .u8 0, .int .i64 0, .int .i64 0, .int .i64 0, .int .i64 0] 51 (0, 0))) := Lib.hid (by
          rw [hw4]; exact ((Kept.refl w3 (fun q => q = a.g)).setCell (p := ⟨a.g, 10, none⟩) (Or.inl rfl) _).blk HE3.out (blk_lt HE3.out) (fun e => by have h1 := HS3.out.fst.1; rw [← e, Hbox.out] at h1; omega))
        clear hw4
        have HGD := Lib.hid (r12done_any Bo a.gt K.A K.n K.c s.G y' w4 (HS3.out.gt (fun h => h)) HS3.out.lo)
        refine HGD.out.mono ?_
        rintro e w5 ⟨A5, n5, c5, rfl, hg5, hgk, hA5⟩
        obtain ⟨φ3, hφ3⟩ : ∃ φ3 : Nat → Nat, φ3 = fun b => if b < w4.heap.size then φ2 b else 9 := ⟨_, rfl⟩
        have hk1 : ∀ b, b < w4.heap.size → φ3 b = φ2 b := fun b hb => by rw [hφ3]; simp only [if_pos hb]
        have hk2 : ∀ b, w4.heap.size ≤ b → φ3 b = 9 := fun b hb => by rw [hφ3]; simp only [if_neg (show ¬ b < w4.heap.size by omega)]
        have hS4 := HS3.out.relabel hk1
        have HS5 := Lib.hid (hS4.setGate (A := A5) (n := n5) (cp := c5) hg5 (fun q e => by
          rcases hA5 q e with h4 | h4
          · exact hS4.fgt.2.2.2 q (h4.symm.trans e)
          · exact hk2 _ h4) hgk)
        have hz45 := hgk.size
        have HB5 : Hid (Below Bo w4 w5) := Lib.hid (hgk.below HS3.out.lo (fun q e => by rw [e]; exact HS3.out.fgt.2.1))
        have hE5 := hgk.blk HE4.out (blk_lt HE4.out) (fun e => by have h1 := HS3.out.fgt.1; rw [← e, Hbox.out] at h1; omega)
        have Hbox3 : Hid (φ3 w.heap.size = 50) := Lib.hid (by rw [hk1 _ (blk_lt HE4.out)]; exact Hbox.out)
        have Hall : Hid (∀ b, b < w.heap.size → φ3 b = φ b) := Lib.hid (fun b hb => by
          have := blk_lt HE4.out
          rw [hk1 b (by omega)]; exact Hlow.out b hb)
        have HE5 := Lib.hid hE5
        have g0 := blk_cell hE5 0
        have g1 := blk_cell hE5 1
        have g2 := blk_cell hE5 2
        have g3 := blk_cell hE5 3
        have g4 := blk_cell hE5 4
        have g5 := blk_cell hE5 5
        have k0 := blk_frozen hE5 0
        have k1 := blk_frozen hE5 1
        have k2 := blk_frozen hE5 2
        have k3 := blk_frozen hE5 3
        have k4 := blk_frozen hE5 4
        have k5 := blk_frozen hE5 5
        clear hg5 hgk hE5 hA5 hφ3 hk1 hk2 hS4
        go_wp2_with fail
        obtain ⟨X, hX⟩ : ∃ X, X = (((((w5.setCell ⟨w.heap.size, 0, none⟩ (.int .i64 0)).setCell ⟨w.heap.size, 1, none⟩ (.int .u8 8)).setCell ⟨w.heap.size, 2, none⟩ (.int .i64 y')).setCell ⟨w.heap.size, 3, none⟩ (.int .i64 0)).setCell ⟨w.heap.size, 4, none⟩ (.int .i64 (s.G.done y').2.1)).setCell ⟨w.heap.size, 5, none⟩ (.int .i64 0) := ⟨_, rfl⟩
        rw [← hX]
        obtain ⟨hXk, r0, r1, r2, r3, r4, r5⟩ := ev_box HE5.out rfl _ _ _ _ _ _ hX
        have hBX : Below Bo w X := by
          have t1 : Below Bo w W0 := HB0.out.mono H.out.lo
          have t2 : Below Bo w5 X := hXk.below HS5.out.lo (fun q e => by rw [e]; exact H.out.lo)
          exact ((((t1.trans HBo1.out).trans HB2.out).trans HB3.out).trans HB4.out).trans (HB5.out.trans t2)
        refine bodyPost_ret (v := .tuple #[.agg #[.int .i64 0, .int .u8 8, .int .i64 y', .int .i64 0, .int .i64 (s.G.done y').2.1, .int .i64 0], .bool true]) (by simp [results, Tryz.results52, go_sem, r0, r1, r2, r3, r4, r5]) rfl ⟨8, y', 0, (s.G.done y').2.1, rfl, ⟨hBX, (HS5.out.junk (hXk.mono fun q e => by rw [e]; exact Hbox3.out)).markOk Hall.out H.out.fr.1⟩, fun _ => ⟨rfl, rfl, rfl, rfl, φ3, _, Hall.out, HS5.out.junk (hXk.mono fun q e => by rw [e]; exact Hbox3.out), Nat.le_succ _⟩⟩
end Go.Proofs.YtcjmppjppmiggaaGreat

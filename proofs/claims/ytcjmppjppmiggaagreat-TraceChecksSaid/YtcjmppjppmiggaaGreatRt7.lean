/- The document's table of dependencies at memory: Done. -/
import Derived.Test.YtcjmppjppmiggaaGreatMA
namespace Go.Proofs.YtcjmppjppmiggaaGreat
open Go.RowKit
set_option linter.unusedVariables false
set_option linter.unusedSimpArgs false

set_option maxRecDepth 100000
def R11Done (w : World) (Bo g : Nat) (A : Option Addr) (n c : Nat) (xs : List O2) (N : Nat) (L : List O1) (e : Ending) (w' : World) : Prop :=
  ∃ A' n' c' zs, e = .returned (.tuple #[.slice A' n' c', .int .i64 0]) ∧ TkAt nC 1 3 w' w.heap.size A' n' c' (outO (xs.map O2.o) N) ∧ RTAt w' Bo g A n c zs ∧ zs.map O2.o = L ∧ Kept w w' (fun b => ∃ a, A = some a ∧ b = a.block) ∧
    (∀ z ∈ zs, ∀ a a', z.T.A = some a → A' = some a' → a.block ≠ a'.block) ∧ ∀ q, hasR g A zs q → hasR g A xs q ∨ w.heap.size ≤ q
theorem RTAt.c0 {w : World} {Bo g b off n c i : Nat} {xs : List O2} {x : O2} (h : RTAt w Bo g (some ⟨b, off, none⟩) n c xs) (hx : xs[i]? = some x) : w.cell? ⟨b, off + i * 4, none⟩ = some (.int .i64 x.o.num) := by
  have hi : i < n := by rw [← h.tk.len]; exact (List.getElem?_eq_some_iff.1 hx).1
  obtain ⟨b2, off2, y, e, -, hy, y0, -, -, -⟩ := h.cell4 hi
  injection e with e; injection e with e1 e2; subst e1 e2
  rw [hx] at hy; injection hy with hy; subst hy; exact y0
theorem RTAt.c2 {w : World} {Bo g b off n c i : Nat} {xs : List O2} {x : O2} (h : RTAt w Bo g (some ⟨b, off, none⟩) n c xs) (hx : xs[i]? = some x) : w.cell? ⟨b, off + i * 4 + 2, none⟩ = some x.T.v := by
  have hi : i < n := by rw [← h.tk.len]; exact (List.getElem?_eq_some_iff.1 hx).1
  obtain ⟨b2, off2, y, e, -, hy, -, -, y2, -⟩ := h.cell4 hi
  injection e with e; injection e with e1 e2; subst e1 e2
  rw [hx] at hy; injection hy with hy; subst hy; exact y2
theorem RTAt.frz {w : World} {Bo g b off n c : Nat} {xs : List O2} (h : RTAt w Bo g (some ⟨b, off, none⟩) n c xs) (p : Nat) : w.frozen? ⟨b, p, none⟩ = false := by
  obtain ⟨cs, hcs⟩ := h.tk.ty rfl
  exact blk_frozen hcs _
set_option maxHeartbeats 8000000 in
theorem r11done_any (Bo g : Nat) (A : Option Addr) (n c : Nat) (xs : List O2) (N i0 : Nat) (x0 : O2) (w : World) (h : RTAt w Bo g A n c xs) (hBo : Bo ≤ w.heap.size) (hn : n ≤ 65537) (hp : placeI (xs.map O2.o) N = some i0) (hx0 : xs[i0]? = some x0) (hw0 : x0.o.wt = []) (hwt : ∀ o ∈ xs.map O2.o, o.wt.length ≤ 65536) :
    Calls Tryz.prog 71 #[.pointer (some ⟨g, 0, none⟩), .int .i64 N] w (R11Done w Bo g A n c xs N (((xs.map O2.o).set i0 (endO x0.o)).map (fltO N))) := by
  obtain ⟨t0, hi, hz0, hz1, hz2⟩ := info_parts info_int
  have hlen := h.tk.len
  have hi0 : i0 < n := by rw [← hlen]; exact (List.getElem?_eq_some_iff.1 hx0).1
  have Hpl := Lib.hid (r11place_any Bo g A n c xs N w h hn)
  rw [hp] at Hpl
  obtain ⟨b, off, x, rfl, hbl, hx, y0, y1, y2, y3⟩ := h.cell4 (i := i0) hi0
  obtain rfl : x = x0 := by rw [hx0] at hx; injection hx with hx; exact hx.symm
  have hel := h.el x (List.mem_of_getElem? hx)
  have hT0 : x.T.n = 0 := by rw [← hel.2.len, hw0]; rfl
  obtain ⟨ys, hys⟩ : ∃ ys, ys = xs.set i0 { x with o := endO x.o } := ⟨_, rfl⟩
  obtain ⟨hR1, hk1⟩ := h.setO (x' := { x with o := endO x.o }) (j := 3) (u := .bool true) hx (by omega) (by simp [O2.cells, endO]) hel.1 hel.2
  rw [← hys] at hR1
  have hym : ys.map O2.o = (xs.map O2.o).set i0 (endO x.o) := by rw [hys, List.map_set]
  have hyl : ys.length = n := by rw [hys, List.length_set]; exact hlen
  have hout : outO (ys.map O2.o) N = outO (xs.map O2.o) N := by
    rw [hym]; exact outO_end (by rw [List.getElem?_map, hx]; rfl)
  have hwy : ∀ o ∈ ys.map O2.o, o.wt.length ≤ 65536 := by
    rw [hym]
    intro o ho
    rcases List.mem_or_eq_of_mem_set ho with ho | rfl
    · exact hwt o ho
    · exact hwt x.o (List.mem_map.2 ⟨x, List.mem_of_getElem? hx, rfl⟩)
  have hP0 : ∀ q, hasR g (some ⟨b, off, none⟩) ys q → hasR g (some ⟨b, off, none⟩) xs q ∨ w.heap.size ≤ q := by
    rw [hys]
    rintro q (e | e | ⟨z, hz, hz2⟩)
    · exact Or.inl (Or.inl e)
    · exact Or.inl (Or.inr (Or.inl e))
    · rcases List.mem_or_eq_of_mem_set hz with hz | rfl
      · exact Or.inl (Or.inr (Or.inr ⟨z, hz, hz2⟩))
      · exact Or.inl (Or.inr (Or.inr ⟨x, List.mem_of_getElem? hx, hz2⟩))
  have HP0 := Lib.hid hP0
  have s0 := blk_cell h.st 0
  have f3 : w.frozen? ⟨b, off + i0 * 4 + 3, none⟩ = false := by
    obtain ⟨cs, hcs⟩ := h.tk.ty rfl
    exact blk_frozen hcs _
  have H := Lib.hid h
  have HBo := Lib.hid hBo
  obtain ⟨W1, hW1⟩ : ∃ W1, W1 = w.setCell ⟨b, off + i0 * 4 + 3, none⟩ (.bool true) := ⟨_, rfl⟩
  rw [← hW1] at hR1 hk1
  have HR1 := Lib.hid hR1
  have HK1 : Hid (Kept w W1 (fun q => q = b)) := Lib.hid hk1
  have Hym := Lib.hid hym
  have Hyl := Lib.hid hyl
  have Hout := Lib.hid hout
  have Hwy := Lib.hid hwy
  obtain ⟨⟨xn, xw, xt, xe⟩, ⟨WA, Wn, Wc⟩, ⟨TA, Tn, Tc⟩⟩ := x
  simp only [S3.v] at y0 y1 y2 y3 hT0
  subst hT0
  have hs1 : w.heap.size ≤ W1.heap.size := hk1.size
  have hi0n : ¬ (i0 : Int) < 0 := by omega
  have hi0' : (i0 : Int) < (n : Int) := by omega
  clear hP0 h hBo hp hx0 hw0 hwt hx hel hR1 hk1 hym hyl hout hwy hys hlen y0 y1
  go_enter Tryz.func71, Tryz.ntmps71
  go_wp2_with fail
  refine Hpl.out.mono ?_
  rintro e w1 ⟨rfl, rfl⟩
  simp only [ixV]
  go_wp2_with fail
  rw [← hW1]
  clear hW1 s0 f3 y2 y3 hi0n hi0'
  go_loopw [7, 8] (fun v i wr => ∃ (k : Nat) (A' : Option Addr) (n' c' : Nat) (zs : List O2), k ≤ n ∧ i = .int .i64 k ∧ v = .slice A' n' c' ∧ Hid (RTAt wr Bo g (some ⟨b, off, none⟩) n c zs) ∧ Hid (zs.map O2.o = ((ys.map O2.o).take k).map (fltO N) ++ (ys.map O2.o).drop k) ∧ Hid (TkAt nC 1 3 wr w.heap.size A' n' c' (outO ((ys.map O2.o).take k) N)) ∧ Hid (Kept w wr (fun q => q = b)) ∧ Hid (∀ z ∈ zs, ∀ a a', z.T.A = some a → A' = some a' → a.block ≠ a'.block) ∧ Hid (∀ q, hasR g (some ⟨b, off, none⟩) zs q → hasR g (some ⟨b, off, none⟩) xs q ∨ w.heap.size ≤ q) ∧ n' ≤ k) (fun _ i _ => n - (RowKit.intOf i).toNat)
  case atStart => exact ⟨0, none, 0, 0, ys, Nat.zero_le _, rfl, rfl, HR1, Lib.hid (by simp), Lib.hid (TkAt.nil _ _), HK1, Lib.hid (fun z _ a a' _ e => by cases e), HP0, Nat.le_refl _⟩
  case round =>
    obtain ⟨k, A', n', c', zs, hk, rfl, rfl, HZ, HE, HT, HK, HD, HP, hn'⟩ := hrel
    by_cases hlt : k < n
    · obtain ⟨b2, off2, z, eb, -, hz, z0, z1, z2, z3⟩ := HZ.out.cell4 (i := k) hlt
      injection eb with eb
      injection eb with eb1 eb2
      subst eb1 eb2
      have s0 := blk_cell HZ.out.st 0
      have hel := HZ.out.el z (List.mem_of_getElem? hz)
      have hyk : (ys.map O2.o)[k]? = some z.o := by
        have h1 : (zs.map O2.o)[k]? = some z.o := by rw [List.getElem?_map, hz]; rfl
        rw [HE.out, List.getElem?_append_right (by simp; omega)] at h1
        have hl : (((ys.map O2.o).take k).map (fltO N)).length = k := by simp [Hyl.out]; omega
        rw [hl, Nat.sub_self, List.getElem?_drop, Nat.add_zero] at h1
        exact h1
      have hwl := Hwy.out z.o (List.mem_of_getElem? hyk)
      have hsucc := outO_succ (N := N) hyk
      have hfs := fltO_succ (N := N) hyk
      have hzT := hel.2.len
      have Hwo := Lib.hid (r11without_any Bo z.T.A z.T.n z.T.c z.o.wt N wr hel.2 (Nat.le_trans HBo.out HK.out.size) (by omega))
      have Hz := Lib.hid hz
      have Hsucc := Lib.hid hsucc
      have Hfs := Lib.hid hfs
      have Hel := Lib.hid hel
      obtain ⟨⟨zn, zw, zt, ze⟩, ⟨VA, Vn, Vc⟩, ⟨UA, Un, Uc⟩⟩ := z
      simp only [S3.v] at z0 z1 z2 z3 Hwo hzT hwl
      have HzT := Lib.hid hzT
      clear hz hsucc hfs hel hyk hzT z1 z3
      go_wp2_with fail
      refine Hwo.out.mono ?_
      rintro e w2 ⟨A3, n3, c3, rfl, h1, h2, h3⟩
      have hs2 := h2.size
      have HZ2 : Hid (RTAt w2 Bo g (some ⟨b, off, none⟩) n c zs) := Lib.hid (HZ.out.below h2)
      have HL2 := Lib.hid h1
      have HT2 := Lib.hid (HT.out.below h2)
      have HK2 : Hid (Kept w w2 (fun q => q = b)) := Lib.hid (HK.out.trans (Kept.of_below h2))
      have HD5 : Hid (∀ a a', A3 = some a → A' = some a' → a.block ≠ a'.block) := Lib.hid (fun a a' e1 e2 => by
        have hlt := (HT.out.lt e2).2
        rcases h3 a e1 with h | h
        · exact HD.out _ (List.mem_of_getElem? Hz.out) a a' (by rw [← h]; exact e1) e2
        · omega)
      have HPn : Hid (∀ (o : O1) (m d : Nat) (q : Nat), hasR g (some ⟨b, off, none⟩) (zs.set k ⟨o, ⟨VA, Vn, Vc⟩, ⟨A3, m, d⟩⟩) q → hasR g (some ⟨b, off, none⟩) xs q ∨ w.heap.size ≤ q) := Lib.hid (by
        rintro o m d q (e | e | ⟨z, hz, hz2⟩)
        · exact Or.inl (Or.inl e)
        · exact Or.inl (Or.inr (Or.inl e))
        · rcases List.mem_or_eq_of_mem_set hz with hz | rfl
          · exact HP.out q (Or.inr (Or.inr ⟨z, hz, hz2⟩))
          · rcases hz2 with hz2 | ⟨a, e1, e2⟩
            · exact HP.out q (Or.inr (Or.inr ⟨_, List.mem_of_getElem? Hz.out, Or.inl hz2⟩))
            · rcases h3 a e1 with h | h
              · exact HP.out q (Or.inr (Or.inr ⟨_, List.mem_of_getElem? Hz.out, Or.inr ⟨a, by rw [← h]; exact e1, e2⟩⟩))
              · exact Or.inr (by have := HK.out.size; omega))
      have HSz : Hid (w.heap.size ≤ w2.heap.size) := Lib.hid HK2.out.size
      have HNx : Hid (∀ w4, Kept w2 w4 (fun q => ∃ a, A' = some a ∧ q = a.block) → RTAt w4 Bo g (some ⟨b, off, none⟩) n c zs ∧ TkAt nC 1 3 w4 Bo A3 n3 c3 (zt.filter fun b => decide (b ≠ N))) := Lib.hid (fun w4 k4 => ⟨HZ2.out.kept k4 (by
          rintro q hq ⟨a, ea, e⟩
          obtain ⟨cs, hcs⟩ := HT2.out.ty ea
          rw [← e] at hcs
          rcases hq with rfl | ⟨a2, e2, rfl⟩ | ⟨y, hy, ⟨a2, e2, rfl⟩ | ⟨a2, e2, rfl⟩⟩
          · exact blk_ne2 hcs HZ2.out.st (by decide) rfl
          · obtain ⟨cs2, hcs2⟩ := HZ2.out.tk.ty e2
            exact blk_ne2 hcs hcs2 (by decide) rfl
          · obtain ⟨cs2, hcs2⟩ := (HZ2.out.el y hy).1.ty e2
            exact blk_ne2 hcs hcs2 (by decide) rfl
          · exact HD.out y hy a2 a e2 ea e), HL2.out.kept k4 (fun a2 e2 ⟨a, ea, e⟩ => HD5.out a2 a e2 ea e)⟩)
      clear h1 h2 h3 z0 z2 s0
      have s0 := blk_cell HZ2.out.st 0
      have z0 := HZ2.out.c0 Hz.out
      have z2 := HZ2.out.c2 Hz.out
      have zf := HZ2.out.frz (off + k * 4 + 2)
      simp only [S3.v] at z0 z2
      by_cases hca : n3 = 0 ∧ 0 < Un
      · obtain ⟨rfl, hU⟩ := hca
        have hU' : (0 : Int) < (Un : Int) := by omega
        go_wp2_with (first | (at_builtin; refine wpList_pushI rfl _ _ rfl w.heap.size A' n' c' _ rfl HT2.out HSz.out zn 1 rfl (by omega) ?_; intro A4 c4 w4 h1 h2 h3; have HT4 := Lib.hid h1; have HK4 := Lib.hid h2; have HF4 := Lib.hid h3; have HZ4 := Lib.hid (HNx.out w4 h2).1; have HL4 := Lib.hid (HNx.out w4 h2).2; have s4 := blk_cell HZ4.out.st 0; have z4 := HZ4.out.c2 Hz.out; have f4 := HZ4.out.frz (off + k * 4 + 2); simp only [S3.v] at z4; clear h1 h2 h3) | fail)
        have hR := HZ4.out.setO (x' := ⟨⟨zn, zw, zt.filter fun b => decide (b ≠ N), ze⟩, ⟨VA, Vn, Vc⟩, ⟨A3, 0, c3⟩⟩) (j := 2) (u := .slice A3 0 c3) Hz.out (by omega) rfl (HZ4.out.el _ (List.mem_of_getElem? Hz.out)).1 HL4.out
        have hwf : (zt.filter fun b => decide (b ≠ N)) = [] := List.eq_nil_of_length_eq_zero HL4.out.len
        have hwz : zt ≠ [] := fun e => by
          have := HzT.out
          rw [e] at this
          simp at this; omega
        have hD4 : ∀ (q : Addr), A4 = some q → (∃ a, A' = some a ∧ q.block = a.block) ∨ w2.heap.size ≤ q.block := HF4.out
        have hDa : ∀ y ∈ zs, ∀ a a' : Addr, y.T.A = some a → A4 = some a' → a.block ≠ a'.block := fun y hy a a' e1 e2 e => by
          rcases hD4 a' e2 with ⟨q, eq, e3⟩ | h5
          · exact HD.out y hy a q e1 eq (e.trans e3)
          · have := ((HZ2.out.el y hy).2.lt e1).2
            omega
        have hEa : ∀ a a' : Addr, A3 = some a → A4 = some a' → a.block ≠ a'.block := fun a a' e1 e2 e => by
          rcases hD4 a' e2 with ⟨q, eq, e3⟩ | h5
          · exact HD5.out a q e1 eq (e.trans e3)
          · have := (HL2.out.lt e1).2
            omega
        have hK4 : Kept w w4 (fun q => q = b) := HK2.out.trans2 HK4.out (fun q ⟨a, ea, e⟩ => by rw [e]; exact Or.inr (HT2.out.lt ea).1)
        refine ⟨⟨k + 1, A4, (n' + 1), c4, zs.set k ⟨⟨zn, zw, zt.filter fun b => decide (b ≠ N), ze⟩, ⟨VA, Vn, Vc⟩, ⟨A3, 0, c3⟩⟩, by omega, by go_num, rfl, Lib.hid ?_, Lib.hid ?_, Lib.hid ?_, Lib.hid ?_, Lib.hid ?_, Lib.hid (HPn.out _ _ _), by omega⟩, by simp [RowKit.intOf]; omega⟩
        · exact hR.1
        · rw [List.map_set, HE.out]; exact Hfs.out
        · have hO : outO ((ys.map O2.o).take (k + 1)) N = outO ((ys.map O2.o).take k) N ++ [zn] := (by rw [Hsucc.out, if_pos (by rw [Bool.and_eq_true, decide_eq_true_eq, decide_eq_true_eq]; exact ⟨hwz, hwf⟩)])
          rw [hO]
          exact HT4.out.kept hR.2 (fun a ea e => by
            obtain ⟨cs, hcs⟩ := HT4.out.ty ea
            obtain ⟨cs2, hcs2⟩ := HZ4.out.tk.ty rfl
            exact blk_ne2 hcs hcs2 (by decide) e)
        · exact hK4.trans hR.2
        · intro y hy a a' e1 e2
          rcases List.mem_or_eq_of_mem_set hy with hy | rfl
          · exact hDa y hy a a' e1 e2
          · exact hEa a a' e1 e2
      · have hcb : n3 = 0 → Un = 0 := fun h => by
          by_cases hU : 0 < Un
          · exact absurd ⟨h, hU⟩ hca
          · omega
        have hno : Hid (¬ (decide (zt ≠ []) && decide ((zt.filter fun b => decide (b ≠ N)) = [])) = true) := Lib.hid (fun h => by
          simp only [Bool.and_eq_true, decide_eq_true_eq] at h
          have h1 := HL2.out.len
          rw [h.2] at h1
          have h2 := HzT.out
          have h3 := hcb h1.symm
          rw [h3] at h2
          exact h.1 (List.eq_nil_of_length_eq_zero h2))
        by_cases hn3 : n3 = 0
        · obtain rfl : Un = 0 := hcb hn3
          subst hn3
          clear hcb hca
          go_wp2_with fail
          have hR := HZ2.out.setO (x' := ⟨⟨zn, zw, zt.filter fun b => decide (b ≠ N), ze⟩, ⟨VA, Vn, Vc⟩, ⟨A3, 0, c3⟩⟩) (j := 2) (u := .slice A3 0 c3) Hz.out (by omega) rfl (HZ2.out.el _ (List.mem_of_getElem? Hz.out)).1 HL2.out
          refine ⟨⟨k + 1, A', n', c', zs.set k ⟨⟨zn, zw, zt.filter fun b => decide (b ≠ N), ze⟩, ⟨VA, Vn, Vc⟩, ⟨A3, 0, c3⟩⟩, by omega, by go_num, rfl, Lib.hid ?_, Lib.hid ?_, Lib.hid ?_, Lib.hid ?_, Lib.hid ?_, Lib.hid (HPn.out _ _ _), by omega⟩, by simp [RowKit.intOf]; omega⟩
          · exact hR.1
          · rw [List.map_set, HE.out]; exact Hfs.out
          · have hO : outO ((ys.map O2.o).take (k + 1)) N = outO ((ys.map O2.o).take k) N := (by rw [Hsucc.out, if_neg hno.out, List.append_nil])
            rw [hO]
            exact HT2.out.kept hR.2 (fun a ea e => by
              obtain ⟨cs, hcs⟩ := HT2.out.ty ea
              obtain ⟨cs2, hcs2⟩ := HZ2.out.tk.ty rfl
              exact blk_ne2 hcs hcs2 (by decide) e)
          · exact HK2.out.trans hR.2
          · intro y hy a a' e1 e2
            rcases List.mem_or_eq_of_mem_set hy with hy | rfl
            · exact HD.out y hy a a' e1 e2
            · exact HD5.out a a' e1 e2

        · have hn3' : ¬ (n3 : Int) = 0 := by omega
          clear hcb hca
          go_wp2_with fail
          have hR := HZ2.out.setO (x' := ⟨⟨zn, zw, zt.filter fun b => decide (b ≠ N), ze⟩, ⟨VA, Vn, Vc⟩, ⟨A3, n3, c3⟩⟩) (j := 2) (u := .slice A3 n3 c3) Hz.out (by omega) rfl (HZ2.out.el _ (List.mem_of_getElem? Hz.out)).1 HL2.out
          refine ⟨⟨k + 1, A', n', c', zs.set k ⟨⟨zn, zw, zt.filter fun b => decide (b ≠ N), ze⟩, ⟨VA, Vn, Vc⟩, ⟨A3, n3, c3⟩⟩, by omega, by go_num, rfl, Lib.hid ?_, Lib.hid ?_, Lib.hid ?_, Lib.hid ?_, Lib.hid ?_, Lib.hid (HPn.out _ _ _), by omega⟩, by simp [RowKit.intOf]; omega⟩
          · exact hR.1
          · rw [List.map_set, HE.out]; exact Hfs.out
          · have hO : outO ((ys.map O2.o).take (k + 1)) N = outO ((ys.map O2.o).take k) N := (by rw [Hsucc.out, if_neg hno.out, List.append_nil])
            rw [hO]
            exact HT2.out.kept hR.2 (fun a ea e => by
              obtain ⟨cs, hcs⟩ := HT2.out.ty ea
              obtain ⟨cs2, hcs2⟩ := HZ2.out.tk.ty rfl
              exact blk_ne2 hcs hcs2 (by decide) e)
          · exact HK2.out.trans hR.2
          · intro y hy a a' e1 e2
            rcases List.mem_or_eq_of_mem_set hy with hy | rfl
            · exact HD.out y hy a a' e1 e2
            · exact HD5.out a a' e1 e2
    · obtain rfl : n = k := by omega
      have s0 := blk_cell HZ.out.st 0
      go_wp2_with fail
      go_ret2
      have hE := HE.out
      have hT := HT.out
      rw [List.take_of_length_le (by simp [Hyl.out])] at hE hT
      rw [List.drop_of_length_le (by simp [Hyl.out]), List.append_nil] at hE
      refine ⟨A', n', c', zs, rfl, by rw [← Hout.out]; exact hT, HZ.out, by rw [hE, Hym.out], HK.out.mono (fun q e => ⟨_, rfl, e⟩), HD.out, HP.out⟩
end Go.Proofs.YtcjmppjppmiggaaGreat

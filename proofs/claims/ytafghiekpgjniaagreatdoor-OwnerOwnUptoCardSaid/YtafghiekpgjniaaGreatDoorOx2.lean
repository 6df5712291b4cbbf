/- OwnerOwn: the walk of its law. -/
import Derived.Test.YtafghiekpgjniaaGreatDoorOx3
import Derived.Deep.DeepCutAuto
namespace Go.Proofs.YtafghiekpgjniaaGreatDoor
open Go.RowKit
set_option linter.unusedVariables false
set_option linter.unusedSimpArgs false

set_option maxRecDepth 100000
set_option maxHeartbeats 16000000 in
theorem lawown_any (A : Option Addr) (len cap : Nat) (hs : List HR) (r : Rq) (w : World) (hw : HdsAt w w.heap.size A len hs) (hl : len ≤ 1048576) (hlv : ∀ h ∈ hs, h.len ≤ 4398046511104) (hi : RowAt Icell 1 w w.heap.size r.A r.len r.bs) (hnil : r.A = none → r.cap = 0) (hlim : r.len ≤ 17592186044416) (hT : TabB Tryz.prog w.heap.size w) :
    Calls Tryz.prog 6 #[.slice A len cap, r.val] w fun e w' => e = .returned (.bool true) ∧ Below w.heap.size w w' := by
  have Hw := Lib.hid hw
  have hlen : (plainR hs).length = len := by have := hw.1.len; simp [plainR, this]
  have Hlv := Lib.hid hlv
  have Hi := Lib.hid hi
  have Hnil := Lib.hid hnil
  have HT := Lib.hid hT
  obtain ⟨L, hL⟩ : ∃ L, L = plainR hs := ⟨_, rfl⟩
  have HL := Lib.hid hL
  have hLl : L.length ≤ 1048576 := by rw [hL, hlen]; exact hl
  have HLl := Lib.hid hLl
  clear hw hlen hlv hL hi hnil hLl hT
  unfold Rq.val
  go_enter Tryz.func6, Tryz.ntmps6
  go_wp2_with fail
  obtain ⟨W, hW⟩ : ∃ W, W = w.alloc (.cells r.cells.toArray 98) := ⟨_, rfl⟩
  change Calls _ _ _ (w.alloc (.cells r.cells.toArray 98)) _
  rw [← hW]
  have HB : Hid (Below w.heap.size w W) := Lib.hid (hW ▸ bel_alloc (Below.refl _ _) _)
  have HN : Hid (W.heap[w.heap.size]? = some (.cells r.cells.toArray 98 (0, 0))) := Lib.hid (hW ▸ blk_new _ _)
  have hs0 : w.heap.size < W.heap.size := blk_lt HN.out
  clear hW
  refine (onew_any 0 4 A len cap hs W ((Hw.out.below HB.out).more HB.out.size) (by omega) Hlv.out).mono ?_
  intro e w1 he
  unfold ONewEnd at he
  rw [← HL.out] at he
  cases hm : mayH L
  · rw [if_neg (by rw [hm]; simp)] at he
    obtain ⟨rfl, hb1⟩ := he
    obtain ⟨wl, hwl⟩ : ∃ wl, wl = w1 := ⟨_, rfl⟩
    have HBL : Hid (Below w.heap.size w wl) := Lib.hid (hwl ▸ HB.out.trans (hb1.mono HB.out.size))
    rw [← hwl]
    clear hb1 hm hwl
    go_wp2_with fail
    refine (lives15_any wl).mono ?_
    rintro e wm ⟨rfl, hbm⟩
    have HBM := Lib.hid (HBL.out.trans (hbm.mono HBL.out.size))
    clear hbm
    go_wp2_with fail
    go_ret
    exact ⟨rfl, HBM.out⟩
  · rw [if_pos ⟨⟨by omega, by omega, by omega, by omega⟩, hm⟩] at he
    obtain ⟨o, rfl, ho, hcap, hg, htg, htp, hp, hb, hb1⟩ := he
    have hcap2 : o.cap = 4 := by omega
    have HO1 := Lib.hid ho
    have HB1 := Lib.hid (HB.out.trans (hb1.mono HB.out.size))
    have n1 := (hb1.block _ (blk_lt HN.out)).trans HN.out
    have HN1 := Lib.hid n1
    have Ho2 : Hid (w.heap.size < o.g ∧ w.heap.size < o.t.g ∧ w.heap.size < o.t.p ∧ w.heap.size < o.p ∧ w.heap.size < o.b) := Lib.hid (by omega)
    clear ho hb1 hcap hm n1 HN HB hg htg htp hp hb hs0
    obtain ⟨g, hg⟩ : ∃ g, g = w1.heap.size := ⟨_, rfl⟩
    obtain ⟨w2, hw2⟩ : ∃ V, V = w1.alloc (.cells #[.int .i64 0, .slice none 0 0, .slice none 0 0, .slice none 0 0, .slice none 0 0, .slice none 0 0, .slice none 0 0, .slice none 0 0, .slice none 0 0, .slice none 0 0, .slice none 0 0, .slice none 0 0] 44) := ⟨_, rfl⟩
    have hb2 : Below w1.heap.size w1 w2 := hw2 ▸ bel_alloc (Below.refl _ _) _
    have HO2 := Lib.hid (HO1.out.below hb2)
    have HB2 := Lib.hid (HB1.out.trans (hb2.mono HB1.out.size))
    have hgk : w2.heap[g]? = some (.cells bookZ 44 (0, 0)) := by rw [hw2, hg]; exact blk_new _ _
    have HG2 := Lib.hid hgk
    have n2 : w2.heap[w.heap.size]? = some (.cells r.cells.toArray 98 (0, 0)) := (hb2.block _ (blk_lt HN1.out)).trans HN1.out
    have HN2 := Lib.hid n2
    have hgs : w.heap.size < g := by rw [hg]; exact blk_lt HN1.out
    have hgne : g ≠ o.p ∧ g ≠ o.b ∧ g ≠ o.t.p := by
      have e1 := blk_lt HO1.out.rg.hp
      have e2 := HO1.out.rg.buf.lt
      have e3 := HO1.out.sh.lt.2
      omega
    have Hgne := Lib.hid hgne
    have Hgs := Lib.hid hgs
    obtain ⟨z0, z1, z2, z3, z4, z5, z6, z7, z8⟩ := rqz r.kind r.from_ r.num r.wk r.wv r.wd r.key r.fin r.A r.len r.cap n2
    have hask := oask_u o 0 L [] r w2 HO2.out ((Hi.out.below HB2.out).more HB2.out.size) Hnil.out hlim
    have Hask := Lib.hid hask
    rw [hw2] at z0 z1 z2 z3 z4 z5 z6 z7 z8
    have Hw2 := Lib.hid hw2
    have Hgw := Lib.hid hg
    clear hb2 hgk n2 hgs hgne hask hw2 hg HN1 HO1 HB1
    go_wp2_with fail
    rw [← Hw2.out, ← Hgw.out]
    refine Hask.out.mono ?_
    clear Hask z0 z1 z2 z3 z4 z5 z6 z7 z8
    rintro e w3 ⟨b3, er3, q1, rfl, ho3, k3, hq1⟩
    have HO3 := Lib.hid ho3
    have Hq1 := Lib.hid hq1
    have K3 : Hid (Kept w2 w3 (fun b => b = o.p ∨ b = o.b ∨ b = o.t.p)) := Lib.hid (k3.mono (fun b hb => by omega))
    have n3 : w3.heap[w.heap.size]? = some (.cells r.cells.toArray 98 (0, 0)) := K3.out.blk HN2.out (blk_lt HN2.out) (by have := Ho2.out; omega)
    have HB3 : Hid (Below w.heap.size w w3) := Lib.hid (((Kept.of_below HB2.out).trans K3.out).below (Nat.le_refl _) (fun k hk => by have := Ho2.out; omega))
    obtain ⟨z0, z1, z2, z3, z4, z5, z6, z7, z8⟩ := rqz r.kind r.from_ r.num r.wk r.wv r.wd r.key r.fin r.A r.len r.cap n3
    have hask := oask_u o 0 L q1 r w3 HO3.out ((Hi.out.below HB3.out).more HB3.out.size) Hnil.out hlim
    have Hask := Lib.hid hask
    clear ho3 k3 n3 hask hq1
    go_wp2_with fail
    refine Hask.out.mono ?_
    clear Hask z0 z1 z2 z3 z4 z5 z6 z7 z8
    rintro e w4 ⟨b4, er4, q2, rfl, ho4, k4, hq2⟩
    have HO4 := Lib.hid ho4
    have HOq := Lib.hid HO2.out
    have HQ := Lib.hid (two_asks hcap2 Hq1.out hq2)
    have K4 : Hid (Kept w2 w4 (fun b => b = o.p ∨ b = o.b ∨ b = o.t.p)) := Lib.hid (K3.out.trans (k4.mono (fun b hb => by omega)))
    clear ho4 k4 hq2 HO3 HO2 K3 HB3 Hq1
    go_wp2_with fail
    refine (oserve_u o 0 L q2 w4 HO4.out (by have := HLl.out; omega)).mono ?_
    rintro e w5 ⟨f5, L5, t5, b5, A5, n5, c5, A6, n6, c6, d5, er5, es5, hs5, rfl, ho5, k5, he5, hh5, hv5, hn5, hm5, hl5, hz5, hsb5⟩
    have h24 : w2.heap.size ≤ w4.heap.size := K4.out.size
    have h45 : w4.heap.size ≤ w5.heap.size := k5.size
    obtain ⟨g5, hg5⟩ : ∃ g5, g5 = w5.heap.size := ⟨_, rfl⟩
    obtain ⟨wa, hwa⟩ : ∃ wa, wa = w5.alloc (.cells #[.int .i64 t5, .bool b5, .slice A5 n5 c5, .slice A6 n6 c6, .int .i64 d5] 105) := ⟨_, rfl⟩
    have hba : Below w5.heap.size w5 wa := hwa ▸ bel_alloc (Below.refl _ _) _
    have hca : wa.heap[g5]? = some (.cells #[.int .i64 t5, .bool b5, .slice A5 n5 c5, .slice A6 n6 c6, .int .i64 d5] 105 (0, 0)) := by rw [hwa, hg5]; exact blk_new _ _
    have h5a : w5.heap.size ≤ wa.heap.size := hba.size
    have HCa := Lib.hid hca
    have HOa := Lib.hid (ho5.below hba)
    have HEa := Lib.hid (ownsRow_below he5 hba)
    have HHa := Lib.hid (hh5.below hba)
    have Hc5 : Hid (hs5.length = n6) := Lib.hid (hr_at HHa.out).2.symm
    have HUa := Lib.hid (fun k => und_hr (k := k) HHa.out)
    have HVa : Hid (∀ a, A5 = some a → w4.heap.size ≤ a.block ∧ a.block < wa.heap.size) := Lib.hid (fun a ea => HEa.out.lt _ (by rw [ea]; rfl))
    have Hv5 := Lib.hid hv5
    have Hz5 := Lib.hid hz5
    have Hsba := Lib.hid (fun hk => (hsb5 hk _ HO4.out.sh.b).below hba)
    have Ka : Hid (Kept w2 wa (fun b => b = o.p ∨ b = o.b ∨ b = o.t.p)) := Lib.hid ((K4.out.trans k5).trans (Kept.of_below hba))
    have Hol : Hid (o.p < w2.heap.size ∧ o.b < w2.heap.size ∧ o.t.p < w2.heap.size) := Lib.hid ⟨blk_lt HOq.out.rg.hp, HOq.out.rg.buf.lt, HOq.out.sh.lt.2⟩
    have Hg5 : Hid (w2.heap.size ≤ g5) := Lib.hid (by rw [hg5]; omega)
    have Hwa := Lib.hid hwa
    have Hg5e := Lib.hid hg5
    clear ho5 k5 he5 hh5 hv5 hz5 hsb5 HO4 K4 HOq hba hca hwa hg5
    go_wp2_with fail
    rw [← Hwa.out, ← Hg5e.out]
    refine (oserve_u o f5 L5 q2.tail wa HOa.out (by have := HLl.out; omega)).mono ?_
    clear Hwa Hg5e
    rintro e w6 ⟨f6, L6, t6, b6, A7, n7, c7, A8, n8, c8, d6, er6, es6, hs6, rfl, ho6, k6, he6, hh6, hv6, hn7, hn8, hl6, hz6, hsb6⟩
    have h56 : wa.heap.size ≤ w6.heap.size := k6.size
    rw [HQ.out.2] at ho6
    obtain ⟨g6, hg6⟩ : ∃ g6, g6 = w6.heap.size := ⟨_, rfl⟩
    obtain ⟨wb, hwb⟩ : ∃ wb, wb = w6.alloc (.cells #[.int .i64 t6, .bool b6, .slice A7 n7 c7, .slice A8 n8 c8, .int .i64 d6] 105) := ⟨_, rfl⟩
    have hbb : Below w6.heap.size w6 wb := hwb ▸ bel_alloc (Below.refl _ _) _
    have hcb : wb.heap[g6]? = some (.cells #[.int .i64 t6, .bool b6, .slice A7 n7 c7, .slice A8 n8 c8, .int .i64 d6] 105 (0, 0)) := by rw [hwb, hg6]; exact blk_new _ _
    have h6b : w6.heap.size ≤ wb.heap.size := hbb.size
    have HCb := Lib.hid hcb
    have HCab : Hid (wb.heap[g5]? = some (.cells #[.int .i64 t5, .bool b5, .slice A5 n5 c5, .slice A6 n6 c6, .int .i64 d5] 105 (0, 0))) := Lib.hid (by
      have h1 := k6.blk HCa.out (blk_lt HCa.out) (by have := Hg5.out; have := Hol.out; omega)
      exact (hbb.block _ (blk_lt h1)).trans h1)
    have HOb := Lib.hid (ho6.below hbb)
    have HEb := Lib.hid (ownsRow_below he6 hbb)
    have HHb := Lib.hid (hh6.below hbb)
    have Hc6 : Hid (hs6.length = n8) := Lib.hid (hr_at HHb.out).2.symm
    have HUb := Lib.hid (fun k => und_hr (k := k) HHb.out)
    have HVb : Hid (∀ a, A7 = some a → wa.heap.size ≤ a.block ∧ a.block < wb.heap.size) := Lib.hid (fun a ea => HEb.out.lt _ (by rw [ea]; rfl))
    have Hv6 := Lib.hid hv6
    have Kb : Hid (Kept w2 wb (fun b => b = o.p ∨ b = o.b ∨ b = o.t.p)) := Lib.hid ((Ka.out.trans k6).trans (Kept.of_below hbb))
    have HEab := Lib.hid (ownsRow_below (ownsRow_kept HEa.out k6 (fun b hb => by have := Hol.out; omega)) hbb)
    have HHab := Lib.hid ((hrow_kept HHa.out k6 (fun b hb => by have := Hol.out; omega)).below hbb)
    obtain ⟨n0, hn0, hd5, hd6⟩ : ∃ n0, ShAtB wb o.t L6 n0 ∧ (hs5 = [] ∨ n0 ≤ w4.heap.size) ∧ (hs6 = [] ∨ n0 ≤ w4.heap.size) := by
      by_cases hk : K5 q2
      · exact ⟨_, (hsb6 (HQ.out.1.1 hk) _ (Hsba.out hk)).below hbb, Or.inr (Nat.le_refl _), Or.inr (Nat.le_refl _)⟩
      · exact ⟨_, HOb.out.sh.b, Or.inl (Hz5.out hk), Or.inl (hz6 (fun h => hk (HQ.out.1.2 h)))⟩
    have Hn0 := Lib.hid hn0
    have hn0b : n0 ≤ wb.heap.size := hn0.1
    have Hd5 := Lib.hid hd5
    have Hd6 := Lib.hid hd6
    have Hwb := Lib.hid hwb
    have Hg6e := Lib.hid hg6
    clear ho6 k6 he6 hh6 hv6 hz6 hsb6 hn0 hd5 hd6 HOa Ka Hz5 Hsba hbb hcb hwb hg6 HCa
    go_wp2_with fail
    rw [← Hwb.out, ← Hg6e.out]
    refine (oall_any o f6 L6 [] wb HOb.out (by have := HLl.out; omega)).mono ?_
    clear Hwb
    rintro e w7 ⟨vw, rw_, rfl, hrw, hpw, hb7⟩
    obtain ⟨Aw, nw, cw, rfl⟩ := slice_of_own hrw.1
    have h7b : wb.heap.size ≤ w7.heap.size := hb7.size
    have HO7 := Lib.hid (HOb.out.below hb7)
    have HW7 := Lib.hid hrw
    have Hpw := Lib.hid hpw
    have HC5 := Lib.hid ((hb7.block _ (blk_lt HCab.out)).trans HCab.out)
    have HC6 := Lib.hid ((hb7.block _ (blk_lt HCb.out)).trans HCb.out)
    have HE5 := Lib.hid (ownsRow_below HEab.out hb7)
    have HH5 := Lib.hid (HHab.out.below hb7)
    have HE6 := Lib.hid (ownsRow_below HEb.out hb7)
    have HH6 := Lib.hid (HHb.out.below hb7)
    have HS7 := Lib.hid (Hn0.out.below hb7)
    have HG7 : Hid (w7.heap[g]? = some (.cells bookZ 44 (0, 0))) := Lib.hid (by
      have h1 := Kb.out.blk HG2.out (blk_lt HG2.out) (by have := Hgne.out; omega)
      exact (hb7.block _ (blk_lt h1)).trans h1)
    have HB7 : Hid (Below w.heap.size w w7) := Lib.hid ((((Kept.of_below HB2.out).trans Kb.out).below (Nat.le_refl _) (fun k hk => by have := Ho2.out; omega)).trans (hb7.mono (by have := HB2.out.size; omega)))
    clear hrw hpw hb7 HOb HEb HHb HEab HHab Hn0 Kb HCab HCb HG2
    have c0 := blk_cell HC5.out 0
    have c1 := blk_cell HC5.out 1
    have c2 := blk_cell HC5.out 2
    have c3 := blk_cell HC5.out 3
    have c4 := blk_cell HC5.out 4
    go_wp2_with fail
    have hlo4 : w.heap.size ≤ w4.heap.size := by have := HB2.out.size; omega
    have hLl := HLl.out
    have hX7 : ∃ cs, w7.heap[g]? = some (.cells cs 44 (0, 0)) := ⟨_, HG7.out⟩
    refine (respP_any g w.heap.size 0 w4.heap.size [] [] [] t5 b5 A5 n5 c5 A6 n6 c6 d5 es5 hs5 w7 (book_newP HG7.out (by have := Hgs.out; omega)) HE5.out HH5.out hlo4 (Und.nil _) (Und.nil _) (Und.nil _) (fun r hr => by have := Hv5.out r hr; omega) (by omega) (by omega) (by simp) (by simp; omega) (by simp)).mono ?_
    rintro e w8 ⟨rfl, hk8, x8, l8⟩
    have HK8 := Lib.hid hk8
    have HX8 := Lib.hid x8
    obtain ⟨o8, s8⟩ := HO7.out.keptS HS7.out x8 (ty_own hX7)
    have HO8 := Lib.hid o8
    have HS8 := Lib.hid s8
    have HE68 := Lib.hid (owne_ty HE6.out x8 hX7)
    have HH68 := Lib.hid (hrow_ty HH6.out x8 hX7)
    have HC68 := Lib.hid (ty_resp x8 hX7 HC6.out)
    have HB8 := Lib.hid (HB7.out.trans l8)
    have h78 : w7.heap.size ≤ w8.heap.size := x8.size
    have HX7 := Lib.hid hX7
    clear hk8 x8 l8 o8 s8 HO7 HS7 HE6 HH6 HC6 c0 c1 c2 c3 c4 hX7
    have c0 := blk_cell HC68.out 0
    have c1 := blk_cell HC68.out 1
    have c2 := blk_cell HC68.out 2
    have c3 := blk_cell HC68.out 3
    have c4 := blk_cell HC68.out 4
    go_wp2_with fail
    have hX8 := HK8.out.blk
    refine (respP_any g w.heap.size _ wa.heap.size _ _ _ t6 b6 A7 n7 c7 A8 n8 c8 d6 es6 hs6 w8 HK8.out HE68.out HH68.out (by omega) ((Und.nil _).app (Und.one fun a ea => (HVa.out a ea).2)) ((Und.nil _).app (HUa.out _).1) ((Und.nil _).app (Und.one fun a ea => ((HUa.out 0).2.2 a ea).2)) (fun r hr => by have := Hv6.out r hr; omega) (by omega) (by omega) (by simp) (by simp [tellH_len]; have := Hc5.out; omega) (by simp)).mono ?_
    rintro e w9 ⟨rfl, hk9, x9, l9⟩
    have HK9 := Lib.hid hk9
    have HX9 := Lib.hid (TyX.trans HX8.out x9)
    obtain ⟨o9, s9⟩ := HO8.out.keptS HS8.out x9 (ty_own hX8)
    have HO9 := Lib.hid o9
    have HS9 := Lib.hid s9
    have HB9 := Lib.hid (HB8.out.trans l9)
    have h89 : w8.heap.size ≤ w9.heap.size := x9.size
    clear hk9 x9 l9 o9 s9 HO8 HS8 HE68 HH68 HC68 c0 c1 c2 c3 c4 hX8
    go_wp2_with fail
    refine (oall_any o f6 L6 [] w9 HO9.out (by omega)).mono ?_
    rintro e w10 ⟨v9, hs9, rfl, hr9, hp9, hb10⟩
    obtain ⟨A9, n9, c9, rfl⟩ := slice_of_own hr9.1
    have hn9 : n9 = L6.length := by rw [(hr_at hr9).2, ← plainR_len, hp9]
    have hok6 := HO9.out.sh.ok
    have hv9 := hr_lens2 hr9 hp9 hok6
    have HU9 := Lib.hid (fun k => und_hr (k := k) hr9)
    have Hc9 : Hid (hs9.length = n9) := Lib.hid (hr_at hr9).2.symm
    have h910 : w9.heap.size ≤ w10.heap.size := hb10.size
    have HK10 := Lib.hid (HK9.out.kept (Kept.of_below (X := fun _ => False) hb10) (fun _ h => h.elim))
    have HX10 : Hid (Kept w7 w10 (TyX w7 g HdP)) := Lib.hid (TyX.trans HX9.out (Kept.of_below hb10))
    have HO10 := Lib.hid (HO9.out.below hb10)
    have HS10 := Lib.hid (HS9.out.below hb10)
    have HB10 := Lib.hid (HB9.out.trans (hb10.mono (by have := HB9.out.size; omega)))
    have HR9 := Lib.hid hr9
    have Hv9 := Lib.hid hv9
    have Hok6 := Lib.hid hok6
    have Hn9 := Lib.hid hn9
    clear hr9 hp9 hb10 hv9 hok6 hn9 HO9 HS9 HX9
    go_wp2_with fail
    have hX10 := HK10.out.blk
    have hm9 : n9 ≤ 1048578 := by have := Hn9.out; omega
    refine (heldsP_any g w.heap.size _ w9.heap.size _ _ _ A9 n9 c9 hs9 w10 HK10.out HR9.out (by omega) ((((Und.nil _).app (HUa.out _).1).more (by omega)).app ((HUb.out _).1.more (by omega))) ((((Und.nil _).app (Und.one fun a ea => ((HUa.out 0).2.2 a ea).2)).more (by omega)).app (Und.one fun a ea => by have := ((HUb.out 0).2.2 a ea).2; omega)) (fun r hr => by have := Hv9.out r hr; omega) (by omega) (by simp [tellH_len]; have := Hc5.out; have := Hc6.out; omega) (by simp)).mono ?_
    rintro e w11 ⟨rfl, hk11, x11, l11⟩
    have HK11 := Lib.hid hk11
    have HX11 := Lib.hid (TyX.trans HX10.out x11)
    obtain ⟨o11, s11⟩ := HO10.out.keptS HS10.out x11 (ty_own hX10)
    have HO11 := Lib.hid o11
    have HS11 := Lib.hid s11
    have HB11 := Lib.hid (HB10.out.trans l11)
    have hX11 := hk11.blk
    have HXg := Lib.hid hX11
    clear hk11 x11 l11 o11 s11 HO10 HS10 HX10 hX10 hX11
    go_wp2_with fail
    obtain ⟨xE, xV, xH, cnt, hk, FE, FV, FH⟩ : ∃ xE xV xH cnt, BkAtP w11 g w.heap.size cnt xE xV xH ∧ (∀ b, InE xE b → b < wb.heap.size) ∧ (∀ b, InE xV b → n0 ≤ b ∧ (b < wb.heap.size ∨ w9.heap.size ≤ b)) ∧ (∀ b, InE xH b → b < wb.heap.size ∨ w9.heap.size ≤ b) := by
      refine ⟨_, _, _, _, HK11.out, fun b hb => ?_, fun b hb => ?_, fun b hb => ?_⟩
      · rcases hb.app with hb | hb
        · have := InE.und ((Und.nil _).app (Und.one fun a ea => (HVa.out a ea).2)) hb
          omega
        · exact InE.und (Und.one fun a ea => (HVb.out a ea).2) hb
      · rcases hb.app with hb | hb
        · rcases hb.app with hb | hb
          · have h1 := InE.und ((Und.nil _).app (HUa.out _).1) hb
            rcases hb.app with hb | hb
            · obtain ⟨e, he, -⟩ := hb; cases he
            · have h2 := InE.ovr (HUa.out _).2.1 hb
              rcases Hd5.out with h3 | h3
              · rw [h3] at hb; obtain ⟨e, he, -⟩ := hb; cases he
              · omega
          · have h1 := InE.und (HUb.out _).1 hb
            have h2 := InE.ovr (HUb.out _).2.1 hb
            rcases Hd6.out with h3 | h3
            · rw [h3] at hb; obtain ⟨e, he, -⟩ := hb; cases he
            · omega
        · have h2 := InE.ovr (HU9.out _).2.1 hb
          omega
      · rcases hb.app with hb | hb
        · rcases hb.app with hb | hb
          · have := InE.und ((Und.nil _).app (Und.one fun a ea => ((HUa.out 0).2.2 a ea).2)) hb
            omega
          · have := InE.und (Und.one fun a ea => ((HUb.out 0).2.2 a ea).2) hb
            omega
        · obtain ⟨e, he, a, ea, rfl⟩ := hb
          simp at he
          subst he
          exact Or.inr ((HU9.out 0).2.2 a ea).1
    have HFE := Lib.hid FE
    have HFV := Lib.hid FV
    have HFH := Lib.hid FH
    have HKK := Lib.hid hk
    clear hk FE FV FH HK11
    refine (apartP_any g w.heap.size cnt xE xV xH w11 HKK.out (HT.out.next HB11.out)).mono ?_
    rintro e w12 ⟨rfl, x12, l12⟩
    obtain ⟨o12, s12⟩ := HO11.out.keptS HS11.out x12 (fun b hb => by
      rcases hb with hb | hb | hb | ⟨cs, hb⟩ | ⟨cs, hb⟩ | ⟨cs, hb⟩
      · obtain ⟨cs, h⟩ := HKK.out.tyE hb
        exact ⟨cs, _, h, by decide, by decide, by decide, by decide, fun e => absurd e (by decide)⟩
      · obtain ⟨cs, h⟩ := HKK.out.tyV hb
        exact ⟨cs, _, h, by decide, by decide, by decide, by decide, fun _ => (HFV.out b hb).1⟩
      · obtain ⟨cs, h⟩ := HKK.out.tyH hb
        exact ⟨cs, _, h, by decide, by decide, by decide, by decide, fun e => absurd e (by decide)⟩
      · exact ⟨cs, _, hb, by decide, by decide, by decide, by decide, fun e => absurd e (by decide)⟩
      · exact ⟨cs, _, hb, by decide, by decide, by decide, by decide, fun e => absurd e (by decide)⟩
      · exact ⟨cs, _, hb, by decide, by decide, by decide, by decide, fun e => absurd e (by decide)⟩)
    have hKw : Kept w7 w12 (fun i => (InE xE i ∨ InE xV i ∨ InE xH i) ∨ TyX w7 g HdP i) := HX11.out.tyx (x12.mono fun b hb => by
      rcases hb with hb | hb | hb | hb | hb | hb
      · exact Or.inl (Or.inl hb)
      · exact Or.inl (Or.inr (Or.inl hb))
      · exact Or.inl (Or.inr (Or.inr hb))
      · exact Or.inr (TyX.one (P := HdP) (Or.inl rfl) b (Or.inr hb))
      · exact Or.inr (TyX.one (P := HdP) (Or.inr (Or.inl rfl)) b (Or.inr hb))
      · exact Or.inr (TyX.one (P := HdP) (Or.inr (Or.inr rfl)) b (Or.inr hb)))
    have HW12 := Lib.hid (hrow_keptT HW7.out hKw (fun b cs t g1 g2 g3 g4 hx => by
      rcases hx with (hx | hx | hx) | hx
      · have := HFE.out b hx; omega
      · have := (HFV.out b hx).2; omega
      · have := HFH.out b hx; omega
      · exact ty_no HX7.out g3 (g4.imp id Or.inl) hx))
    have HO12 := Lib.hid o12
    have HB12 := Lib.hid (HB11.out.trans l12)
    clear x12 l12 o12 s12 hKw HO11 HS11 HX11 HW7
    go_wp2_with fail
    refine (oall_any o f6 L6 [] w12 HO12.out (by omega)).mono ?_
    rintro e w13 ⟨vz, hsz, rfl, hrz, hpz, hb13⟩
    obtain ⟨Az, nz, cz, rfl⟩ := slice_of_own hrz.1
    have hw13 := HW12.out.below hb13
    obtain ⟨hd1, hl1⟩ := hr_at hw13
    obtain ⟨hd2, hl2⟩ := hr_at hrz
    have hpp : plainR rw_ = plainR hsz := by rw [Hpw.out, hpz]
    have hnn : nz = nw := by rw [hl1, hl2, ← plainR_len, ← plainR_len, hpp]
    subst hnn
    have hnb : nz ≤ 3518437208883 := by rw [hl1, ← plainR_len, Hpw.out]; omega
    have hsh := Lib.hid (sameH_any Aw Az nz cw cz rw_ hsz w13 hd1 hd2 hpp hnb (hr_lens hw13 Hpw.out Hok6.out))
    have HB13 := Lib.hid (HB12.out.trans (hb13.mono (by have := HB12.out.size; omega)))
    clear hrz hpz hb13 hw13 hd1 hl1 hd2 hl2 hpp hnb HO12 HW12
    go_wp2_with fail
    refine hsh.out.mono ?_
    rintro e w14 ⟨rfl, hb14⟩
    obtain ⟨wl, hwl⟩ : ∃ wl, wl = w14 := ⟨_, rfl⟩
    have HBL : Hid (Below w.heap.size w wl) := Lib.hid (hwl ▸ HB13.out.trans (hb14.mono HB13.out.size))
    rw [← hwl]
    clear hb14 hwl
    go_wp2_with fail
    refine (lives15_any wl).mono ?_
    rintro e wm ⟨rfl, hbm⟩
    have HBM := Lib.hid (HBL.out.trans (hbm.mono HBL.out.size))
    clear hbm
    go_wp2_with fail
    go_ret
    exact ⟨rfl, HBM.out⟩
end Go.Proofs.YtafghiekpgjniaaGreatDoor

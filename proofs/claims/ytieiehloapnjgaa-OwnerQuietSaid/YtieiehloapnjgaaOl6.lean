/- OwnerQuiet: the walk of its law. -/
import Derived.Test.YtieiehloapnjgaaOl5
import Derived.Deep.DeepCutAuto
namespace Go.Proofs.Ytieiehloapnjgaa
open Go.RowKit
set_option linter.unusedVariables false
set_option linter.unusedSimpArgs false

set_option maxRecDepth 100000
set_option maxHeartbeats 16000000 in
theorem lawquiet_any (A : Option Addr) (len cap : Nat) (hs : List HR) (r : Rq) (w : World) (hw : HdsAt w w.heap.size A len hs) (hl : len ≤ 3518437208780) (hlv : ∀ h ∈ hs, h.len ≤ 4398046511104) (hi : RowAt Icell 1 w w.heap.size r.A r.len r.bs) (hnil : r.A = none → r.cap = 0) (hlim : r.len ≤ 17592186044416) :
    Calls Try.prog 5 #[.slice A len cap, r.val] w fun e w' => e = .returned (.bool true) ∧ Below w.heap.size w w' := by
  have Hw := Lib.hid hw
  have hlen : (plainR hs).length = len := by have := hw.1.len; simp [plainR, this]
  have Hlen := Lib.hid hlen
  have Hlv := Lib.hid hlv
  have Hi := Lib.hid hi
  have Hnil := Lib.hid hnil
  obtain ⟨L, hL⟩ : ∃ L, L = plainR hs := ⟨_, rfl⟩
  have HL := Lib.hid hL
  have hLl : L.length ≤ 3518437208780 := by rw [hL, hlen]; exact hl
  have HLl := Lib.hid hLl
  clear hw hlen hlv hL hi hnil hLl
  unfold Rq.val
  go_enter Try.func5, Try.ntmps5
  go_wp2_with fail
  obtain ⟨W, hW⟩ : ∃ W, W = w.alloc (.cells r.cells.toArray 37) := ⟨_, rfl⟩
  change Calls _ _ _ (w.alloc (.cells r.cells.toArray 37)) _
  rw [← hW]
  have HB : Hid (Below w.heap.size w W) := Lib.hid (hW ▸ bel_alloc (Below.refl _ _) _)
  have HN : Hid (W.heap[w.heap.size]? = some (.cells r.cells.toArray 37 (0, 0))) := Lib.hid (hW ▸ blk_new _ _)
  have hs0 : w.heap.size < W.heap.size := blk_lt HN.out
  clear hW
  refine (onew_any 3 4 A len cap hs W ((Hw.out.below HB.out).more HB.out.size) (by omega) Hlv.out).mono ?_
  intro e w1 he
  unfold ONewEnd at he
  rw [← HL.out] at he
  cases hm : mayH L
  · rw [if_neg (by rw [hm]; simp)] at he
    obtain ⟨rfl, hb1⟩ := he
    obtain ⟨wl, hwl⟩ : ∃ wl, wl = w1 := ⟨_, rfl⟩
    have HBL : Hid (Below w.heap.size w wl) := Lib.hid (hwl ▸ HB.out.trans (hb1.mono HB.out.size))
    rw [← hwl]
    clear hb1 hm hwl
    go_wp2_with fail
    refine (lives15_any wl).mono ?_
    rintro e wm ⟨rfl, hbm⟩
    have HBM := Lib.hid (HBL.out.trans (hbm.mono HBL.out.size))
    clear hbm
    go_wp2_with fail
    go_ret
    exact ⟨rfl, HBM.out⟩
  · rw [if_pos ⟨⟨by omega, by omega, by omega, by omega⟩, hm⟩] at he
    obtain ⟨o, rfl, ho, hcap, hg, htg, htp, hp, hb, hb1⟩ := he
    have hcap2 : o.cap = 4 := by omega
    have Hok := Lib.hid (mayH_iff.1 hm)
    have HO1 := Lib.hid ho
    have HB1 := Lib.hid (HB.out.trans (hb1.mono HB.out.size))
    have n1 := (hb1.block _ (blk_lt HN.out)).trans HN.out
    have HN1 := Lib.hid n1
    have o2 := blk_lt HO1.out.rg.hp
    have o3 := HO1.out.rg.buf.lt
    have o5 := HO1.out.sh.lt.2
    have hs1 : W.heap.size ≤ w1.heap.size := hb1.size
    clear ho hb1 hcap hm n1 HN HB
    go_wp2_with fail
    refine (oall_any o 0 L [] w1 HO1.out (by have := HLl.out; omega)).mono ?_
    rintro e w2 ⟨v1, r1, rfl, hr1, hp1, hb2⟩
    obtain ⟨Aa, na, ca, rfl⟩ := slice_of_own hr1.1
    have HR1 := Lib.hid hr1
    have HP1 := Lib.hid hp1
    have HO2 := Lib.hid (HO1.out.below hb2)
    have HB2 := Lib.hid (HB1.out.trans (hb2.mono HB1.out.size))
    have n2 : w2.heap[w.heap.size]? = some (.cells r.cells.toArray 37 (0, 0)) := (hb2.block _ (blk_lt HN1.out)).trans HN1.out
    have HN2 := Lib.hid n2
    have hs2 : w1.heap.size ≤ w2.heap.size := hb2.size
    obtain ⟨z0, z1, z2, z3, z4, z5, z6, z7, z8⟩ := rqz r.kind r.from_ r.num r.wk r.wv r.wd r.key r.fin r.A r.len r.cap n2
    have hask := oask_any o 0 L [] r w2 HO2.out ((Hi.out.below HB2.out).more HB2.out.size) Hnil.out hlim
    have Hask := Lib.hid hask
    clear hr1 hp1 hb2 n2 hask HN1 HO1 HB1
    go_wp2_with fail
    refine Hask.out.mono ?_
    clear Hask z0 z1 z2 z3 z4 z5 z6 z7 z8
    intro e w3 he
    unfold OAskEnd at he
    cases hm : mayR r
    · rw [if_neg (by rw [hm]; simp)] at he
      obtain ⟨rfl, hb3⟩ := he
      obtain ⟨wl, hwl⟩ : ∃ wl, wl = w3 := ⟨_, rfl⟩
      have HBL : Hid (Below w.heap.size w wl) := Lib.hid (hwl ▸ HB2.out.trans (hb3.mono HB2.out.size))
      rw [← hwl]
      clear hb3 hm hwl
      go_wp2_with fail
      refine (lives15_any wl).mono ?_
      rintro e wm ⟨rfl, hbm⟩
      have HBM := Lib.hid (HBL.out.trans (hbm.mono HBL.out.size))
      clear hbm
      go_wp2_with fail
      go_ret
      exact ⟨rfl, HBM.out⟩
    · rw [if_pos hm, if_pos (by rw [hcap2]; simp)] at he
      obtain ⟨A3, c3, rfl, -, ho3, k3⟩ := he
      have Hm := Lib.hid hm
      have HO3 := Lib.hid ho3
      have K3 : Hid (Kept w2 w3 (fun b => b = o.p ∨ b = o.b ∨ b = o.t.p)) := Lib.hid (k3.mono (fun b hb => by omega))
      have n3 : w3.heap[w.heap.size]? = some (.cells r.cells.toArray 37 (0, 0)) := K3.out.blk HN2.out (blk_lt HN2.out) (by omega)
      have HB3 : Hid (Below w.heap.size w w3) := Lib.hid (((Kept.of_below HB2.out).trans K3.out).below (Nat.le_refl _) (fun k hk => by omega))
      obtain ⟨z0, z1, z2, z3, z4, z5, z6, z7, z8⟩ := rqz r.kind r.from_ r.num r.wk r.wv r.wd r.key r.fin r.A r.len r.cap n3
      have hask := oask_any o 0 L _ r w3 HO3.out ((Hi.out.below HB3.out).more HB3.out.size) Hnil.out hlim
      have Hask := Lib.hid hask
      clear ho3 k3 n3 hask hm
      go_wp2_with fail
      refine Hask.out.mono ?_
      clear Hask z0 z1 z2 z3 z4 z5 z6 z7 z8
      intro e w4 he
      unfold OAskEnd at he
      rw [if_pos Hm.out, if_pos (by rw [hcap2]; simp)] at he
      obtain ⟨A4, c4, rfl, -, ho4, k4⟩ := he
      have HO4 := Lib.hid ho4
      have K4 : Hid (Kept w2 w4 (fun b => b = o.p ∨ b = o.b ∨ b = o.t.p)) := Lib.hid (K3.out.trans (k4.mono (fun b hb => by omega)))
      clear ho4 k4 HO3 HO2 K3 HB3
      go_wp2_with fail
      refine (oserve_any o 0 L _ _ w4 HO4.out (by have := HLl.out; omega) (sizeb Hok.out (by have := HLl.out; omega))).mono ?_
      rintro e w5 ⟨f5, L1, cs1, rfl, hrep1, ho5, k5⟩
      have hrep1 : RepR w4 L r L1 cs1 w5 := hrep1
      obtain ⟨hl1, hsz1⟩ := hrep1.bound Hok.out
      have Hrep1 := Lib.hid hrep1
      have hform := hrep1.form
      obtain ⟨b1, A5, n5, c5, A6, n6, c6, d1, rfl⟩ := hform
      have hLl1 : L1.length ≤ 3518437208832 := by have := HLl.out; omega
      have hLs1 : sizeH L1 ≤ 1152921504606846976 := by have := sizeb Hok.out (by have := HLl.out; omega); have := sizeb2 Hok.out (by have := HLl.out; omega); omega
      have hok1 := ho5.sh.ok
      have HOK1 := Lib.hid hok1
      have hb6 : Below w5.heap.size w5 (w5.alloc (.cells #[.int .i64 r.from_, .bool b1, .slice A5 n5 c5, .slice A6 n6 c6, .int .i64 d1] 40)) := bel_alloc (Below.refl _ _) _
      have HO6 := Lib.hid (ho5.below hb6)
      have K6 : Hid (Kept w2 (w5.alloc (.cells #[.int .i64 r.from_, .bool b1, .slice A5 n5 c5, .slice A6 n6 c6, .int .i64 d1] 40)) (fun b => b = o.p ∨ b = o.b ∨ b = o.t.p)) := Lib.hid (K4.out.trans (k5.trans (Kept.of_below hb6)))
      have HC6 : Hid ((w5.alloc (.cells #[.int .i64 r.from_, .bool b1, .slice A5 n5 c5, .slice A6 n6 c6, .int .i64 d1] 40)).heap[w5.heap.size]? = some (.cells #[.int .i64 r.from_, .bool b1, .slice A5 n5 c5, .slice A6 n6 c6, .int .i64 d1] 40 (0, 0))) := Lib.hid (blk_new _ _)
      have HBel6 := Lib.hid hb6
      have h25 : w2.heap.size ≤ w5.heap.size := (K4.out.trans k5).size
      have h24 : w2.heap.size ≤ w4.heap.size := K4.out.size
      clear hrep1 hl1 hsz1 ho5 k5 hb6 hok1 HO4 K4
      go_upto_region 10 with fail
      obtain ⟨w6, hw6⟩ : ∃ w6, w6 = w5.alloc (.cells #[.int .i64 r.from_, .bool b1, .slice A5 n5 c5, .slice A6 n6 c6, .int .i64 d1] 40) := ⟨_, rfl⟩
      rw [← hw6] at HO6 K6 HC6 HBel6 ⊢
      clear hw6
      go_wp2_with fail
      refine (oall_any o f5 L1 _ w6 HO6.out hLl1).mono ?_
      rintro e w7 ⟨v2, r2, rfl, hr2, hp2, hb7⟩
      obtain ⟨Ab, nb, cb, rfl⟩ := slice_of_own hr2.1
      have HR2 := Lib.hid hr2
      have HP2 := Lib.hid hp2
      have HO7 := Lib.hid (HO6.out.below hb7)
      have K7 : Hid (Kept w2 w7 (fun b => b = o.p ∨ b = o.b ∨ b = o.t.p)) := Lib.hid (K6.out.trans (Kept.of_below hb7))
      have HC7 := Lib.hid ((hb7.block _ (blk_lt HC6.out)).trans HC6.out)
      have HBel7 := Lib.hid (HBel6.out.trans (hb7.mono HBel6.out.size))
      have h57 : w5.heap.size < w6.heap.size := blk_lt HC6.out
      have h67 : w6.heap.size ≤ w7.heap.size := hb7.size
      clear hr2 hp2 hb7 HO6 K6 HC6 HBel6
      go_wp2_with fail
      refine (oserve_any o f5 L1 _ [] w7 HO7.out hLl1 hLs1).mono ?_
      rintro e w8 ⟨f8, L2, cs2, rfl, hrep2, ho8, k8⟩
      have hrep2 : RepR w7 L1 r L2 cs2 w8 := hrep2
      obtain rfl : L2 = L1 := Hrep1.out.again hrep2 Hok.out Hm.out
      obtain ⟨b2, A7, n7, c7, A8, n8, c8, d2, rfl⟩ := hrep2.form
      have Hrep2 := Lib.hid hrep2
      have hb9 : Below w8.heap.size w8 (w8.alloc (.cells #[.int .i64 r.from_, .bool b2, .slice A7 n7 c7, .slice A8 n8 c8, .int .i64 d2] 40)) := bel_alloc (Below.refl _ _) _
      have HO9 := Lib.hid (ho8.below hb9)
      have K79 : Hid (Kept w7 (w8.alloc (.cells #[.int .i64 r.from_, .bool b2, .slice A7 n7 c7, .slice A8 n8 c8, .int .i64 d2] 40)) (fun b => b = o.p ∨ b = o.b ∨ b = o.t.p)) := Lib.hid (k8.trans (Kept.of_below hb9))
      have HC9 : Hid ((w8.alloc (.cells #[.int .i64 r.from_, .bool b2, .slice A7 n7 c7, .slice A8 n8 c8, .int .i64 d2] 40)).heap[w8.heap.size]? = some (.cells #[.int .i64 r.from_, .bool b2, .slice A7 n7 c7, .slice A8 n8 c8, .int .i64 d2] 40 (0, 0))) := Lib.hid (blk_new _ _)
      have HBel9 := Lib.hid hb9
      have h78 : w7.heap.size ≤ w8.heap.size := k8.size
      clear hrep2 ho8 k8 hb9 HO7
      go_upto_region 12 with fail
      obtain ⟨w9, hw9⟩ : ∃ w9, w9 = w8.alloc (.cells #[.int .i64 r.from_, .bool b2, .slice A7 n7 c7, .slice A8 n8 c8, .int .i64 d2] 40) := ⟨_, rfl⟩
      rw [← hw9] at HO9 K79 HC9 HBel9 ⊢
      clear hw9
      go_wp2_with fail
      refine (oall_any o f8 L2 [] w9 HO9.out hLl1).mono ?_
      rintro e w10 ⟨v3, r3, rfl, hr3, hp3, hb10⟩
      obtain ⟨Ac, nc, cc, rfl⟩ := slice_of_own hr3.1
      have hr2 : HRow w10 w6.heap.size (.slice Ab nb cb) r2 := (hrow_kept HR2.out K79.out (fun b hb => by omega)).below hb10
      obtain ⟨hd2, hn2⟩ := hr_at hr2
      obtain ⟨hd3, hn3⟩ := hr_at hr3
      have hpp : plainR r2 = plainR r3 := by rw [HP2.out, hp3]
      have hnn : nc = nb := by rw [hn2, hn3, ← plainR_len, ← plainR_len, hpp]
      subst hnn
      have hnb : nc ≤ 3518437208832 := by rw [hn2, ← plainR_len, HP2.out]; exact hLl1
      have hsh := sameH_any Ab Ac nc cb cc r2 r3 w10 hd2 hd3 hpp hnb (hr_lens hr2 HP2.out HOK1.out)
      have HSH := Lib.hid hsh
      have K10 : Hid (Kept w7 w10 (fun b => b = o.p ∨ b = o.b ∨ b = o.t.p)) := Lib.hid (K79.out.trans (Kept.of_below hb10))
      have HC10 := Lib.hid ((hb10.block _ (blk_lt HC9.out)).trans HC9.out)
      have HBel10 := Lib.hid (HBel9.out.trans (hb10.mono HBel9.out.size))
      clear hr2 hr3 hp3 hb10 hd2 hn2 hd3 hn3 hpp hsh HO9 K79 HC9 HBel9
      go_wp2_with fail
      refine HSH.out.mono ?_
      rintro e w11 ⟨rfl, hb11⟩
      have K11 : Hid (Kept w7 w11 (fun b => b = o.p ∨ b = o.b ∨ b = o.t.p)) := Lib.hid (K10.out.trans (Kept.of_below hb11))
      have HC11 := Lib.hid ((hb11.block _ (blk_lt HC10.out)).trans HC10.out)
      have HBel11 := Lib.hid (HBel10.out.trans (hb11.mono HBel10.out.size))
      clear hb11 HSH K10 HC10 HBel10
      go_upto_region 14 with fail
      have KX : Hid (Kept w2 w11 (fun b => b = o.p ∨ b = o.b ∨ b = o.t.p)) := Lib.hid (K7.out.trans K11.out)
      have m0 : w11.heap[w.heap.size]? = some (.cells r.cells.toArray 37 (0, 0)) := KX.out.blk HN2.out (blk_lt HN2.out) (by omega)
      have m1 : w11.heap[w5.heap.size]? = some (.cells #[.int .i64 r.from_, .bool b1, .slice A5 n5 c5, .slice A6 n6 c6, .int .i64 d1] 40 (0, 0)) := K11.out.blk HC7.out (blk_lt HC7.out) (by omega)
      have z0 : w11.cell? ⟨w.heap.size, 0, none⟩ = some (.int .u8 r.kind) := blk_cell m0 0
      have q1 : w11.cell? ⟨w5.heap.size, 1, none⟩ = some (.bool b1) := blk_cell m1 1
      have q2 : w11.cell? ⟨w8.heap.size, 1, none⟩ = some (.bool b2) := blk_cell HC11.out 1
      have HM1 := Lib.hid m1
      have HBX : Hid (Below w.heap.size w w11) := Lib.hid (((Kept.of_below HB2.out).trans KX.out).below (Nat.le_refl _) (fun k hk => by omega))
      have hr1 : HRow w11 w1.heap.size (.slice Aa na ca) r1 := hrow_kept HR1.out KX.out (fun b hb => by omega)
      have hr2 : HRow w11 w6.heap.size (.slice Ab nc cb) r2 := hrow_kept HR2.out K11.out (fun b hb => by omega)
      have hsm : L2 = L → Calls Try.prog 13 #[.slice Aa na ca, .slice Ab nc cb] w11 fun e w' => e = .returned (.bool true) ∧ Below w11.heap.size w11 w' := fun hLL => by
        obtain ⟨hd1, hn1⟩ := hr_at hr1
        obtain ⟨hd2, hn2⟩ := hr_at hr2
        have hpp : plainR r1 = plainR r2 := by rw [HP1.out, HP2.out, hLL]
        have hnn : na = nc := by rw [hn1, hn2, ← plainR_len, ← plainR_len, hpp]
        subst hnn
        exact sameH_any Aa Ab na ca cb r1 r2 w11 hd1 hd2 hpp hnb (hr_lens hr1 HP1.out Hok.out)
      have Hsm := Lib.hid hsm
      clear m0 m1 hr1 hr2 hsm
      by_cases hk1 : r.kind = 1
      · obtain ⟨hi1, hc1⟩ := Hrep1.out.k1 hk1
        obtain ⟨-, hc2⟩ := Hrep2.out.k1 hk1
        have hb1 : b1 = newP L (partR r) := by simp at hc1; exact hc1.1
        have hb2 : b2 = false := by
          have : b2 = newP L2 (partR r) := by simp at hc2; exact hc2.1
          rw [this, hi1]; exact newP_inst L _
        subst hb2
        have hLL : b1 = false → L2 = L := fun h => by
          rw [hi1]; unfold instH; rw [if_neg (by rw [← hb1, h]; exact Bool.false_ne_true)]
        have HLL := Lib.hid hLL
        rw [hk1] at z0
        clear hc1 hc2 hi1 hb1 hLL
        as_aux_lemma =>
        cases b1
        · have HSM := Lib.hid (Hsm.out (HLL.out rfl))
          clear Hsm HLL
          go_wp2_with fail
          refine HSM.out.mono ?_
          rintro e w12 ⟨rfl, hb12⟩
          obtain ⟨wl, hwl⟩ : ∃ wl, wl = w12 := ⟨_, rfl⟩
          have HBL : Hid (Below w.heap.size w wl) := Lib.hid (hwl ▸ HBX.out.trans (hb12.mono HBX.out.size))
          rw [← hwl]
          clear hb12 hwl
          go_wp2_with fail
          refine (lives15_any wl).mono ?_
          rintro e wm ⟨rfl, hbm⟩
          have HBM := Lib.hid (HBL.out.trans (hbm.mono HBL.out.size))
          clear hbm
          go_wp2_with fail
          go_ret
          exact ⟨rfl, HBM.out⟩
        · obtain ⟨wl, hwl⟩ : ∃ wl, wl = w11 := ⟨_, rfl⟩
          have HBL : Hid (Below w.heap.size w wl) := Lib.hid (hwl ▸ HBX.out)
          rw [← hwl] at z0 q1 q2 ⊢
          clear hwl
          go_wp2_with fail
          refine (lives15_any wl).mono ?_
          rintro e wm ⟨rfl, hbm⟩
          have HBM := Lib.hid (HBL.out.trans (hbm.mono HBL.out.size))
          clear hbm
          go_wp2_with fail
          go_ret
          exact ⟨rfl, HBM.out⟩
      · by_cases hk4 : r.kind = 4
        · rw [hk4] at z0
          as_aux_lemma =>
          obtain ⟨wl, hwl⟩ : ∃ wl, wl = w11 := ⟨_, rfl⟩
          have HBL : Hid (Below w.heap.size w wl) := Lib.hid (hwl ▸ HBX.out)
          rw [← hwl] at z0 q1 q2 ⊢
          clear hwl
          go_wp2_with fail
          refine (lives15_any wl).mono ?_
          rintro e wm ⟨rfl, hbm⟩
          have HBM := Lib.hid (HBL.out.trans (hbm.mono HBL.out.size))
          clear hbm
          go_wp2_with fail
          go_ret
          exact ⟨rfl, HBM.out⟩
        · have hk : r.kind = 2 ∨ r.kind = 3 ∨ r.kind = 5 := by have := mayR_kind Hm.out; omega
          obtain ⟨hLL, A1', n1', c1', A2', n2', c2', ha, e1, g1, g2, g3⟩ := Hrep1.out.rows hk
          obtain ⟨-, A3', n3', c3', A4', n4', c4', hb, e2, g4, g5, g6⟩ := Hrep2.out.rows hk
          simp at e1 e2
          obtain ⟨rfl, ⟨rfl, rfl, rfl⟩, ⟨rfl, rfl, rfl⟩, rfl⟩ := e1
          obtain ⟨rfl, ⟨rfl, rfl, rfl⟩, ⟨rfl, rfl, rfl⟩, rfl⟩ := e2
          subst hLL
          as_aux_lemma =>
          have HSM := Lib.hid (Hsm.out rfl)
          clear Hsm
          go_wp2_with fail
          refine HSM.out.mono ?_
          rintro e w12 ⟨rfl, hb12⟩
          have HB12 := Lib.hid (HBX.out.trans (hb12.mono HBX.out.size))
          have K12 : Hid (Kept w7 w12 (fun b => b = o.p ∨ b = o.b ∨ b = o.t.p)) := Lib.hid (K11.out.trans (Kept.of_below hb12))
          have K5 : Hid (Kept w5 w12 (fun b => b = o.p ∨ b = o.b ∨ b = o.t.p)) := Lib.hid ((Kept.of_below HBel7.out).trans K12.out)
          have KB : Hid (Kept w8 w12 (fun b => b = o.p ∨ b = o.b ∨ b = o.t.p)) := Lib.hid (Kept.of_below (HBel11.out.trans (hb12.mono HBel11.out.size)))
          have m1 := (hb12.block _ (blk_lt HM1.out)).trans HM1.out
          have m2 := (hb12.block _ (blk_lt HC11.out)).trans HC11.out
          have hE1 := en_at2 (ownsRow_kept g1 K5.out (fun b hb => by omega))
          have hE2 := en_at2 (ownsRow_kept g4 KB.out (fun b hb => by omega))
          have hn57 : n7 = n5 := by rw [← hE1.len, ← hE2.len]
          have hH1' := hrow_kept g2 K5.out (fun b hb => by omega)
          obtain ⟨hH1, hn6⟩ := hr_at hH1'
          obtain ⟨hH2, hn8⟩ := hr_at (hrow_kept g5 KB.out (fun b hb => by omega))
          have hpp : plainR ha = plainR hb := by rw [g3, g6]
          have hn68 : n8 = n6 := by rw [hn6, hn8, ← plainR_len, ← plainR_len, hpp]
          subst hn57 hn68
          have hnE : n7 ≤ 4398046511104 := by have := repE_len L2 r; have := hE1.len; have := HLl.out; omega
          have hnH : n8 ≤ 3518437208832 := by have := repH_len L2 r; rw [← g3, plainR_len, ← hn6] at this; have := HLl.out; omega
          have hsr := sameR_any r.from_ (repO L2 r) 0 A5 A7 A6 A8 n7 n8 c5 c7 c6 c8 (repE L2 r) ha hb w12 hE1 hE2 hnE hH1 hH2 hpp hnH (hr_lens hH1' g3 (repH_ok HOK1.out r))
          have HSR := Lib.hid hsr
          have a0 : w12.cell? ⟨w5.heap.size, 0, none⟩ = some (.int .i64 r.from_) := blk_cell m1 0
          have a1 : w12.cell? ⟨w5.heap.size, 1, none⟩ = some (.bool (repO L2 r)) := blk_cell m1 1
          have a2 : w12.cell? ⟨w5.heap.size, 2, none⟩ = some (.slice A5 n7 c5) := blk_cell m1 2
          have a3 : w12.cell? ⟨w5.heap.size, 3, none⟩ = some (.slice A6 n8 c6) := blk_cell m1 3
          have a4 : w12.cell? ⟨w5.heap.size, 4, none⟩ = some (.int .i64 0) := blk_cell m1 4
          have b0 : w12.cell? ⟨w8.heap.size, 0, none⟩ = some (.int .i64 r.from_) := blk_cell m2 0
          have b1 : w12.cell? ⟨w8.heap.size, 1, none⟩ = some (.bool (repO L2 r)) := blk_cell m2 1
          have b2 : w12.cell? ⟨w8.heap.size, 2, none⟩ = some (.slice A7 n7 c7) := blk_cell m2 2
          have b3 : w12.cell? ⟨w8.heap.size, 3, none⟩ = some (.slice A8 n8 c8) := blk_cell m2 3
          have b4 : w12.cell? ⟨w8.heap.size, 4, none⟩ = some (.int .i64 0) := blk_cell m2 4
          clear hb12 m1 m2 hE1 hE2 hH1' hH1 hn6 hH2 hn8 hpp hsr g1 g2 g3 g4 g5 g6
          go_wp2_with fail
          refine HSR.out.mono ?_
          rintro e w13 ⟨rfl, hb13⟩
          obtain ⟨wl, hwl⟩ : ∃ wl, wl = w13 := ⟨_, rfl⟩
          have HBL : Hid (Below w.heap.size w wl) := Lib.hid (hwl ▸ HB12.out.trans (hb13.mono HB12.out.size))
          rw [← hwl]
          clear hb13 hwl
          go_wp2_with fail
          refine (lives15_any wl).mono ?_
          rintro e wm ⟨rfl, hbm⟩
          have HBM := Lib.hid (HBL.out.trans (hbm.mono HBL.out.size))
          clear hbm
          go_wp2_with fail
          go_ret
          exact ⟨rfl, HBM.out⟩
end Go.Proofs.Ytieiehloapnjgaa

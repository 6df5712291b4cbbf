/- FoldSteps: the walk of its law. -/
import Derived.Test.YtdcnaieieggclaaFs0
import Derived.Deep.DeepCutAuto
import Derived.Deep.RegionHeld3
namespace Go.Proofs.Ytdcnaieieggclaa
open Go.RowKit
set_option linter.unusedVariables false
set_option linter.unusedSimpArgs false

open Go.Maps
set_option maxHeartbeats 8000000 in
set_option maxRecDepth 100000 in
theorem lawsteps_any (A : Option Addr) (len cap : Nat) (rs : List RTx) (a b : Int) (key fin : ByteArray) (w : World) (hw : TxsAt w w.heap.size A len rs) (hl : len * 32 ≤ 140737488351232) (hc : len ≤ cap)
    (hs : ∀ r ∈ rs, ∀ x ∈ r.ws, x.key.size ≤ 140737488351232 ∧ x.val.size ≤ 140737488351232) (hk1 : key.size ≤ 140737488351232) (hk2 : fin.size ≤ 140737488351232) :
    Calls Try.prog 7 #[.slice A len cap, .agg #[.int .i64 a, .int .i64 b, .string key, .string fin]] w (TrueB w) := by
  have hlen := Lib.hid hw.1.len
  obtain ⟨W1, hW1⟩ : ∃ W1 : World, W1 = w.alloc (.cells #[.int .i64 a, .int .i64 b, .string key, .string fin] 49) := ⟨_, rfl⟩
  have hz : W1.heap.size = w.heap.size + 1 := by rw [hW1]; simp
  have hB : Below w.heap.size w W1 := by rw [hW1]; exact (Below.refl _ _).alloc (Nat.le_refl _) _
  have hKw : ∀ X : World, Below W1.heap.size W1 X → X.cell? ⟨w.heap.size, 2, none⟩ = some (.string key) ∧ X.cell? ⟨w.heap.size, 3, none⟩ = some (.string fin) ∧ TxsAt X X.heap.size A len rs ∧ Below w.heap.size w X ∧ w.heap.size < X.heap.size ∧ W1.heap.size ≤ X.heap.size := fun X h =>
    have hh : w.heap.size < W1.heap.size := by omega
    have h0 : Below w.heap.size w X := hB.trans (h.mono hB.size)
    ⟨(h.cell (p := ⟨w.heap.size, 2, none⟩) hh).trans (by rw [hW1]; simp [go_sem]), (h.cell (p := ⟨w.heap.size, 3, none⟩) hh).trans (by rw [hW1]; simp [go_sem]), (hw.below h0).more h0.size, h0, by have := h.size; omega, h.size⟩
  have HK := Lib.hid hKw
  have Hk23 := Lib.hid (fun (X : World) (h : Below W1.heap.size W1 X) => And.intro (hKw X h).1 (hKw X h).2.1)
  have Hz := Lib.hid hz
  obtain ⟨i0, hi, hz0, hz1, hz2⟩ := info_parts info_ent
  have Hs := Lib.hid hs
  clear hz hB hKw hs
  go_enter Try.func7, Try.ntmps7
  go_wp2_with fail
  rw [← hW1]
  have HW1 := Lib.hid hW1
  clear hW1
  obtain ⟨bb, hbb⟩ : ∃ bb, bb = beyB 0 [txsz len rs, (key.size : Int), (fin.size : Int)] := ⟨_, rfl⟩
  obtain ⟨fl, hfl⟩ : ∃ fl, fl = (bb || !decide (logErr rs 1 = 0) || decide (len = 0)) := ⟨_, rfl⟩
  have Hbb := Lib.hid hbb
  have Hfl := Lib.hid hfl
  clear hbb hfl
  obtain ⟨k2, k3, -, -, -, -⟩ := HK.out W1 (Below.refl _ _)
  go_upto_region 1 with fail
  go_cut [56] (fun s56 wx => s56 = .bool fl ∧ Below W1.heap.size W1 wx)
  case first =>
    -- DONE
    have hA1 := Lib.hid (fun n : Ext W1 => Ext.call (alive_any n.X))
    have hT1 := Lib.hid (fun n : Ext W1 => Ext.call ((txsizex_any A len cap rs n.X (HK.out n.X n.h).2.2.1 (by omega) Hs.out).mono fun e w' h => ⟨h.1, h.2.2⟩))
    have htz := txsz_bd rs len (by omega) (by omega) (fun r hr => ⟨by have h5 := (hw.2 r hr); have := h5.1.len; omega, Hs.out r hr⟩)
    obtain ⟨q0, q1⟩ := htz
    have k2 : ∀ n : Ext W1, n.X.cell? ⟨w.heap.size, 2, none⟩ = some (.string key) := fun n => (HK.out n.X n.h).1
    have k3 : ∀ n : Ext W1, n.X.cell? ⟨w.heap.size, 3, none⟩ = some (.string fin) := fun n => (HK.out n.X n.h).2.1
    cases bb
    · have hM := Lib.hid (may_any A len cap rs)
      by_cases he : logErr rs 1 = 0
      · as_aux_lemma =>
        have Hd := Lib.hid (decide_eq_true he)
        have Hfl2 := Lib.hid (show fl = decide (len = 0) by rw [Hfl.out, Hd.out]; simp)
        clear he
        refine wp_region_ext_tail 11 (by kernel_rfl) (by kernel_rfl) ?_
        simp only [List.take_succ_cons, List.take_zero, List.drop_succ_cons, List.drop_zero]
        repeat (go_big_quiet_step ((first | (go_at_call 18; exact hA1.out _) | (go_at_call 13; exact hT1.out _))))
        refine Ext.tail fun X hX => ?_
        obtain ⟨-, -, -, -, -, hsX⟩ := HK.out X hX
        have HX := Lib.hid hX
        clear k2 k3 hX
        go_wp2_with fail
        refine (beyondx_any (some ⟨X.heap.size, 0, none⟩) 3 3 [txsz len rs, (key.size : Int), (fin.size : Int)] _ (by exact rowAt_block [txsz len rs, (key.size : Int), (fin.size : Int)] (len_int _) (blk_new _ _) (by simp) (fun j u hu => by simpa [Icell] using hu)) (by omega) (fun x hx => by simp at hx; omega)).mono ?_
        rintro e w3 ⟨rfl, hb3⟩
        rw [← Hbb.out]
        have hbx3 : Below W1.heap.size W1 w3 := (bel_alloc HX.out _).trans (hb3.mono (by simp; omega))
        obtain ⟨-, -, t3, -, -, hs3⟩ := HK.out _ hbx3
        have Hb3 := Lib.hid hbx3
        have T3 := Lib.hid t3
        clear hb3 hbx3 t3
        go_wp2_with fail
        refine (hM.out w3 T3.out (by omega)).mono ?_
        rintro e w4 ⟨rfl, hb4⟩
        rw [Hd.out]
        have Hb4 := Lib.hid (Hb3.out.trans (hb4.mono hs3))
        clear hb4
        go_wp2_with fail
        go_meet
        case rel => exact ⟨by rw [Hfl2.out]; congr 1; cases len <;> simp <;> omega, Hb4.out⟩
      · as_aux_lemma =>
        have Hd := Lib.hid (decide_eq_false he)
        have Hfl2 := Lib.hid (show fl = true by rw [Hfl.out, Hd.out]; simp)
        clear he
        refine wp_region_ext_tail 11 (by kernel_rfl) (by kernel_rfl) ?_
        simp only [List.take_succ_cons, List.take_zero, List.drop_succ_cons, List.drop_zero]
        repeat (go_big_quiet_step ((first | (go_at_call 18; exact hA1.out _) | (go_at_call 13; exact hT1.out _))))
        refine Ext.tail fun X hX => ?_
        obtain ⟨-, -, -, -, -, hsX⟩ := HK.out X hX
        have HX := Lib.hid hX
        clear k2 k3 hX
        go_wp2_with fail
        refine (beyondx_any (some ⟨X.heap.size, 0, none⟩) 3 3 [txsz len rs, (key.size : Int), (fin.size : Int)] _ (by exact rowAt_block [txsz len rs, (key.size : Int), (fin.size : Int)] (len_int _) (blk_new _ _) (by simp) (fun j u hu => by simpa [Icell] using hu)) (by omega) (fun x hx => by simp at hx; omega)).mono ?_
        rintro e w3 ⟨rfl, hb3⟩
        rw [← Hbb.out]
        have hbx3 : Below W1.heap.size W1 w3 := (bel_alloc HX.out _).trans (hb3.mono (by simp; omega))
        obtain ⟨-, -, t3, -, -, hs3⟩ := HK.out _ hbx3
        have Hb3 := Lib.hid hbx3
        have T3 := Lib.hid t3
        clear hb3 hbx3 t3
        go_wp2_with fail
        refine (hM.out w3 T3.out (by omega)).mono ?_
        rintro e w4 ⟨rfl, hb4⟩
        rw [Hd.out]
        have Hb4 := Lib.hid (Hb3.out.trans (hb4.mono hs3))
        clear hb4
        go_wp2_with fail
        go_meet
        case rel => exact ⟨by rw [Hfl2.out], Hb4.out⟩
    · as_aux_lemma =>
      have Hfl2 := Lib.hid (show fl = true by rw [Hfl.out]; simp)
      refine wp_region_ext_tail 11 (by kernel_rfl) (by kernel_rfl) ?_
      simp only [List.take_succ_cons, List.take_zero, List.drop_succ_cons, List.drop_zero]
      repeat (go_big_quiet_step ((first | (go_at_call 18; exact hA1.out _) | (go_at_call 13; exact hT1.out _))))
      refine Ext.tail fun X hX => ?_
      obtain ⟨-, -, -, -, -, hsX⟩ := HK.out X hX
      have HX := Lib.hid hX
      clear k2 k3 hX
      go_wp2_with fail
      refine (beyondx_any (some ⟨X.heap.size, 0, none⟩) 3 3 [txsz len rs, (key.size : Int), (fin.size : Int)] _ (by exact rowAt_block [txsz len rs, (key.size : Int), (fin.size : Int)] (len_int _) (blk_new _ _) (by simp) (fun j u hu => by simpa [Icell] using hu)) (by omega) (fun x hx => by simp at hx; omega)).mono ?_
      rintro e w3 ⟨rfl, hb3⟩
      rw [← Hbb.out]
      have hbx3 : Below W1.heap.size W1 w3 := (bel_alloc HX.out _).trans (hb3.mono (by simp; omega))
      obtain ⟨-, -, t3, -, -, hs3⟩ := HK.out _ hbx3
      have Hb3 := Lib.hid hbx3
      have T3 := Lib.hid t3
      clear hb3 hbx3 t3
      go_wp2_with fail
      go_meet
      case rel => exact ⟨by rw [Hfl2.out], Hb3.out⟩
    -- ENDDONE
  case rest =>
    obtain ⟨wd, hwd⟩ : ∃ wd : World, wd = wc := ⟨_, rfl⟩
    subst hwd
    obtain ⟨rfl, hbW⟩ := hcut
    obtain ⟨-, -, tD, bD, -, hsD⟩ := HK.out wd hbW
    have TD := Lib.hid tD
    have BD := Lib.hid bD
    have HbW := Lib.hid hbW
    clear tD bD hbW k2 k3
    cases fl
    · have hf := Hfl.out
      have he : logErr rs 1 = 0 := by
        apply Classical.byContradiction; intro h; simp [h] at hf
      have hl0 : 0 < len := by
        apply Classical.byContradiction; intro h; obtain rfl : len = 0 := by omega
        simp at hf
      obtain ⟨m, hm⟩ : ∃ m, len = m + 1 := ⟨len - 1, by omega⟩
      have He := Lib.hid he
      have hlm : (len : Int) - 1 = (m : Int) := by omega
      have H1 := Lib.hid (store_ok (k := len) he (by rw [hlen.out]; exact Nat.le_refl _) wd TD.out (by omega) hc)
      have Hm := Lib.hid hm
      have hml : m < len := by omega
      clear hf he hm Hfl Hbb
      go_wp2_with fail
      refine H1.out.mono ?_
      rintro e w5 ⟨v5, rfl, ho5, hb5⟩
      obtain ⟨Xs, hXs⟩ : ∃ Xs, Xs = foldE rs len := ⟨_, rfl⟩
      rw [← hXs] at ho5
      have HXs := Lib.hid hXs
      have hXl : Xs.length ≤ 2097152 := by rw [hXs]; exact len_foldE_le He.out (by rw [hlen.out]; exact Nat.le_refl _)
      obtain ⟨A5, c5, rfl, hx5, -, hc5⟩ := ho5.row
      have hb15 := HbW.out.trans (hb5.mono hsD)
      obtain ⟨-, -, t5, -, -, hs5⟩ := HK.out w5 hb15
      have H2 := Lib.hid (store_ok (k := m) He.out (by rw [hlen.out]; omega) w5 t5 (by omega) hc)
      have Hx5 := Lib.hid hx5
      have Hb15 := Lib.hid hb15
      clear ho5 hx5 hb15 t5 hb5 hXs
      go_wp2_with fail
      refine H2.out.mono ?_
      rintro e w6 ⟨v6, rfl, ho6, hb6⟩
      obtain ⟨Ys, hYs⟩ : ∃ Ys, Ys = foldE rs m := ⟨_, rfl⟩
      rw [← hYs] at ho6
      have HYs := Lib.hid hYs
      have hYl : Ys.length ≤ 2097152 := by rw [hYs]; exact len_foldE_le He.out (by rw [hlen.out]; omega)
      obtain ⟨A6, c6, rfl, hx6, -, hc6⟩ := ho6.row
      have hb16 := Hb15.out.trans (hb6.mono hs5)
      obtain ⟨-, -, t6, b6, -, hs6⟩ := HK.out w6 hb16
      obtain ⟨b, off, r, rfl, hbl, hx, x0, x1, hws, hrl⟩ := t6.cell2 hml
      have Hx5 := Lib.hid (Hx5.out.below hb6)
      have hb6sz : w5.heap.size ≤ w6.heap.size := hb6.size
      have Hx6 := Lib.hid hx6
      have Hb16 := Lib.hid hb16
      have Hx := Lib.hid hx
      clear ho6 hx6 hb16 t6 b6 hb6 hx hws hYs
      go_wp2_with fail
      obtain ⟨wE, hwE⟩ : ∃ wE : World, wE = w6.alloc (.cells #[.int .i64 r.number, .slice r.A r.len r.cap] 37) := ⟨_, rfl⟩
      rw [← hwE]
      have hblkE : wE.heap[w6.heap.size]? = some (.cells #[.int .i64 r.number, .slice r.A r.len r.cap] 37 (0, 0)) := by
        rw [hwE]; exact blk_new _ _
      have hb6E : Below w6.heap.size w6 wE := by rw [hwE]; exact bel_alloc (Below.refl _ _) _
      have hlE := blk_lt hblkE
      have hFE : ∀ X : World, Below wE.heap.size wE X → X.cell? ⟨w6.heap.size, 0, none⟩ = some (.int .i64 r.number) ∧ X.cell? ⟨w6.heap.size, 1, none⟩ = some (.slice r.A r.len r.cap) ∧ WsAt X w6.heap.size r.A r.len r.ws ∧ EntsAt X w6.heap.size A5 Xs.length Xs ∧ EntsAt X w6.heap.size A6 Ys.length Ys ∧ Below W1.heap.size W1 X ∧ wE.heap.size ≤ X.heap.size := fun X h => by
        have h6 : Below w6.heap.size w6 X := hb6E.trans (h.mono hb6E.size)
        have h16 : Below W1.heap.size W1 X := Hb16.out.trans (h6.mono hs6)
        obtain ⟨-, -, tX, -, -, -⟩ := HK.out w6 Hb16.out
        have c0 := blk_cell ((h.block _ hlE).trans hblkE) 0
        have c1 := blk_cell ((h.block _ hlE).trans hblkE) 1
        simp only [List.getElem?_toArray, List.getElem?_cons_zero, List.getElem?_cons_succ] at c0 c1
        exact ⟨c0, c1, (tX.2 r (List.mem_of_getElem? Hx.out)).1.below h6, (Hx5.out.more hb6sz).below h6, Hx6.out.below h6, h16, h.size⟩
      have HFE := Lib.hid hFE
      clear hwE hblkE hb6E hFE x0 x1
      go_loopw [10] (fun i wi => ∃ j : Nat, j ≤ Xs.length ∧ i = .int .i64 j ∧ Hid (Below wE.heap.size wE wi)) (fun i _ => Xs.length - (RowKit.intOf i).toNat)
      case atStart => exact ⟨0, Nat.zero_le _, rfl, Lib.hid (Below.refl _ _)⟩
      case round =>
        obtain ⟨j, hj, rfl, HBj⟩ := hrel
        obtain ⟨wr1, hwr⟩ : ∃ wr1 : World, wr1 = wr := ⟨_, rfl⟩
        subst hwr
        by_cases hjl : j < Xs.length
        · as_aux_lemma =>
          -- DONE
          obtain ⟨y0, y1, yW, yX, -, -, hsj⟩ := HFE.out wr1 HBj.out
          obtain ⟨b5, o5, x, rfl, hbl5, hxe, z0, z1⟩ := ent_cell2 yX hjl
          have hxm := List.mem_of_getElem? hxe
          rw [HXs.out] at hxm
          have hstep := step_x (n := m) Hx.out (by rw [← Hm.out]; exact hxm)
          obtain ⟨la, lb, lc, ok, hlv, hok1, hok0⟩ : ∃ la lb lc ok, lastV (lastW r.ws x.key) = .tuple #[.agg #[.string la, .string lb, .bool lc], .bool ok] ∧ (ok = true → lc = false ∧ lb = x.val) ∧ (ok = false → mget (foldM rs m) x.key = some x.val) := by
            cases ho : lastW r.ws x.key with
            | none => exact ⟨_, _, _, _, rfl, fun h => (by cases h), fun _ => hstep.1 ho⟩
            | some y => exact ⟨y.key, y.val, y.drop, true, rfl, fun _ => hstep.2 y ho, fun h => (by cases h)⟩
          have hcl := fun X (h : Below wr1.heap.size wr1 X) => last_any r.number r.A r.len r.cap r.ws x.key X (by obtain ⟨-, -, q, -, -, -, q2⟩ := HFE.out X (HBj.out.trans (h.mono hsj)); exact q.more (by omega)) (by omega)
          rw [hlv] at hcl
          have Hcl := Lib.hid hcl
          have Hok1 := Lib.hid hok1
          have Hok0 := Lib.hid hok0
          have Hkb := Lib.hid (key_ok He.out hxm)
          have HS11 := Lib.hid (show ∀ X : World, Below wr1.heap.size wr1 X → X.cell? ⟨w6.heap.size, 0, none⟩ = some (.int .i64 r.number) ∧ X.cell? ⟨w6.heap.size, 1, none⟩ = some (.slice r.A r.len r.cap) ∧ X.cell? ⟨b5, o5 + j * 2, none⟩ = some (.string x.key) from fun X h =>
            ⟨(h.cell (p := ⟨w6.heap.size, 0, none⟩) (by show w6.heap.size < _; omega)).trans y0, (h.cell (p := ⟨w6.heap.size, 1, none⟩) (by show w6.heap.size < _; omega)).trans y1, (h.cell (p := ⟨b5, o5 + j * 2, none⟩) (by show b5 < _; omega)).trans z0⟩)
          have HS13 := Lib.hid (show ∀ X : World, Below wr1.heap.size wr1 X → X.cell? ⟨b5, o5 + j * 2 + 1, none⟩ = some (.string x.val) from fun X h => (h.cell (p := ⟨b5, o5 + j * 2 + 1, none⟩) (by show b5 < _; omega)).trans z1)
          clear hlv hok1 hok0 hcl hxm hstep hxe y0 y1 z0 z1 yW yX
          go_upto_region 11 with fail
          go_cut [11, 12] (fun s11 s12 wx => ∃ g, s11 = .pointer (some ⟨g, 0, none⟩) ∧ s12 = .bool ok ∧ wr1.heap.size ≤ g ∧ wx.heap[g]? = some (.cells #[.string la, .string lb, .bool lc] 39 (0, 0)) ∧ Below wr1.heap.size wr1 wx)
          case first =>
            have e1 : IntKind.i64.wrap (j : Int) = j := by rw [IntKind.wrap_i64]; omega
            have e3 : (0 : Int) ≤ (j : Int) := by omega
            have e5 : (j : Int) < (Xs.length : Int) := by omega
            go_region_held3 (fun w' => w'.cell? ⟨w6.heap.size, 0, none⟩ = some (.int .i64 r.number) ∧ w'.cell? ⟨w6.heap.size, 1, none⟩ = some (.slice r.A r.len r.cap) ∧ w'.cell? ⟨b5, o5 + j * 2, none⟩ = some (.string x.key))
              (first | (refine HS11.out _ ?_; (first | exact bel_drew (Below.refl _ _) | exact bel_drew (bel_alloc (Below.refl _ _) _) | exact Hb10.out | exact bel_alloc Hb10.out _ | exact bel_set (bel_set (bel_set Hb10.out (Nat.le_refl _) _) (Nat.le_refl _) _) (Nat.le_refl _) _ | exact bel_set (bel_set (bel_set (bel_alloc Hb10.out _) hs10 _) hs10 _) hs10 _)))
              (first
                | (go_at_call 20; refine (Hcl.out _ (bel_drew (Below.refl _ _))).mono ?_; rintro e w10 ⟨rfl, hb10⟩; have hbx : Below wr1.heap.size wr1 w10 := (bel_drew (Below.refl _ _)).trans hb10; have hs10 := hbx.size; have Hb10 := Lib.hid hbx; clear hb10 hbx)
                | (go_at_call 20; refine (Hcl.out _ (bel_drew (bel_alloc (Below.refl _ _) _))).mono ?_; rintro e w10 ⟨rfl, hb10⟩; have hbk : w10.heap[wr1.heap.size]? = some (.cells #[.string ⟨#[]⟩, .string ⟨#[]⟩, .bool false] 39 (0, 0)) := (hb10.block wr1.heap.size (by show wr1.heap.size < _; simp)).trans (blk_new _ _); have hbx : Below wr1.heap.size wr1 w10 := (bel_drew (bel_alloc (Below.refl _ _) _)).trans (hb10.mono (by show wr1.heap.size ≤ _; simp)); have hs10 := hbx.size; have Hb10 := Lib.hid hbx; have k0 := blk_cell hbk 0; have k1 := blk_cell hbk 1; have k2 := blk_cell hbk 2; have f0 := blk_frozen hbk 0; have f1 := blk_frozen hbk 1; have f2 := blk_frozen hbk 2; simp only [List.getElem?_toArray, List.getElem?_cons_zero, List.getElem?_cons_succ] at k0 k1 k2; have Hbk := Lib.hid hbk; clear hb10 hbx hbk))
            · go_wp2_with fail
              go_meet
              case rel => exact ⟨_, rfl, rfl, hs10, blk_new _ _, bel_alloc Hb10.out _⟩
            · go_wp2_with fail
              go_meet
              case rel => exact ⟨_, rfl, rfl, Nat.le_refl _, by simpa using blk_set (blk_set (blk_set Hbk.out 0 (.string la)) 1 (.string lb)) 2 (.bool lc), bel_set (bel_set (bel_set Hb10.out (Nat.le_refl _) _) (Nat.le_refl _) _) (Nat.le_refl _) _⟩
          case rest =>
            obtain ⟨wq, hwq⟩ : ∃ wq : World, wq = wc := ⟨_, rfl⟩
            subst hwq
            obtain ⟨g, rfl, rfl, hg, hblk, hbc⟩ := hcut
            have hbw := HBj.out.trans (hbc.mono hsj)
            obtain ⟨-, -, -, -, -, q6, q7⟩ := HFE.out wq hbw
            obtain ⟨-, -, tq, -, -, -⟩ := HK.out wq q6
            have hget := get_ok (k := m) He.out (by rw [hlen.out]; omega) Hkb.out wq tq (by omega) hc
            obtain ⟨-, -, u2⟩ := HS11.out wq hbc
            have hgl := blk_lt hblk
            have Hblk := Lib.hid hblk
            have Hbc := Lib.hid hbc
            have Hbw := Lib.hid hbw
            have e1 : IntKind.i64.wrap (j : Int) = j := by rw [IntKind.wrap_i64]; omega
            have e3 : (0 : Int) ≤ (j : Int) := by omega
            have e5 : (j : Int) < (Xs.length : Int) := by omega
            clear hblk hbc hbw tq q6
            cases ok
            · rw [Hok0.out rfl] at hget
              have Hget := Lib.hid hget
              clear hget
              go_wp2_with fail
              refine Hget.out.mono ?_
              rintro e w13 ⟨rfl, hb13⟩
              have z1 := HS13.out w13 (Hbc.out.trans (hb13.mono (by omega)))
              have Hb13 := Lib.hid (Hbw.out.trans (hb13.mono q7))
              clear hb13
              go_wp2_with fail
              go_quiet (fail)
              go_wp2_with fail
              exact ⟨⟨j + 1, by omega, by go_num, Lib.hid (below_drewN Hb13.out _)⟩, by simp [RowKit.intOf]; omega⟩
            · obtain ⟨rfl, rfl⟩ := Hok1.out rfl
              obtain ⟨gv, hgv⟩ : ∃ o, o = mget (foldM rs m) x.key := ⟨_, rfl⟩
              rw [← hgv] at hget
              have Hget := Lib.hid hget
              clear hget hgv
              go_wp2_with fail
              refine Hget.out.mono ?_
              rintro e w13 ⟨rfl, hb13⟩
              have z1 := HS13.out w13 (Hbc.out.trans (hb13.mono (by omega)))
              have hb1 := (hb13.block g hgl).trans Hblk.out
              have k0 := blk_cell hb1 0
              have k1 := blk_cell hb1 1
              have k2 := blk_cell hb1 2
              simp only [List.getElem?_toArray, List.getElem?_cons_zero, List.getElem?_cons_succ] at k0 k1 k2
              have Hb13 := Lib.hid (Hbw.out.trans (hb13.mono q7))
              clear hb13 hb1
              go_wp2_with fail
              go_quiet (fail)
              go_wp2_with fail
              exact ⟨⟨j + 1, by omega, by go_num, Lib.hid (below_drewN Hb13.out _)⟩, by simp [RowKit.intOf]; omega⟩
          -- ENDDONE
        · obtain rfl : Xs.length = j := by omega
          go_wp2_with fail
          go_loopw [16] (fun i wi => ∃ j : Nat, j ≤ Ys.length ∧ i = .int .i64 j ∧ Hid (Below wE.heap.size wE wi)) (fun i _ => Ys.length - (RowKit.intOf i).toNat)
          case atStart => exact ⟨0, Nat.zero_le _, rfl, HBj⟩
          case round =>
            obtain ⟨j, hj, rfl, HBj⟩ := hrel
            obtain ⟨wr1, hwr⟩ : ∃ wr1 : World, wr1 = wr := ⟨_, rfl⟩
            subst hwr
            by_cases hjl : j < Ys.length
            · as_aux_lemma =>
              -- DONE
              obtain ⟨y0, y1, yW, -, yX, -, hsj⟩ := HFE.out wr1 HBj.out
              obtain ⟨b5, o5, x, rfl, hbl5, hxe, z0, z1⟩ := ent_cell2 yX hjl
              have hxm := List.mem_of_getElem? hxe
              rw [HYs.out] at hxm
              have hstep := step_y (n := m) Hx.out hxm
              rw [← Hm.out] at hstep
              obtain ⟨la, lb, lc, ok, hlv, hok1, hok0⟩ : ∃ la lb lc ok, lastV (lastW r.ws x.key) = .tuple #[.agg #[.string la, .string lb, .bool lc], .bool ok] ∧ (ok = true → (mget (foldM rs len) x.key).isSome = !lc) ∧ (ok = false → mget (foldM rs len) x.key = some x.val) := by
                cases ho : lastW r.ws x.key with
                | none => exact ⟨_, _, _, _, rfl, fun h => (by cases h), fun _ => hstep.1 ho⟩
                | some y => exact ⟨y.key, y.val, y.drop, true, rfl, fun _ => hstep.2 y ho, fun h => (by cases h)⟩
              have hcl := fun X (h : Below wr1.heap.size wr1 X) => last_any r.number r.A r.len r.cap r.ws x.key X (by obtain ⟨-, -, q, -, -, -, q2⟩ := HFE.out X (HBj.out.trans (h.mono hsj)); exact q.more (by omega)) (by omega)
              rw [hlv] at hcl
              have Hcl := Lib.hid hcl
              have Hok1 := Lib.hid hok1
              have Hok0 := Lib.hid hok0
              have Hkb := Lib.hid (key_ok He.out hxm)
              have HS11 := Lib.hid (show ∀ X : World, Below wr1.heap.size wr1 X → X.cell? ⟨w6.heap.size, 0, none⟩ = some (.int .i64 r.number) ∧ X.cell? ⟨w6.heap.size, 1, none⟩ = some (.slice r.A r.len r.cap) ∧ X.cell? ⟨b5, o5 + j * 2, none⟩ = some (.string x.key) from fun X h =>
                ⟨(h.cell (p := ⟨w6.heap.size, 0, none⟩) (by show w6.heap.size < _; omega)).trans y0, (h.cell (p := ⟨w6.heap.size, 1, none⟩) (by show w6.heap.size < _; omega)).trans y1, (h.cell (p := ⟨b5, o5 + j * 2, none⟩) (by show b5 < _; omega)).trans z0⟩)
              have HS13 := Lib.hid (show ∀ X : World, Below wr1.heap.size wr1 X → X.cell? ⟨b5, o5 + j * 2 + 1, none⟩ = some (.string x.val) from fun X h => (h.cell (p := ⟨b5, o5 + j * 2 + 1, none⟩) (by show b5 < _; omega)).trans z1)
              clear hlv hok1 hok0 hcl hxm hstep hxe y0 y1 z0 z1 yW yX
              go_upto_region 18 with fail
              go_cut [17, 18] (fun s11 s12 wx => ∃ g, s11 = .pointer (some ⟨g, 0, none⟩) ∧ s12 = .bool ok ∧ wr1.heap.size ≤ g ∧ wx.heap[g]? = some (.cells #[.string la, .string lb, .bool lc] 39 (0, 0)) ∧ Below wr1.heap.size wr1 wx)
              case first =>
                have e1 : IntKind.i64.wrap (j : Int) = j := by rw [IntKind.wrap_i64]; omega
                have e3 : (0 : Int) ≤ (j : Int) := by omega
                have e5 : (j : Int) < (Ys.length : Int) := by omega
                go_region_held3 (fun w' => w'.cell? ⟨w6.heap.size, 0, none⟩ = some (.int .i64 r.number) ∧ w'.cell? ⟨w6.heap.size, 1, none⟩ = some (.slice r.A r.len r.cap) ∧ w'.cell? ⟨b5, o5 + j * 2, none⟩ = some (.string x.key))
                  (first | (refine HS11.out _ ?_; (first | exact bel_drew (Below.refl _ _) | exact bel_drew (bel_alloc (Below.refl _ _) _) | exact Hb10.out | exact bel_alloc Hb10.out _ | exact bel_set (bel_set (bel_set Hb10.out (Nat.le_refl _) _) (Nat.le_refl _) _) (Nat.le_refl _) _ | exact bel_set (bel_set (bel_set (bel_alloc Hb10.out _) hs10 _) hs10 _) hs10 _)))
                  (first
                    | (go_at_call 20; refine (Hcl.out _ (bel_drew (Below.refl _ _))).mono ?_; rintro e w10 ⟨rfl, hb10⟩; have hbx : Below wr1.heap.size wr1 w10 := (bel_drew (Below.refl _ _)).trans hb10; have hs10 := hbx.size; have Hb10 := Lib.hid hbx; clear hb10 hbx)
                    | (go_at_call 20; refine (Hcl.out _ (bel_drew (bel_alloc (Below.refl _ _) _))).mono ?_; rintro e w10 ⟨rfl, hb10⟩; have hbk : w10.heap[wr1.heap.size]? = some (.cells #[.string ⟨#[]⟩, .string ⟨#[]⟩, .bool false] 39 (0, 0)) := (hb10.block wr1.heap.size (by show wr1.heap.size < _; simp)).trans (blk_new _ _); have hbx : Below wr1.heap.size wr1 w10 := (bel_drew (bel_alloc (Below.refl _ _) _)).trans (hb10.mono (by show wr1.heap.size ≤ _; simp)); have hs10 := hbx.size; have Hb10 := Lib.hid hbx; have k0 := blk_cell hbk 0; have k1 := blk_cell hbk 1; have k2 := blk_cell hbk 2; have f0 := blk_frozen hbk 0; have f1 := blk_frozen hbk 1; have f2 := blk_frozen hbk 2; simp only [List.getElem?_toArray, List.getElem?_cons_zero, List.getElem?_cons_succ] at k0 k1 k2; have Hbk := Lib.hid hbk; clear hb10 hbx hbk))
                · go_wp2_with fail
                  go_meet
                  case rel => exact ⟨_, rfl, rfl, hs10, blk_new _ _, bel_alloc Hb10.out _⟩
                · go_wp2_with fail
                  go_meet
                  case rel => exact ⟨_, rfl, rfl, Nat.le_refl _, by simpa using blk_set (blk_set (blk_set Hbk.out 0 (.string la)) 1 (.string lb)) 2 (.bool lc), bel_set (bel_set (bel_set Hb10.out (Nat.le_refl _) _) (Nat.le_refl _) _) (Nat.le_refl _) _⟩
              case rest =>
                obtain ⟨wq, hwq⟩ : ∃ wq : World, wq = wc := ⟨_, rfl⟩
                subst hwq
                obtain ⟨g, rfl, rfl, hg, hblk, hbc⟩ := hcut
                have hbw := HBj.out.trans (hbc.mono hsj)
                obtain ⟨-, -, -, -, -, q6, q7⟩ := HFE.out wq hbw
                obtain ⟨-, -, tq, -, -, -⟩ := HK.out wq q6
                have hget := get_ok (k := len) He.out (by rw [hlen.out]; exact Nat.le_refl _) Hkb.out wq tq (by omega) hc
                obtain ⟨-, -, u2⟩ := HS11.out wq hbc
                have hgl := blk_lt hblk
                have Hblk := Lib.hid hblk
                have Hbc := Lib.hid hbc
                have Hbw := Lib.hid hbw
                have e1 : IntKind.i64.wrap (j : Int) = j := by rw [IntKind.wrap_i64]; omega
                have e3 : (0 : Int) ≤ (j : Int) := by omega
                have e5 : (j : Int) < (Ys.length : Int) := by omega
                clear hblk hbc hbw tq q6
                cases ok
                · rw [Hok0.out rfl] at hget
                  have Hget := Lib.hid hget
                  clear hget
                  go_wp2_with fail
                  refine Hget.out.mono ?_
                  rintro e w13 ⟨rfl, hb13⟩
                  have z1 := HS13.out w13 (Hbc.out.trans (hb13.mono (by omega)))
                  have Hb13 := Lib.hid (Hbw.out.trans (hb13.mono q7))
                  clear hb13
                  go_wp2_with fail
                  exact ⟨⟨j + 1, by omega, by go_num, Hb13⟩, by simp [RowKit.intOf]; omega⟩
                · have hgv := Hok1.out rfl
                  rw [hgv] at hget
                  obtain ⟨gv, hgv2⟩ : ∃ o, o = (mget (foldM rs len) x.key).getD ⟨#[]⟩ := ⟨_, rfl⟩
                  rw [← hgv2] at hget
                  cases lc
                  all_goals
                   clear hgv2
                   have Hget := Lib.hid hget
                   clear hget hgv
                   go_wp2_with fail
                   refine Hget.out.mono ?_
                   rintro e w13 ⟨rfl, hb13⟩
                   have z1 := HS13.out w13 (Hbc.out.trans (hb13.mono (by omega)))
                   have hb1 := (hb13.block g hgl).trans Hblk.out
                   have k0 := blk_cell hb1 0
                   have k1 := blk_cell hb1 1
                   have k2 := blk_cell hb1 2
                   simp only [List.getElem?_toArray, List.getElem?_cons_zero, List.getElem?_cons_succ] at k0 k1 k2
                   have Hb13 := Lib.hid (Hbw.out.trans (hb13.mono q7))
                   clear hb13 hb1
                   go_wp2_with fail
                   exact ⟨⟨j + 1, by omega, by go_num, Hb13⟩, by simp [RowKit.intOf]; omega⟩
              -- ENDDONE
            · as_aux_lemma =>
              obtain rfl : Ys.length = j := by omega
              obtain ⟨-, -, -, yX, -, q6, q7⟩ := HFE.out wr1 HBj.out
              obtain ⟨kk, kf, tq, -, -, hsq⟩ := HK.out wr1 q6
              have hle : len ≤ rs.length := by rw [hlen.out]; exact Nat.le_refl _
              have hsc := fun (key fin : ByteArray) (X : World) (h : Below W1.heap.size W1 X) => scan_ok (k := len) He.out hle key fin X (HK.out X h).2.2.1 (by omega) hc
              rw [← HXs.out] at hsc
              have Hsc := Lib.hid hsc
              obtain ⟨Lo, hLo⟩ : ∃ Lo, Lo = Xs.filter fun e => inB ⟨#[]⟩ key e.key := ⟨_, rfl⟩
              obtain ⟨Hi, hHi⟩ : ∃ Hi, Hi = Xs.filter fun e => inB key ⟨#[]⟩ e.key := ⟨_, rfl⟩
              obtain ⟨Pa, hPa⟩ : ∃ Pa, Pa = Xs.filter fun e => inB key fin e.key := ⟨_, rfl⟩
              have hLl : Lo.length ≤ 2097152 := by rw [hLo]; exact Nat.le_trans (List.length_filter_le _ _) hXl
              have hHl : Hi.length ≤ 2097152 := by rw [hHi]; exact Nat.le_trans (List.length_filter_le _ _) hXl
              have hPl : Pa.length ≤ 2097152 := by rw [hPa]; exact Nat.le_trans (List.length_filter_le _ _) hXl
              have HLo := Lib.hid hLo
              have HHi := Lib.hid hHi
              have HPa := Lib.hid hPa
              have Q6 := Lib.hid q6
              have YX := Lib.hid (yX.more (show w6.heap.size ≤ wr1.heap.size by omega))
              have hall : Xs.filter (fun e => inB ⟨#[]⟩ ⟨#[]⟩ e.key) = Xs := by rw [HXs.out]; exact cut_all rfl rfl
              have H1 := hsc ⟨#[]⟩ ⟨#[]⟩ wr1 q6
              rw [hall] at H1
              have HS1 := Lib.hid H1
              clear hLo hHi hPa hsc hall H1 yX tq q6
              go_wp2_with fail
              refine HS1.out.mono ?_
              rintro e v1 ⟨u1, rfl, ho1, hb1⟩
              obtain ⟨B1, d1, rfl, hrow1, -, -⟩ := ho1.row
              have hq1 := Q6.out.trans (hb1.mono hsq)
              obtain ⟨kk, kf, -, -, -, hsq1⟩ := HK.out v1 hq1
              have YX1 := Lib.hid ((YX.out.below hb1).more hb1.size)
              have R1 := Lib.hid hrow1
              have Q1 := Lib.hid hq1
              have h2 := Hsc.out ⟨#[]⟩ key v1 hq1
              rw [← HLo.out] at h2
              have HS2 := Lib.hid h2
              clear ho1 hrow1 hq1 h2 hb1
              go_wp2_with fail
              refine HS2.out.mono ?_
              rintro e v2 ⟨u2, rfl, ho2, hb2⟩
              obtain ⟨B2, d2, rfl, hrow2, hn2, -⟩ := ho2.row
              have hq2 := Q1.out.trans (hb2.mono hsq1)
              obtain ⟨kk, kf, -, -, -, hsq2⟩ := HK.out v2 hq2
              have YX2 := Lib.hid ((YX1.out.below hb2).more hb2.size)
              have R12 := Lib.hid ((R1.out.below hb2).more hb2.size)
              have R2 := Lib.hid hrow2
              have Q2 := Lib.hid hq2
              have N2 := Lib.hid hn2
              have h3 := Hsc.out key ⟨#[]⟩ v2 hq2
              rw [← HHi.out] at h3
              have HS3 := Lib.hid h3
              clear ho2 hrow2 hq2 h3 hb2 hn2
              go_wp2_with fail
              refine HS3.out.mono ?_
              rintro e v3 ⟨u3, rfl, ho3, hb3⟩
              obtain ⟨B3, d3, rfl, hrow3, hn3, -⟩ := ho3.row
              have hq3 := Q2.out.trans (hb3.mono hsq2)
              obtain ⟨kk, kf, -, -, -, hsq3⟩ := HK.out v3 hq3
              have YX3 := Lib.hid ((YX2.out.below hb3).more hb3.size)
              have R13 := Lib.hid ((R12.out.below hb3).more hb3.size)
              have R23 := Lib.hid ((R2.out.below hb3).more hb3.size)
              have R3 := Lib.hid hrow3
              have Q3 := Lib.hid hq3
              have N3 := Lib.hid hn3
              have h4 := Hsc.out key fin v3 hq3
              rw [← HPa.out] at h4
              have HS4 := Lib.hid h4
              clear ho3 hrow3 hq3 h4 hb3 hn3
              go_wp2_with fail
              refine HS4.out.mono ?_
              rintro e v4 ⟨u4, rfl, ho4, hb4⟩
              obtain ⟨B4, d4, rfl, hrow4, -, -⟩ := ho4.row
              have hq4 := Q3.out.trans (hb4.mono hsq3)
              obtain ⟨kk, kf, -, -, -, hsq4⟩ := HK.out v4 hq4
              have YX4 := Lib.hid ((YX3.out.below hb4).more hb4.size)
              have R14 := Lib.hid ((R13.out.below hb4).more hb4.size)
              have R24 := Lib.hid ((R23.out.below hb4).more hb4.size)
              have R34 := Lib.hid ((R3.out.below hb4).more hb4.size)
              have R4 := Lib.hid hrow4
              have Q4 := Lib.hid hq4
              clear ho4 hrow4 hq4 hb4
              go_wp2_with fail
              refine (sameE_any B1 Xs.length d1 A5 c5 Xs v4 R14.out YX4.out (by omega)).mono ?_
              rintro e v5 ⟨rfl, hb5⟩
              have hq5 := Q4.out.trans (hb5.mono hsq4)
              obtain ⟨kk, kf, -, bW5, -, hsq5⟩ := HK.out v5 hq5
              have YX5 := Lib.hid ((YX4.out.below hb5).more hb5.size)
              have R25 := Lib.hid ((R24.out.below hb5).more hb5.size)
              have R35 := Lib.hid ((R34.out.below hb5).more hb5.size)
              have R45 := Lib.hid ((R4.out.below hb5).more hb5.size)
              have Q5 := Lib.hid hq5
              clear hq5 hb5 bW5
              have Hi0 := Lib.hid (And.intro hi (And.intro hz0 (And.intro hz1 hz2)))
              go_upto_if 267 with fail
              go_cut [30] (fun s30 wx => Below v5.heap.size v5 wx)
              case first => as_aux_lemma =>
                by_cases hk0 : key.size = 0
                · have hd : ¬ 0 < key.size := by omega
                  clear hk0
                  go_wp2_with fail
                  go_meet
                  case rel => exact Below.refl _ _
                · have hd : 0 < key.size := by omega
                  have hcb : Lo ++ Hi = Xs := by rw [HLo.out, HHi.out, HXs.out]; exact cut_both rfl hk0
                  have Hcb := Lib.hid hcb
                  clear hk0 hcb
                  go_wp2_with (first
                    | (at_builtin; refine wpList_append_row (cells := Ent.cells) rfl (.tmp 268) (.tmp 269) 43 rfl v5.heap.size 57 i0 _ 2 32 Try.underlying43 Hi0.out.1 Hi0.out.2.1 Hi0.out.2.2.1 Hi0.out.2.2.2 rfl (by decide) (.slice none 0 0) 0 [] rfl (World.ownsRow_nil _ _ _ _) B2 Lo.length d2 v5.heap.size Lo rfl R25.out N2.out (len_ent _) one_ent (by simp only [maxLen]; omega) (by omega) (Nat.le_refl _) ?_; intro x1 w21 hown1 hg1; have Hown1 := Lib.hid hown1; have Hb21 := Lib.hid (below_grown_own (World.ownsRow_nil v5 v5.heap.size 57 2) hg1 (Nat.le_refl _)); have R21 := Lib.hid (R35.out.below Hb21.out); have hs21 := Hb21.out.size; clear hown1 hg1)
                    | (at_builtin; refine wpList_append_row (cells := Ent.cells) rfl (.tmp 271) (.tmp 272) 43 rfl v5.heap.size 57 i0 _ 2 32 Try.underlying43 Hi0.out.1 Hi0.out.2.1 Hi0.out.2.2.1 Hi0.out.2.2.2 rfl (by decide) x1 _ _ rfl Hown1.out B3 Hi.length d3 v5.heap.size Hi rfl R21.out N3.out (len_ent _) one_ent (by simp only [maxLen]; omega) (by omega) (by omega) ?_; intro x2 w22 hown2 hg2; have Hown2 := Lib.hid hown2; have Hb22 := Lib.hid (Hb21.out.trans (below_grown_own Hown1.out hg2 (by omega))); clear hown2 hg2))
                  have hE : EntsOwn w22 v5.heap.size x2 Xs := by
                    have h := Hown2.out
                    unfold EntsOwn
                    rw [← Hcb.out]
                    simpa [List.length_append, List.flatMap_append] using h
                  obtain ⟨A2, c2, rfl, row2, -, -⟩ := hE.row
                  have YX22 := (YX5.out.below Hb22.out).more Hb22.out.size
                  clear hE
                  go_wp2_with fail
                  refine (sameE_any A2 Xs.length c2 A5 c5 Xs w22 row2 YX22 (by omega)).mono ?_
                  rintro e w23 ⟨rfl, hb23⟩
                  have Hb23 := Lib.hid (Hb22.out.trans (hb23.mono Hb22.out.size))
                  clear hb23 row2 YX22
                  go_wp2_with fail
                  go_meet
                  case rel => exact Hb23.out
              case rest => as_aux_lemma =>
                obtain ⟨wy, hwy⟩ : ∃ wy : World, wy = wc := ⟨_, rfl⟩
                subst hwy
                have HY := Lib.hid hcut
                have hys := hcut.size
                clear hcut
                have HPH := Lib.hid (show Pa = Hi.filter (endB fin) by rw [HPa.out, HHi.out, HXs.out]; exact cut_part rfl)
                have HKY := Lib.hid (show ∀ X : World, Below wy.heap.size wy X → X.cell? ⟨w.heap.size, 3, none⟩ = some (.string fin) ∧ EntsAt X wy.heap.size B3 Hi.length Hi ∧ EntsAt X wy.heap.size B4 Pa.length Pa ∧ wy.heap.size ≤ X.heap.size from fun X h => by
                  have h5 : Below v5.heap.size v5 X := HY.out.trans (h.mono hys)
                  exact ⟨(HK.out X (Q5.out.trans (h5.mono hsq5))).2.1, (R35.out.below h5).more hys, (R45.out.below h5).more hys, h.size⟩)
                have HW := Lib.hid (show ∀ X : World, Below wy.heap.size wy X → Below w.heap.size w X from fun X h => by
                  have h5 : Below v5.heap.size v5 X := HY.out.trans (h.mono hys)
                  exact (HK.out X (Q5.out.trans (h5.mono hsq5))).2.2.2.1)
                clear R25 R35 R45 YX5 HXs HYs HLo HHi HPa Hi0 HK Hsc
                go_wp2_with fail
                go_loopw [31, 32] (fun n i wi => ∃ j : Nat, j ≤ Hi.length ∧ i = .int .i64 j ∧ (∃ nn : Nat, n = .int .i64 nn ∧ nn = ((Hi.take j).filter (endB fin)).length) ∧ Hid (Below wy.heap.size wy wi)) (fun _ i _ => Hi.length - (RowKit.intOf i).toNat)
                case atStart => exact ⟨0, Nat.zero_le _, rfl, ⟨0, rfl, rfl⟩, Lib.hid (Below.refl _ _)⟩
                case round =>
                  obtain ⟨j, hj, rfl, ⟨nn, rfl, hnn⟩, HBj⟩ := hrel
                  by_cases hjl : j < Hi.length
                  · obtain ⟨y1, y2, y3, hsy⟩ := HKY.out wr HBj.out
                    obtain ⟨b6, o6, x, rfl, hbl6, hxe, z0, z1⟩ := ent_cell2 y2 hjl
                    have hls := less_eq x.key fin
                    have hts := filter_take_succ (p := endB fin) hxe
                    rw [← hnn] at hts
                    by_cases hp : endB fin x = true
                    · obtain ⟨hat, hlt⟩ := filter_at hxe hp
                      rw [← HPH.out, ← hnn] at hat hlt
                      obtain ⟨b7, o7, x', rfl, hbl7, hxe', u0, u1⟩ := ent_cell2 y3 hlt
                      obtain rfl : x' = x := by rw [hat] at hxe'; exact (Option.some.inj hxe').symm
                      rw [if_pos hp] at hts
                      have g1 : decide ((Pa.length : Int) ≤ (nn : Int)) = false := by rw [decide_eq_false_iff_not]; omega
                      have g2 : decide (Pa.length ≤ nn) = false := by rw [decide_eq_false_iff_not]; omega
                      have e1 : (0 : Int) ≤ (j : Int) := by omega
                      have e2 : (j : Int) < (Hi.length : Int) := by omega
                      have e3 : (0 : Int) ≤ (nn : Int) := by omega
                      have e4 : (nn : Int) < (Pa.length : Int) := by omega
                      have Hts := Lib.hid hts
                      have Hnn := Lib.hid hnn
                      unfold endB at hp
                      clear y2 y3 hxe hat hxe' hts hnn
                      by_cases hf : fin.size = 0
                      · have hd1 : ((fin.size : Int) == 0) = true := by simp [hf]
                        have hd2 : (fin.size == 0) = true := by simp [hf]
                        clear hf hp hls
                        go_wp2_with fail
                        go_quiet (fail)
                        go_wp2_with fail
                        go_quiet (fail)
                        go_wp2_with fail
                        exact ⟨⟨j + 1, by omega, by go_num, ⟨nn + 1, by go_num, Hts.out.symm⟩, Lib.hid (below_drewN HBj.out _)⟩, by simp [RowKit.intOf]; omega⟩
                      · have hd1 : ((fin.size : Int) == 0) = false := by simp [hf]
                        have hd2 : (fin.size == 0) = false := by simp [hf]
                        rw [decide_eq_false hf, Bool.false_or] at hp
                        rw [hp] at hls
                        clear hf hp
                        go_wp2_with fail
                        go_quiet (fail)
                        go_wp2_with fail
                        go_quiet (fail)
                        go_wp2_with fail
                        exact ⟨⟨j + 1, by omega, by go_num, ⟨nn + 1, by go_num, Hts.out.symm⟩, Lib.hid (below_drewN HBj.out _)⟩, by simp [RowKit.intOf]; omega⟩
                    · rw [if_neg hp, Nat.add_zero] at hts
                      have hp2 : endB fin x = false := by simpa using hp
                      unfold endB at hp2
                      rw [Bool.or_eq_false_iff, decide_eq_false_iff_not] at hp2
                      obtain ⟨hf, hl⟩ := hp2
                      have hd1 : ((fin.size : Int) == 0) = false := by simp [hf]
                      have hd2 : (fin.size == 0) = false := by simp [hf]
                      rw [hl] at hls
                      have e1 : (0 : Int) ≤ (j : Int) := by omega
                      have e2 : (j : Int) < (Hi.length : Int) := by omega
                      have Hts := Lib.hid hts
                      clear y2 y3 hxe hts hnn hf hl hp
                      go_wp2_with fail
                      go_quiet (fail)
                      go_wp2_with fail
                      exact ⟨⟨j + 1, by omega, by go_num, ⟨nn, rfl, Hts.out.symm⟩, Lib.hid (below_drewN HBj.out _)⟩, by simp [RowKit.intOf]; omega⟩
                  · obtain rfl : Hi.length = j := by omega
                    obtain rfl : nn = Pa.length := by rw [hnn, HPH.out, List.take_length]
                    have hbe := beq_self_eq_true (Pa.length : Int)
                    clear hnn
                    go_wp2_with fail
                    go_ret
                    exact ⟨rfl, HW.out _ HBj.out⟩
    · as_aux_lemma =>
      go_wp2_with fail
      refine (alive_any _).mono ?_
      rintro e w2 ⟨rfl, hb2⟩
      have Hb2 := Lib.hid (BD.out.trans (hb2.mono BD.out.size))
      clear hb2
      go_wp2_with fail
      go_ret
      exact ⟨rfl, Hb2.out⟩
end Go.Proofs.Ytdcnaieieggclaa

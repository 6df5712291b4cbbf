/- ShardDumps: the walk. -/
import Derived.Test.YtogdanakcikdbaaSl6
import Derived.Deep.DeepCutAuto
namespace Go.Proofs.Ytogdanakcikdbaa
open Go.RowKit
set_option linter.unusedVariables false
set_option linter.unusedSimpArgs false

set_option maxRecDepth 100000
theorem info_int : (Try.prog.info? 3).map (fun i => (i.zero, i.size, i.bytes)) = some (some (.int .i64 0), 1, 8) := by kernel_rfl
abbrev OwnI (w : World) (B : Nat) (v : Value) (l : List Int) : Prop := w.ownsRow B 3 1 v l.length (l.flatMap Icell)
theorem is_own {w : World} {B : Nat} {v : Value} {l : List Int} (h : OwnI w B v l) : ∃ A cap, v = .slice A l.length cap ∧ RowAt Icell 1 w w.heap.size A l.length l := by
  obtain ⟨A, cap, h1, h2, -, -⟩ := rowAt_own (len_int _) h
  exact ⟨A, cap, h1, h2⟩
theorem beyL_take {J : List Part} {n : Nat} {x : Part} {m : Int} (h : J[n]? = some x) : beyL (J.take (n + 1)) m = beyL (J.take n) m ++ if m < x.num then [x.num] else [] := by
  unfold beyL
  rw [List.take_add_one, h, List.filter_append, List.map_append]
  congr 1
  by_cases hm : m < x.num <;> simp [hm]
theorem beyL_le (J : List Part) (m : Int) : (beyL J m).length ≤ J.length := by
  unfold beyL; rw [List.length_map]; exact List.length_filter_le _ _
/-- Is it that one? -/
def hitB (k : ByteArray) (x : Ver) (p : Part) : Bool := decide (p.num = x.num) && (decide (p.w.key = k) && (decide (p.w.val = x.val) && decide (p.w.drop = x.drop)))
theorem hit_any {L : Hs} {J : List Part} (h : Fill L J) {mark : Int} {beyond : List Int} {k : ByteArray} {l : List Ver} (hp : (k, l) ∈ dumpH L mark beyond) {x : Ver} (hx : x ∈ l) : J.any (hitB k x) = true := by
  obtain ⟨q, hq, h1, h2, h3, h4⟩ := dumps_in h hp hx
  exact List.any_eq_true.2 ⟨q, hq, by simp [hitB, h1, h2, h3, h4]⟩
theorem any_take {α : Type} {f : α → Bool} {l : List α} {q : Nat} {x : α} (h : l[q]? = some x) : (l.take (q + 1)).any f = ((l.take q).any f || f x) := by
  rw [List.take_add_one, h, List.any_append]; simp
theorem toL_dec (a b : ByteArray) : (a.toList == b.toList) = decide (a = b) := by
  rw [Bool.eq_iff_iff, decide_eq_true_eq, beq_iff_eq, ByteArray.toList_eq, ByteArray.toList_eq]
  exact ⟨fun h => by cases a; cases b; simp at h; simp [h], fun h => by rw [h]⟩
set_option maxHeartbeats 16000000 in
theorem lawdumps_any (A : Option Addr) (len cap : Nat) (ps : List Part) (M T : Nat) (w : World) (hw : PsAt w w.heap.size A len ps) (hl : len * 48 ≤ 140737488351232) (hM : M ≤ 255) (hT : T ≤ 255)
    (hs : ∀ p ∈ ps, p.w.key.size ≤ 140737488351232 ∧ p.w.val.size ≤ 140737488351232) :
    Calls Try.prog 6 #[.slice A len cap, .int .u8 M, .int .u8 T] w fun e w' => e = .returned (.bool true) ∧ Below w.heap.size w w' := by
  have Hw := Lib.hid (fun X (hX : Below w.heap.size w X) => (hw.below hX).more hX.size)
  have Hs := Lib.hid hs
  have hbd := szP_bd ps len (by omega) (by omega) hs
  obtain ⟨sz, hsz⟩ : ∃ sz, sz = szP len ps := ⟨_, rfl⟩
  rw [← hsz] at hbd
  have Hsz := Lib.hid hsz
  have hF := Fill.nil.fill (ps.take 200)
  have hJl := fillH_len (ps.take 200) [] []
  have hJl2 : (fillH (ps.take 200) [] []).2.length ≤ 200 := by simp at hJl; omega
  obtain ⟨L, hL⟩ : ∃ L, L = (fillH (ps.take 200) [] []).1 := ⟨_, rfl⟩
  obtain ⟨J, hJ⟩ : ∃ J, J = (fillH (ps.take 200) [] []).2 := ⟨_, rfl⟩
  rw [← hL, ← hJ] at hF
  rw [← hJ] at hJl2
  have hsize : sizeH L = J.length := hF.size
  have hLl := len_sizeH hF.ok
  have HF := Lib.hid hF
  have HL := Lib.hid hL
  have HJ := Lib.hid hJ
  have Hsize := Lib.hid hsize
  clear hw hs hsz hF hJl hL hJ
  go_enter Try.func6, Try.ntmps6
  go_wp2_with fail
  refine (alive_any _).mono ?_
  rintro e w1 ⟨rfl, hb1⟩
  have Hb1 := Lib.hid hb1
  clear hb1
  go_wp2_with fail
  refine (size9_any A len cap ps _ (Hw.out _ Hb1.out) hl Hs.out).mono ?_
  rintro e w2 ⟨rfl, hb2⟩
  rw [← Hsz.out]
  have Hb2 := Lib.hid (Hb1.out.trans (hb2.mono Hb1.out.size))
  clear hb2
  go_wp2_with fail
  refine (beyondx_any (some ⟨w2.heap.size, 0, none⟩) 1 1 [sz] _ (rowAt_block [sz] (len_int _) (blk_new _ _) (by simp) (fun j u hu => by simpa [Icell] using hu)) (by omega) (fun x hx => by simp at hx; omega)).mono ?_
  rintro e w3 ⟨rfl, hb3⟩
  have Hb3 := Lib.hid ((bel_alloc Hb2.out (.cells #[.int .i64 sz] 3)).trans (hb3.mono (by have := Hb2.out.size; simp; omega)))
  clear hb3
  cases beyB 0 [sz]
  · go_wp2_with fail
    refine (filled_any A len cap ps _ (Hw.out _ Hb3.out) hl).mono ?_
    rintro e w4 ⟨t1, v1, rfl, hs1, ho1, hg1, hp1, hpg, hb4⟩
    rw [← HL.out] at hs1
    rw [← HJ.out] at ho1
    obtain ⟨A1, cap1, rfl, hr1⟩ := ps_own ho1
    have HS1 := Lib.hid hs1
    have Ho1 := Lib.hid ho1
    have Hr1 := Lib.hid hr1
    have HR1 := Lib.hid (fun X (hX : Below w4.heap.size w4 X) => (hr1.below hX).more hX.size)
    have Hb4 := Lib.hid (Hb3.out.trans (hb4.mono Hb3.out.size))
    clear hs1 ho1 hr1 hb4
    obtain ⟨i0, hi, hz0, hz1, hz2⟩ := info_parts info_int
    have hwi : (Lit.int .i64 (M : Int)).wf = true := by simp [Lit.wf, IntKind.min, IntKind.max, IntKind.signed, IntKind.bits]; omega
    clear hwi
    go_wp2_with fail
    go_loopw [9, 10] (fun v i wr => ∃ n : Nat, n ≤ J.length ∧ i = .int .i64 n ∧ Hid (OwnI wr w4.heap.size v (beyL (J.take n) M)) ∧ Hid (Below w4.heap.size w4 wr)) (fun _ i _ => J.length - (RowKit.intOf i).toNat)
    case atStart => exact ⟨0, Nat.zero_le _, rfl, Lib.hid (World.ownsRow_nil _ _ _ _), Lib.hid (Below.refl _ _)⟩
    case round =>
      obtain ⟨n, hn, rfl, HO, HB⟩ := hrel
      have hsr := HB.out.size
      by_cases hlt : n < J.length
      · obtain ⟨b, off, x, hA1, hbl, hx, x0, -, -, -⟩ := PsAt.cell4 (HR1.out wr HB.out) hlt
        have htk := beyL_take (m := (M : Int)) hx
        have hle := beyL_le (J.take n) (M : Int)
        have hle2 : (beyL (J.take n) (M : Int)).length ≤ 200 := Nat.le_trans hle (by rw [List.length_take]; omega)
        have Htk := Lib.hid htk
        subst hA1
        obtain ⟨num, wr'⟩ := x
        simp only at x0 Htk
        clear hx htk hle
        by_cases hm : (M : Int) < num
        · go_wp2_with (at_builtin; refine wpList_append_row (cells := Icell) rfl (.tmp 52) (.tmp 58) 57 rfl w4.heap.size 3 i0 _ 1 8 Try.underlying57 hi hz0 hz1 hz2 rfl (by decide) _ _ _ rfl (HO.out.alloc _) (some ⟨wr.heap.size, 0, none⟩) 1 1 (wr.heap.size + 1) [num] rfl (rowAt_block [num] (len_int _) (blk_new wr (.cells #[.int .i64 num] 3)) (by simp) (fun j u hu => by simpa [Icell] using hu)) (fun h => by cases h) (fun _ _ => rfl) (fun y u hu => one_int y u hu) (by unfold maxLen; omega) (by omega) (by simp; omega) ?_)
          intro v' w5 hown5 hg5
          have HO5 := Lib.hid hown5
          have HB5 : Hid (Below w4.heap.size w4 w5) := Lib.hid ((HB.out.alloc hsr _).trans (below_grown_own (HO.out.alloc _) hg5 (by simp; omega)))
          clear hown5 hg5
          go_wp2_with fail
          exact ⟨⟨n + 1, by omega, by go_num, Lib.hid (by
            have := HO5.out
            rw [Htk.out, if_pos hm]
            unfold OwnI
            simp only [List.length_append, List.flatMap_append]
            simpa using this), HB5⟩, by simp [RowKit.intOf]; omega⟩
        · go_wp2_with fail
          exact ⟨⟨n + 1, by omega, by go_num, Lib.hid (by rw [Htk.out, if_neg hm, List.append_nil]; exact HO.out), HB⟩, by simp [RowKit.intOf]; omega⟩
      · obtain rfl : n = J.length := by omega
        have hO := HO.out
        rw [List.take_of_length_le (Nat.le_refl _)] at hO
        have hbl := beyL_le J (M : Int)
        have hDok := dumpH_ok HF.out.ok (M : Int) (beyL J (M : Int))
        have hDs := sizeH_dumpH L (M : Int) (beyL J (M : Int))
        have hDl := len_sizeH hDok
        have hDg : ∀ (m : Int) (k : ByteArray), (M : Int) ≤ m → getV (hget (dumpH L M (beyL J M)) k) m = getV (hget L k) m := fun m k hm => dumps_get HF.out hm k
        have hDc : ∀ (m : Int) (k e : ByteArray), (M : Int) ≤ m → scanH (dumpH L M (beyL J M)) k e m = scanH L k e m := fun m k e hm => dumps_scan HF.out hm k e
        have hDi : ∀ (k : ByteArray) (l : List Ver) (x : Ver), (k, l) ∈ dumpH L M (beyL J M) → x ∈ l → J.any (hitB k x) = true := fun k l x h1 h2 => hit_any HF.out h1 h2
        obtain ⟨A2, cap2, hv2, hr2⟩ := is_own hO
        rw [hv2]
        have HS1r := Lib.hid (HS1.out.below HB.out)
        have hdm := dump_any t1 L M A2 (beyL J M).length cap2 (beyL J M) wr HS1r.out (by omega) hr2 (by omega)
        generalize dumpH L M (beyL J M) = D at hDok hDs hDl hDg hDc hDi hdm
        have HDok := Lib.hid hDok
        have HDg := Lib.hid hDg
        have HDc := Lib.hid hDc
        have HDi := Lib.hid hDi
        have Hdm := Lib.hid hdm
        have hs4 := Hb4.out.size
        have HBr := Lib.hid (Hb4.out.trans (HB.out.mono hs4))
        have HR1r := Lib.hid (HR1.out wr HB.out)
        clear hO hr2 hv2 hDok hDg hDc hDi hdm
        go_wp2_with fail
        refine Hdm.out.mono ?_
        rintro e w6 ⟨v6, hs6, rfl, hh6, hp6, hb6⟩
        obtain ⟨A6, cap6, rfl, hr6, -, -⟩ := hh6.hds
        have hl6 : hs6.length = D.length := by rw [← hp6]; simp [plainR]
        rw [hl6] at hr6 ⊢
        have hld := load_any A6 D.length cap6 hs6 w6 hr6 (by omega) (hds_len hr6 hp6 HDok.out)
        rw [hp6] at hld
        have Hld := Lib.hid hld
        have Hp6 := Lib.hid hp6
        have Hr6 := Lib.hid hr6
        have HS16 := Lib.hid (HS1r.out.below hb6)
        have HR16 := Lib.hid ((HR1r.out.below hb6).more hb6.size)
        have Hb6 := Lib.hid (HBr.out.trans (hb6.mono HBr.out.size))
        clear hh6 hp6 hr6 hl6 hld hb6
        go_wp2_with fail
        refine Hld.out.mono ?_
        rintro e w7 ⟨hgd, -, hb7⟩
        obtain ⟨t2, rfl, hs2, -, -⟩ := hgd (mayH_iff.2 HDok.out)
        have HS17 := Lib.hid (HS16.out.below hb7)
        have HS27 := Lib.hid hs2
        have HR17 := Lib.hid ((HR16.out.below hb7).more hb7.size)
        have Hr7 := Lib.hid ((Hr6.out.below hb7).more hb7.size)
        have Hb7 := Lib.hid (Hb6.out.trans (hb7.mono Hb6.out.size))
        clear hgd hs2 hb7
        go_wp2_with fail
        refine (size_any t2 D _ HS27.out (by omega)).mono ?_
        rintro e w8 ⟨rfl, hb8⟩
        have HS18 := Lib.hid (HS17.out.below hb8)
        have HS28 := Lib.hid (HS27.out.below hb8)
        have HR18 := Lib.hid ((HR17.out.below hb8).more hb8.size)
        have Hr8 := Lib.hid ((Hr7.out.below hb8).more hb8.size)
        have Hb8 := Lib.hid (Hb7.out.trans (hb8.mono Hb7.out.size))
        clear hb8
        go_wp2_with fail
        refine (size_any t1 L _ HS18.out (by omega)).mono ?_
        rintro e w9 ⟨rfl, hb9⟩
        have HS19 := Lib.hid (HS18.out.below hb9)
        have HS29 := Lib.hid (HS28.out.below hb9)
        have HR19 := Lib.hid (fun X (hX : Below w9.heap.size w9 X) => (((HR18.out.below hb9).more hb9.size).below hX).more hX.size)
        have Hr9 := Lib.hid (fun X (hX : Below w9.heap.size w9 X) => (((Hr8.out.below hb9).more hb9.size).below hX).more hX.size)
        have Hb9 := Lib.hid (Hb8.out.trans (hb9.mono Hb8.out.size))
        clear hb9
        have hgt : decide ((sizeH L : Int) < (sizeH D : Int)) = false := by simp; omega
        have hgt2 : decide (sizeH L < sizeH D) = false := by simp; omega
        obtain ⟨mm, hmm⟩ : ∃ mm : Nat, mm = max M T := ⟨_, rfl⟩
        have hmm1 : (M : Int) ≤ (mm : Int) := by omega
        have hmm2 : mm ≤ 255 := by omega
        have Hmm := Lib.hid hmm
        clear hmm
        go_upto_region 14 with fail
        go_cut [14] (fun s14 wx => s14 = .int .i64 (mm : Nat) ∧ w9 = wx)
        case first => as_aux_lemma =>
          go_wp2_with fail
          go_meet
          case rel => exact ⟨by have := Hmm.out; congr 1; omega, rfl⟩
        case rest => as_aux_lemma =>
          obtain ⟨rfl, rfl⟩ := hcut
          have Hm1 := Lib.hid hmm1
          go_wp2_with fail
          go_loopw [15] (fun i wr => ∃ n : Nat, n ≤ J.length ∧ i = .int .i64 n ∧ Hid (Below w9.heap.size w9 wr)) (fun i _ => J.length - (RowKit.intOf i).toNat)
          case atStart => exact ⟨0, Nat.zero_le _, rfl, Lib.hid (Below.refl _ _)⟩
          case round =>
            obtain ⟨n, hn, rfl, HB⟩ := hrel
            by_cases hlt : n < J.length
            · obtain ⟨b, off, x, hA1, hbl, hx, x0, x1, x2, x3⟩ := PsAt.cell4 (HR19.out wr HB.out) hlt
              obtain ⟨num, wk, wv, wd⟩ := x
              simp only at x0 x1 x2 x3
              have hsr := HB.out.size
              have hk : ∀ X, Below wr.heap.size wr X → X.cell? ⟨b, off + n * 4 + 1, none⟩ = some (.string wk) := fun X hX => (hX.cell (p := ⟨b, off + n * 4 + 1, none⟩) (by show b < _; omega)).trans x1
              have Hk := Lib.hid hk
              subst hA1
              as_aux_lemma =>
              have hc1 := get_any t1 L wk (mm : Int)
              have hc2 := get_any t2 D wk (mm : Int)
              rw [HDg.out (mm : Int) wk Hm1.out] at hc2
              generalize (getV (hget L wk) (mm : Int)).1 = gv at hc1 hc2
              generalize (getV (hget L wk) (mm : Int)).2 = gd at hc1 hc2
              have Hc1 := Lib.hid hc1
              have Hc2 := Lib.hid hc2
              clear hx hc1 hc2 hk x0 x2 x3
              go_wp2_with fail
              refine (Hc1.out wr (HS19.out.below HB.out)).mono ?_
              rintro e wa ⟨rfl, hba⟩
              have Hba := Lib.hid hba
              have y1 := Hk.out wa hba
              clear hba
              go_wp2_with fail
              refine (Hc2.out wa ((HS29.out.below HB.out).below Hba.out)).mono ?_
              rintro e wb ⟨rfl, hbb⟩
              have Hbb := Lib.hid (Hba.out.trans (hbb.mono Hba.out.size))
              have HBb := Lib.hid (HB.out.trans (Hbb.out.mono HB.out.size))
              have gg : (gv.toList == gv.toList) = true := by simp
              clear hbb
              cases gd
              all_goals
                go_wp2_with fail
                exact ⟨⟨n + 1, by omega, by go_num, HBb⟩, by simp [RowKit.intOf]; omega⟩
            · obtain rfl : n = J.length := by omega
              have HBo := HB
              go_wp2_with fail
              go_loopw [20] (fun i wq => ∃ n : Nat, n ≤ D.length ∧ i = .int .i64 n ∧ Hid (Below w9.heap.size w9 wq)) (fun i _ => D.length - (RowKit.intOf i).toNat)
              case atStart => exact ⟨0, Nat.zero_le _, rfl, HBo⟩
              case round =>
                obtain ⟨n, hn, rfl, HB⟩ := hrel
                by_cases hlt : n < D.length
                · obtain ⟨b, off, x, hA6, hbl, hx, x0, x1, xv, -, -⟩ := (Hr9.out _ HB.out).cell2 hlt
                  have hD : D[n]? = some (x.key, x.vs) := by rw [← Hp6.out]; simp [plainR, hx]
                  obtain ⟨xk, xA, xlen, xcap, xvs⟩ := x
                  simp only at x0 x1 xv hD
                  have hj : ∀ v ∈ xvs, J.any (hitB xk v) = true := fun v hv => HDi.out xk xvs v (List.mem_of_getElem? hD) hv
                  have Hj := Lib.hid hj
                  have hsr := HB.out.size
                  have HX0 := Lib.hid x0
                  have HX1 := Lib.hid x1
                  have HXv := Lib.hid xv
                  have hxl := xv.len
                  have hxm : xlen ≤ 4398046511104 := by
                    have := chkB_len (HDok.out.chk _ (List.mem_of_getElem? hD))
                    simp only at this
                    omega
                  subst hA6
                  have n0 : (0 : Int) ≤ (n : Int) := by omega
                  have n1 : (n : Int) < (D.length : Int) := by omega
                  obtain ⟨wo, hwo⟩ : ∃ wo, wo = wr := ⟨_, rfl⟩
                  clear hx hD hj x0 x1 xv
                  go_wp2_with fail
                  go_loopw [21] (fun i wq => ∃ m : Nat, m ≤ xlen ∧ i = .int .i64 m ∧ Hid (Below wo.heap.size wo wq)) (fun i _ => xlen - (RowKit.intOf i).toNat)
                  case atStart => exact ⟨0, Nat.zero_le _, rfl, Lib.hid (by subst hwo; exact Below.refl _ _)⟩
                  case round =>
                    subst hwo
                    obtain ⟨m, hm, rfl, HBm⟩ := hrel
                    have hsm := HBm.out.size
                    have y0 := (HBm.out.cell (p := ⟨b, off + n * 2, none⟩) (by show b < _; omega)).trans HX0.out
                    have y1 := (HBm.out.cell (p := ⟨b, off + n * 2 + 1, none⟩) (by show b < _; omega)).trans HX1.out
                    by_cases hlt2 : m < xlen
                    · obtain ⟨b2, off2, v, hAx, hb2, hv, v0, v1, v2⟩ := VsAt.cell3 (HXv.out.below HBm.out) hlt2
                      have hjv := Hj.out v (List.mem_of_getElem? hv)
                      have Hjv := Lib.hid hjv
                      have HRw := Lib.hid (HR19.out _ (HB.out.trans (HBm.out.mono hsr)))
                      subst hAx
                      have m0 : (0 : Int) ≤ (m : Int) := by omega
                      have m1 : (m : Int) < (xlen : Int) := by omega
                      obtain ⟨wi, hwi⟩ : ∃ wi, wi = wr := ⟨_, rfl⟩
                      have Hwi := Lib.hid hwi
                      have HCm : Hid (∀ X, Below wo.heap.size wo X → X.cell? ⟨b, off + n * 2, none⟩ = some (.string xk) ∧ X.cell? ⟨b, off + n * 2 + 1, none⟩ = some (.slice (some ⟨b2, off2, none⟩) xlen xcap)) := Lib.hid fun X hX => ⟨(hX.cell (p := ⟨b, off + n * 2, none⟩) (by show b < _; omega)).trans HX0.out, (hX.cell (p := ⟨b, off + n * 2 + 1, none⟩) (by show b < _; omega)).trans HX1.out⟩
                      have HVm : Hid (∀ X, Below wr.heap.size wr X → X.cell? ⟨b2, off2 + m * 3, none⟩ = some (.int .i64 v.num) ∧ X.cell? ⟨b2, off2 + m * 3 + 1, none⟩ = some (.string v.val) ∧ X.cell? ⟨b2, off2 + m * 3 + 2, none⟩ = some (.bool v.drop)) := Lib.hid fun X hX => ⟨(hX.cell (p := ⟨b2, off2 + m * 3, none⟩) (by show b2 < _; omega)).trans v0, (hX.cell (p := ⟨b2, off2 + m * 3 + 1, none⟩) (by show b2 < _; omega)).trans v1, (hX.cell (p := ⟨b2, off2 + m * 3 + 2, none⟩) (by show b2 < _; omega)).trans v2⟩
                      clear hv hjv v0 v1 v2
                      go_wp2_with fail
                      go_loopw [22, 23] (fun f i wq => ∃ q : Nat, q ≤ J.length ∧ i = .int .i64 q ∧ f = .bool ((J.take q).any (hitB xk v)) ∧ Hid (Below wi.heap.size wi wq)) (fun _ i _ => J.length - (RowKit.intOf i).toNat)
                      case atStart => exact ⟨0, Nat.zero_le _, rfl, rfl, Lib.hid (by rw [Hwi.out]; exact Below.refl _ _)⟩
                      case round =>
                        obtain ⟨q, hq, rfl, rfl, HBq⟩ := hrel
                        rw [Hwi.out] at HBq
                        have hsq := HBq.out.size
                        have HBw := Lib.hid (HBm.out.trans (HBq.out.mono hsm))
                        by_cases hlt3 : q < J.length
                        · obtain ⟨z0, z1⟩ := HCm.out _ HBw.out
                          obtain ⟨v0, v1, v2⟩ := HVm.out _ HBq.out
                          obtain ⟨b3, off3, p, hA3, hb3, hp, p0, p1, p2, p3⟩ := PsAt.cell4 (HRw.out.below HBq.out) hlt3
                          have htk := any_take (f := hitB xk v) hp
                          have hh : hitB xk v p = (decide (p.num = v.num) && (decide (p.w.key = xk) && (decide (p.w.val = v.val) && decide (p.w.drop = v.drop)))) := rfl
                          have hbk := toL_dec p.w.key xk
                          have hbv := toL_dec p.w.val v.val
                          have q0 : (0 : Int) ≤ (q : Int) := by omega
                          have q1 : (q : Int) < (J.length : Int) := by omega
                          subst hA3
                          obtain ⟨pn, pk, pv, pd⟩ := p
                          obtain ⟨vn, vv, vd⟩ := v
                          simp only at p0 p1 p2 p3 v0 v1 v2 hh hbk hbv
                          have hbn : (pn == vn) = decide (pn = vn) := rfl
                          clear hp
                          generalize hfb : (J.take q).any (hitB xk ⟨vn, vv, vd⟩) = fb at htk ⊢
                          have Hfb := Lib.hid hfb
                          clear hfb
                          cases fb
                          · by_cases hn1 : pn = vn
                            · subst hn1
                              by_cases hk1 : pk = xk
                              · subst hk1
                                by_cases hv1 : pv = vv
                                · subst hv1
                                  by_cases hd1 : pd = vd
                                  · subst hd1
                                    have HT : Hid ((J.take (q + 1)).any (hitB pk ⟨pn, pv, pd⟩) = true) := Lib.hid (by rw [htk, hh]; simp)
                                    have hdd := beq_self_eq_true pd
                                    simp only [decide_true] at hbk hbv hbn
                                    clear htk hh
                                    as_aux_lemma =>
                                    go_wp2_with fail
                                    go_quiet (fail)
                                    go_wp2_with fail
                                    exact ⟨⟨q + 1, by omega, by go_num, by rw [HT.out], Lib.hid (by rw [Hwi.out]; exact below_drewN HBq.out _)⟩, by simp [RowKit.intOf]; omega⟩
                                  · have HT : Hid ((J.take (q + 1)).any (hitB pk ⟨pn, pv, vd⟩) = false) := Lib.hid (by rw [htk, hh]; simp [hd1])
                                    have hdd : (pd == vd) = false := by simp [hd1]
                                    simp only [decide_true] at hbk hbv hbn
                                    clear htk hh
                                    as_aux_lemma =>
                                    go_wp2_with fail
                                    go_quiet (fail)
                                    go_wp2_with fail
                                    exact ⟨⟨q + 1, by omega, by go_num, by rw [HT.out], Lib.hid (by rw [Hwi.out]; exact below_drewN HBq.out _)⟩, by simp [RowKit.intOf]; omega⟩
                                · have HT : Hid ((J.take (q + 1)).any (hitB pk ⟨pn, vv, vd⟩) = false) := Lib.hid (by rw [htk, hh]; simp [hv1])
                                  rw [decide_eq_false hv1] at hbv
                                  simp only [decide_true] at hbk hbn
                                  clear htk hh hv1
                                  as_aux_lemma =>
                                  go_wp2_with fail
                                  go_quiet (fail)
                                  go_wp2_with fail
                                  exact ⟨⟨q + 1, by omega, by go_num, by rw [HT.out], Lib.hid (by rw [Hwi.out]; exact below_drewN HBq.out _)⟩, by simp [RowKit.intOf]; omega⟩
                              · have HT : Hid ((J.take (q + 1)).any (hitB xk ⟨pn, vv, vd⟩) = false) := Lib.hid (by rw [htk, hh]; simp [hk1])
                                rw [decide_eq_false hk1] at hbk
                                simp only [decide_true] at hbn
                                clear htk hh hk1 hbv
                                as_aux_lemma =>
                                go_wp2_with fail
                                go_quiet (fail)
                                go_wp2_with fail
                                exact ⟨⟨q + 1, by omega, by go_num, by rw [HT.out], Lib.hid (by rw [Hwi.out]; exact below_drewN HBq.out _)⟩, by simp [RowKit.intOf]; omega⟩
                            · have HT : Hid ((J.take (q + 1)).any (hitB xk ⟨vn, vv, vd⟩) = false) := Lib.hid (by rw [htk, hh]; simp [hn1])
                              rw [decide_eq_false hn1] at hbn
                              clear htk hh hbk hbv
                              as_aux_lemma =>
                              go_wp2_with fail
                              go_quiet (fail)
                              go_wp2_with fail
                              exact ⟨⟨q + 1, by omega, by go_num, by rw [HT.out], Lib.hid (by rw [Hwi.out]; exact below_drewN HBq.out _)⟩, by simp [RowKit.intOf]; omega⟩
                          · have HT : Hid ((J.take (q + 1)).any (hitB xk ⟨vn, vv, vd⟩) = true) := Lib.hid (by rw [htk]; rfl)
                            clear htk hh hbk hbv hbn
                            as_aux_lemma =>
                            go_wp2_with fail
                            go_quiet (fail)
                            go_wp2_with fail
                            exact ⟨⟨q + 1, by omega, by go_num, by rw [HT.out], Lib.hid (by rw [Hwi.out]; exact below_drewN HBq.out _)⟩, by simp [RowKit.intOf]; omega⟩
                        · obtain rfl : q = J.length := by omega
                          have hall : (J.take J.length).any (hitB xk v) = true := by rw [List.take_of_length_le (Nat.le_refl _)]; exact Hjv.out
                          rw [hall]
                          clear hall
                          as_aux_lemma =>
                          go_wp2_with fail
                          exact ⟨⟨m + 1, by omega, by go_num, HBw⟩, by simp [RowKit.intOf]; omega⟩
                    · obtain rfl : m = xlen := by omega
                      as_aux_lemma =>
                      go_wp2_with fail
                      exact ⟨⟨n + 1, by omega, by go_num, Lib.hid (HB.out.trans (HBm.out.mono hsr))⟩, by simp [RowKit.intOf]; omega⟩
                · obtain rfl : n = D.length := by omega
                  as_aux_lemma =>
                  have hla : (scanH L ⟨#[]⟩ ⟨#[]⟩ mm).length ≤ L.length := List.length_filterMap_le _ _
                  have hca := scan_any t1 L ⟨#[]⟩ ⟨#[]⟩ (mm : Int)
                  have hcb := scan_any t2 D ⟨#[]⟩ ⟨#[]⟩ (mm : Int)
                  rw [HDc.out (mm : Int) ⟨#[]⟩ ⟨#[]⟩ Hm1.out] at hcb
                  generalize scanH L ⟨#[]⟩ ⟨#[]⟩ (mm : Int) = E at hla hca hcb
                  have Hca := Lib.hid hca
                  have Hcb := Lib.hid hcb
                  clear hca hcb
                  go_wp2_with fail
                  refine (Hca.out _ (HS19.out.below HB.out) (by omega)).mono ?_
                  rintro e wa ⟨va, rfl, hoa, hba⟩
                  obtain ⟨Aa, capa, rfl, hra, -⟩ := es_own hoa
                  have HSa := Lib.hid ((HS29.out.below HB.out).below hba)
                  have HRa := Lib.hid hra
                  have HBa := Lib.hid (Hb9.out.trans ((HB.out.trans (hba.mono HB.out.size)).mono Hb9.out.size))
                  clear hoa hba hra
                  go_wp2_with fail
                  refine (Hcb.out _ HSa.out (by omega)).mono ?_
                  rintro e wb ⟨vb, rfl, hob, hbb⟩
                  obtain ⟨Ab, capb, rfl, hrb, -⟩ := es_own hob
                  have hse := sameE_any Aa E.length capa Ab capb E wb ((HRa.out.below hbb).more hbb.size) hrb (by omega)
                  have Hse := Lib.hid hse
                  have HBb := Lib.hid (HBa.out.trans (hbb.mono HBa.out.size))
                  clear hob hbb hrb hse
                  go_wp2_with fail
                  refine Hse.out.mono ?_
                  rintro e wf ⟨rfl, hbf⟩
                  have HBf := Lib.hid (HBb.out.trans (hbf.mono HBb.out.size))
                  clear hbf
                  go_wp2_with fail
                  go_ret
                  exact ⟨rfl, HBf.out⟩
  · go_wp2_with fail
    refine (alive_any _).mono ?_
    rintro e w4 ⟨rfl, hb4⟩
    have Hb4 := Lib.hid (Hb3.out.trans (hb4.mono Hb3.out.size))
    clear hb4
    go_wp2_with fail
    go_ret
    exact ⟨rfl, Hb4.out⟩
end Go.Proofs.Ytogdanakcikdbaa

/- ShardReads: the walk. -/
import Derived.Test.YtogdanakcikdbaaSl8
import Derived.Deep.DeepCutAuto
namespace Go.Proofs.Ytogdanakcikdbaa
open Go.RowKit
set_option linter.unusedVariables false
set_option linter.unusedSimpArgs false

set_option maxRecDepth 100000
theorem any_take {α : Type} {f : α → Bool} {l : List α} {q : Nat} {x : α} (h : l[q]? = some x) : (l.take (q + 1)).any f = ((l.take q).any f || f x) := by
  rw [List.take_add_one, h, List.any_append]; simp
theorem new_get {L : Hs} {J : List Part} (h : Fill L J) (k : ByteArray) (m : Int) : newV (newL J k m) = getV (hget L k) m := by
  rw [reads_new h k m]; unfold newV; cases newL J k m <;> rfl
theorem upto_take {l : List Ver} {q : Nat} {x : Ver} (h : l[q]? = some x) (a : Int) : upto (l.take (q + 1)) a = upto (l.take q) a + if x.num ≤ a then 1 else 0 := by
  unfold upto; rw [List.take_add_one, h, List.countP_append]
  by_cases hx : x.num ≤ a <;> simp [hx]
theorem scan_near {L : Hs} (h : HsOk L) {m : Int} {E : List (ByteArray × ByteArray)} (hE : E = scanH L ⟨#[]⟩ ⟨#[]⟩ m) {n : Nat} {x y : ByteArray × ByteArray} (h1 : 1 ≤ n) (hy : E[n - 1]? = some y) (hx : E[n]? = some x) : ltB y.1 x.1 = true := by
  have hr : Rises (E.map (·.1)) := by rw [hE]; exact scanH_rises h _ _ _
  have h2 := (List.pairwise_iff_getElem.1 hr)
  obtain ⟨g1, g2⟩ := List.getElem?_eq_some_iff.1 hy
  obtain ⟨g3, g4⟩ := List.getElem?_eq_some_iff.1 hx
  have := h2 (n - 1) n (by simpa using g1) (by simpa using g3) (by omega)
  simpa [g2, g4] using this
theorem scan_get {L : Hs} (h : HsOk L) {m : Int} {E : List (ByteArray × ByteArray)} (hE : E = scanH L ⟨#[]⟩ ⟨#[]⟩ m) {x : ByteArray × ByteArray} (hx : x ∈ E) : getV (hget L x.1) m = (x.2, true) := by
  subst hE; exact ((mem_scanH h).1 hx).1
theorem coll_row {L : Hs} (h : HsOk L) {least : Int} {k : ByteArray} {l : List Ver} (hp : (k, l) ∈ collH L least) : upto l least ≤ 1 ∧ l ≠ [] := by
  refine ⟨?_, (collH_ok h least).some_ _ hp⟩
  obtain ⟨q, hq, he⟩ := List.mem_map.1 hp
  injection he with e1 e2
  subst e2
  exact low_collV (chkB_iff.1 (h.chk q hq)).2 least
set_option maxHeartbeats 16000000 in
theorem lawreads_any (A : Option Addr) (len cap : Nat) (ps : List Part) (M T : Nat) (w : World) (hw : PsAt w w.heap.size A len ps) (hl : len * 48 ≤ 140737488351232) (hM : M ≤ 255) (hT : T ≤ 255)
    (hs : ∀ p ∈ ps, p.w.key.size ≤ 140737488351232 ∧ p.w.val.size ≤ 140737488351232) :
    Calls Try.prog 5 #[.slice A len cap, .int .u8 M, .int .u8 T] w fun e w' => e = .returned (.bool true) ∧ Below w.heap.size w w' := by
  have Hw := Lib.hid (fun X (hX : Below w.heap.size w X) => (hw.below hX).more hX.size)
  have Hs := Lib.hid hs
  have hbd := szP_bd ps len (by omega) (by omega) hs
  obtain ⟨sz, hsz⟩ : ∃ sz, sz = szP len ps := ⟨_, rfl⟩
  rw [← hsz] at hbd
  have Hsz := Lib.hid hsz
  have hF := Fill.nil.fill (ps.take 200)
  have hJl := fillH_len (ps.take 200) [] []
  have hJl2 : (fillH (ps.take 200) [] []).2.length ≤ 200 := by simp at hJl; omega
  obtain ⟨L, hL⟩ : ∃ L, L = (fillH (ps.take 200) [] []).1 := ⟨_, rfl⟩
  obtain ⟨J, hJ⟩ : ∃ J, J = (fillH (ps.take 200) [] []).2 := ⟨_, rfl⟩
  rw [← hL, ← hJ] at hF
  rw [← hJ] at hJl2
  have hsize : sizeH L = J.length := hF.size
  have hLl := len_sizeH hF.ok
  have HF := Lib.hid hF
  have HL := Lib.hid hL
  have HJ := Lib.hid hJ
  have Hsize := Lib.hid hsize
  clear hw hs hsz hF hJl hL hJ
  go_enter Try.func5, Try.ntmps5
  go_wp2_with fail
  refine (alive_any _).mono ?_
  rintro e w1 ⟨rfl, hb1⟩
  have Hb1 := Lib.hid hb1
  clear hb1
  go_wp2_with fail
  refine (size9_any A len cap ps _ (Hw.out _ Hb1.out) hl Hs.out).mono ?_
  rintro e w2 ⟨rfl, hb2⟩
  rw [← Hsz.out]
  have Hb2 := Lib.hid (Hb1.out.trans (hb2.mono Hb1.out.size))
  clear hb2
  go_wp2_with fail
  refine (beyondx_any (some ⟨w2.heap.size, 0, none⟩) 1 1 [sz] _ (rowAt_block [sz] (len_int _) (blk_new _ _) (by simp) (fun j u hu => by simpa [Icell] using hu)) (by omega) (fun x hx => by simp at hx; omega)).mono ?_
  rintro e w3 ⟨rfl, hb3⟩
  have Hb3 := Lib.hid ((bel_alloc Hb2.out (.cells #[.int .i64 sz] 3)).trans (hb3.mono (by have := Hb2.out.size; simp; omega)))
  clear hb3
  cases beyB 0 [sz]
  · go_wp2_with fail
    refine (filled_any A len cap ps _ (Hw.out _ Hb3.out) hl).mono ?_
    rintro e w4 ⟨t1, v1, rfl, hs1, ho1, hg1, hp1, hpg, hb4⟩
    rw [← HL.out] at hs1
    rw [← HJ.out] at ho1
    obtain ⟨A1, cap1, rfl, hr1⟩ := ps_own ho1
    have HS1 := Lib.hid hs1
    have Ho1 := Lib.hid ho1
    have Hr1 := Lib.hid hr1
    have HR1 := Lib.hid (fun X (hX : Below w4.heap.size w4 X) => (hr1.below hX).more hX.size)
    have Hb4 := Lib.hid (Hb3.out.trans (hb4.mono Hb3.out.size))
    clear hs1 ho1 hr1 hb4
    have hnew : ∀ (m : Int) (k : ByteArray), newV (newL J k m) = getV (hget L k) m := fun m k => new_get HF.out k m
    have Hnew := Lib.hid hnew
    obtain ⟨mm, hmm⟩ : ∃ mm : Nat, mm = max M T := ⟨_, rfl⟩
    have hmm1 : (T : Int) ≤ (mm : Int) := by omega
    have Hmm := Lib.hid hmm
    have Hm1 := Lib.hid hmm1
    have hE0l : (scanH L ⟨#[]⟩ ⟨#[]⟩ (mm : Int)).length ≤ L.length := List.length_filterMap_le _ _
    obtain ⟨E, hE⟩ : ∃ E, E = scanH L ⟨#[]⟩ ⟨#[]⟩ (mm : Int) := ⟨_, rfl⟩
    rw [← hE] at hE0l
    have HE := Lib.hid hE
    have hfound : ∀ k : ByteArray, (getV (hget L k) (mm : Int)).2 = E.any fun e => decide (e.1 = k) := fun k => by rw [HE.out]; exact reads_found HF.out.ok k (mm : Int)
    have Hfound := Lib.hid hfound
    clear hmm hmm1 hnew hE hfound
    go_upto_region 4 with fail
    go_cut [9] (fun s9 wx => s9 = .int .i64 (mm : Nat) ∧ w4 = wx)
    case first => as_aux_lemma =>
      go_wp2_with fail
      go_meet
      case rel => exact ⟨by have := Hmm.out; congr 1; omega, rfl⟩
    case rest => as_aux_lemma =>
      obtain ⟨rfl, rfl⟩ := hcut
      go_wp2_with fail
      refine (scan_any t1 L ⟨#[]⟩ ⟨#[]⟩ (mm : Int) _ HS1.out (by omega)).mono ?_
      rintro e w5 ⟨v5, rfl, ho5, hb5⟩
      rw [← HE.out] at ho5
      obtain ⟨A5, cap5, rfl, hr5, hn5⟩ := es_own ho5
      have HO5 := Lib.hid ho5
      have HS5 := Lib.hid (HS1.out.below hb5)
      have HR5 := Lib.hid (fun X (hX : Below w5.heap.size w5 X) => (hr5.below hX).more hX.size)
      have HJ5 := Lib.hid (fun X (hX : Below w5.heap.size w5 X) => ((HR1.out w5 hb5).below hX).more hX.size)
      have Hb5 := Lib.hid (Hb4.out.trans (hb5.mono Hb4.out.size))
      have hs45 : w4.heap.size ≤ w5.heap.size := hb5.size
      clear ho5 hr5 hn5 hb5
      go_wp2_with fail
      go_loopw [11] (fun i wr => ∃ n : Nat, n ≤ J.length ∧ i = .int .i64 n ∧ Hid (Below w5.heap.size w5 wr)) (fun i _ => J.length - (RowKit.intOf i).toNat)
      case atStart => exact ⟨0, Nat.zero_le _, rfl, Lib.hid (Below.refl _ _)⟩
      case round =>
        obtain ⟨n, hn, rfl, HB⟩ := hrel
        by_cases hlt : n < J.length
        · skip
          as_aux_lemma =>
          obtain ⟨b, off, x, hA1, hbl, hx, x0, x1, x2, x3⟩ := PsAt.cell4 (HJ5.out wr HB.out) hlt
          obtain ⟨num, wk, wv, wd⟩ := x
          simp only at x0 x1 x2 x3
          have hsr := HB.out.size
          have hk : ∀ X, Below wr.heap.size wr X → X.cell? ⟨b, off + n * 4 + 1, none⟩ = some (.string wk) := fun X hX => (hX.cell (p := ⟨b, off + n * 4 + 1, none⟩) (by show b < _; omega)).trans x1
          have Hk := Lib.hid hk
          have HRn := Lib.hid (fun X (hX : Below wr.heap.size wr X) => HJ5.out X (HB.out.trans (hX.mono hsr)))
          subst hA1
          have hc1 := get_any t1 L wk (mm : Int)
          have hc2 := newest_any (some ⟨b, off, none⟩) J.length cap1 J wk (mm : Int)
          rw [Hnew.out (mm : Int) wk] at hc2
          generalize (getV (hget L wk) (mm : Int)).1 = gv at hc1 hc2
          generalize (getV (hget L wk) (mm : Int)).2 = gd at hc1 hc2
          have Hc1 := Lib.hid hc1
          have Hc2 := Lib.hid hc2
          clear hx hc1 hc2 hk x0 x2 x3
          go_wp2_with fail
          refine (Hc1.out wr (HS5.out.below HB.out)).mono ?_
          rintro e wa ⟨rfl, hba⟩
          have Hba := Lib.hid hba
          have y1 := Hk.out wa hba
          clear hba
          go_wp2_with fail
          refine (Hc2.out wa (HRn.out wa Hba.out) (by omega)).mono ?_
          rintro e wb ⟨rfl, hbb⟩
          have Hbb := Lib.hid (Hba.out.trans (hbb.mono Hba.out.size))
          have HBb := Lib.hid (HB.out.trans (Hbb.out.mono HB.out.size))
          have gg : (gv.toList == gv.toList) = true := by simp
          clear hbb
          cases gd
          all_goals
            go_wp2_with fail
            exact ⟨⟨n + 1, by omega, by go_num, HBb⟩, by simp [RowKit.intOf]; omega⟩
        · obtain rfl : n = J.length := by omega
          have HBo := HB
          go_wp2_with fail
          go_loopw [16] (fun i wr => ∃ n : Nat, n ≤ E.length ∧ i = .int .i64 n ∧ Hid (Below w5.heap.size w5 wr)) (fun i _ => E.length - (RowKit.intOf i).toNat)
          case atStart => exact ⟨0, Nat.zero_le _, rfl, HBo⟩
          case round =>
            obtain ⟨n, hn, rfl, HB⟩ := hrel
            by_cases hlt : n < E.length
            · skip
              as_aux_lemma =>
              obtain ⟨b, off, x, hA5, hbl, hx, x0, x1⟩ := en_cell (HR5.out wr HB.out) hlt
              have hsr := HB.out.size
              have hg := scan_get HF.out.ok HE.out (List.mem_of_getElem? hx)
              obtain ⟨xk, xv⟩ := x
              simp only at x0 x1 hg
              have hc1 := get_any t1 L xk (mm : Int)
              rw [hg] at hc1
              have Hc1 := Lib.hid hc1
              have Hrow := Lib.hid (fun X (hX : Below wr.heap.size wr X) => HR5.out X (HB.out.trans (hX.mono hsr)))
              have Hx := Lib.hid hx
              subst hA5
              have n0 : (0 : Int) ≤ (n : Int) := by omega
              have n1 : (n : Int) < (E.length : Int) := by omega
              clear hx hc1 hg
              go_wp2_with fail
              refine (Hc1.out wr (HS5.out.below HB.out)).mono ?_
              rintro e wa ⟨rfl, hba⟩
              have HBa := Lib.hid (HB.out.trans (hba.mono hsr))
              have z0 := (hba.cell (p := ⟨b, off + n * 2, none⟩) (by show b < _; omega)).trans x0
              have z1 := (hba.cell (p := ⟨b, off + n * 2 + 1, none⟩) (by show b < _; omega)).trans x1
              have gg : (xv.toList == xv.toList) = true := by simp
              rcases Nat.eq_zero_or_pos n with h0 | h0
              · have d1 : decide ((0 : Int) < (n : Int)) = false := by simp; omega
                have d2 : decide (0 < n) = false := by simp; omega
                clear h0 hba x0 x1
                go_wp2_with fail
                go_quiet (fail)
                go_wp2_with fail
                exact ⟨⟨n + 1, by omega, by go_num, Lib.hid (below_drewN HBa.out _)⟩, by simp [RowKit.intOf]; omega⟩
              · obtain ⟨b', off', y, he, hbl', hy, y0, -⟩ := en_cell (Hrow.out wa hba) (i := n - 1) (by omega)
                injection he with he; injection he with he1 he2; subst he1 he2
                have hlt0 := scan_near HF.out.ok HE.out h0 hy Hx.out
                have e6 := less_eq y.1 xk
                rw [hlt0] at e6
                have e1 : IntKind.i64.wrap ((n : Int) - 1) = (n : Int) - 1 := IntWalk.i64_in _ (by omega)
                have e2 : (0 : Int) ≤ (n : Int) - 1 := by omega
                have e3 : ((n : Int) - 1).toNat = n - 1 := by omega
                have e4 : (n : Int) - 1 < (E.length : Int) := by omega
                have e5 : (1 : Int) ≤ (n : Int) := by omega
                have d1 : decide ((0 : Int) < (n : Int)) = true := by simp; omega
                have d2 : decide (0 < n) = true := by simp; omega
                clear hy hlt0 hba x0 x1 h0
                go_wp2_with fail
                go_quiet (fail)
                go_wp2_with fail
                exact ⟨⟨n + 1, by omega, by go_num, Lib.hid (below_drewN HBa.out _)⟩, by simp [RowKit.intOf]; omega⟩
            · obtain rfl : n = E.length := by omega
              have HBo := HB
              go_wp2_with fail
              go_loopw [19] (fun i wr => ∃ n : Nat, n ≤ J.length ∧ i = .int .i64 n ∧ Hid (Below w5.heap.size w5 wr)) (fun i _ => J.length - (RowKit.intOf i).toNat)
              case atStart => exact ⟨0, Nat.zero_le _, rfl, HBo⟩
              case round =>
                obtain ⟨n, hn, rfl, HB⟩ := hrel
                by_cases hlt : n < J.length
                · skip
                  as_aux_lemma =>
                  obtain ⟨b, off, x, hA1, hbl, hx, x0, x1, x2, x3⟩ := PsAt.cell4 (HJ5.out wr HB.out) hlt
                  obtain ⟨num, wk, wv, wd⟩ := x
                  simp only at x0 x1 x2 x3
                  have hsr := HB.out.size
                  have hk : ∀ X, Below wr.heap.size wr X → X.cell? ⟨b, off + n * 4 + 1, none⟩ = some (.string wk) := fun X hX => (hX.cell (p := ⟨b, off + n * 4 + 1, none⟩) (by show b < _; omega)).trans x1
                  have Hk := Lib.hid hk
                  subst hA1
                  have hc1 := get_any t1 L wk (mm : Int)
                  have hfo := Hfound.out wk
                  generalize (getV (hget L wk) (mm : Int)).1 = gv at hc1
                  rw [hfo] at hc1
                  have Hc1 := Lib.hid hc1
                  have n0 : (0 : Int) ≤ (n : Int) := by omega
                  have n1 : (n : Int) < (J.length : Int) := by omega
                  clear hx hc1 hfo hk x0 x2 x3
                  go_wp2_with fail
                  refine (Hc1.out wr (HS5.out.below HB.out)).mono ?_
                  rintro e wa ⟨rfl, hba⟩
                  have HBa := Lib.hid (HB.out.trans (hba.mono hsr))
                  have Hka := Lib.hid (fun X (hX : Below wa.heap.size wa X) => Hk.out X (hba.trans (hX.mono hba.size)))
                  have hsa := HBa.out.size
                  generalize hall : (E.any fun e => decide (e.1 = wk)) = all
                  have Hall := Lib.hid hall
                  clear hba hall x1
                  go_wp2_with fail
                  go_loopw [22, 23] (fun f i wq => ∃ q : Nat, q ≤ E.length ∧ i = .int .i64 q ∧ f = .bool ((E.take q).any fun e => decide (e.1 = wk)) ∧ Hid (Below wa.heap.size wa wq)) (fun _ i _ => E.length - (RowKit.intOf i).toNat)
                  case atStart => exact ⟨0, Nat.zero_le _, rfl, rfl, Lib.hid (Below.refl _ _)⟩
                  case round =>
                    obtain ⟨q, hq, rfl, rfl, HBq⟩ := hrel
                    by_cases hlt3 : q < E.length
                    · have z1 := Hka.out _ HBq.out
                      obtain ⟨b3, off3, p, hA3, hb3, hp, p0, -⟩ := en_cell (HR5.out _ (HBa.out.trans (HBq.out.mono hsa))) hlt3
                      have htk := any_take (f := fun e => decide (e.1 = wk)) hp
                      have hbk := keyL_dec p.1 wk
                      have q0 : (0 : Int) ≤ (q : Int) := by omega
                      have q1 : (q : Int) < (E.length : Int) := by omega
                      subst hA3
                      clear hp
                      generalize ((E.take q).any fun e => decide (e.1 = wk)) = fb at htk ⊢
                      cases fb
                      · by_cases hk1 : p.1 = wk
                        · have HT : Hid (((E.take (q + 1)).any fun e => decide (e.1 = wk)) = true) := Lib.hid (by rw [htk]; simp [hk1])
                          rw [decide_eq_true hk1] at hbk
                          clear htk hk1
                          as_aux_lemma =>
                          go_wp2_with fail
                          go_quiet (fail)
                          go_wp2_with fail
                          exact ⟨⟨q + 1, by omega, by go_num, by rw [HT.out], Lib.hid (below_drewN HBq.out _)⟩, by simp [RowKit.intOf]; omega⟩
                        · have HT : Hid (((E.take (q + 1)).any fun e => decide (e.1 = wk)) = false) := Lib.hid (by rw [htk]; simp [hk1])
                          rw [decide_eq_false hk1] at hbk
                          clear htk hk1
                          as_aux_lemma =>
                          go_wp2_with fail
                          go_quiet (fail)
                          go_wp2_with fail
                          exact ⟨⟨q + 1, by omega, by go_num, by rw [HT.out], Lib.hid (below_drewN HBq.out _)⟩, by simp [RowKit.intOf]; omega⟩
                      · have HT : Hid (((E.take (q + 1)).any fun e => decide (e.1 = wk)) = true) := Lib.hid (by rw [htk]; rfl)
                        clear htk hbk
                        as_aux_lemma =>
                        go_wp2_with fail
                        go_quiet (fail)
                        go_wp2_with fail
                        exact ⟨⟨q + 1, by omega, by go_num, by rw [HT.out], Lib.hid (below_drewN HBq.out _)⟩, by simp [RowKit.intOf]; omega⟩
                    · obtain rfl : q = E.length := by omega
                      rw [List.take_of_length_le (Nat.le_refl _), Hall.out]
                      have HBq2 := Lib.hid (HBa.out.trans (HBq.out.mono hsa))
                      cases all
                      all_goals
                        go_wp2_with fail
                        exact ⟨⟨n + 1, by omega, by go_num, HBq2⟩, by simp [RowKit.intOf]; omega⟩
                · obtain rfl : n = J.length := by omega
                  as_aux_lemma =>
                  have hsr := HB.out.size
                  go_wp2_with fail
                  refine (size_any t1 L _ (HS5.out.below HB.out) (by omega)).mono ?_
                  rintro e w6 ⟨rfl, hb6⟩
                  have HB6 := Lib.hid (HB.out.trans (hb6.mono hsr))
                  clear hb6
                  go_wp2_with fail
                  refine (collects_any t1 L (T : Int) _ (HS5.out.below HB6.out) (by omega)).mono ?_
                  rintro e w7 ⟨rfl, hs7, hk7⟩
                  have HO7 : Hid (OwnE w7 w4.heap.size (.slice A5 E.length cap5) E) := Lib.hid (ownsRow_kept (ownsRow_below HO5.out HB6.out) hk7 (fun q hq => by rw [hq]; exact HS1.out.lt.2))
                  have HS7 := Lib.hid hs7
                  have Hb7 : Hid (Below w.heap.size w w7) := Lib.hid ((Hb5.out.trans (HB6.out.mono Hb5.out.size)).trans (hk7.below (Nat.le_trans Hb5.out.size HB6.out.size) (fun q hq => by rw [hq]; exact Nat.le_trans Hb3.out.size hp1)))
                  obtain ⟨hC1, hC2⟩ := sizeH_collH L (T : Int)
                  have hCl : (collH L (T : Int)).length = L.length := by simp [collH]
                  have hCok := collH_ok HF.out.ok (T : Int)
                  have hCr : ∀ k l, (k, l) ∈ collH L (T : Int) → upto l (T : Int) ≤ 1 ∧ l ≠ [] := fun k l h => coll_row HF.out.ok h
                  have hCs : scanH (collH L (T : Int)) ⟨#[]⟩ ⟨#[]⟩ (mm : Int) = E := by rw [HE.out]; exact reads_after HF.out.ok Hm1.out _ _
                  generalize goneH L (T : Int) = gone at hC1 hC2 ⊢
                  generalize collH L (T : Int) = C at hC1 hCl hCok hCr hCs HS7
                  have HCok := Lib.hid hCok
                  have HCr := Lib.hid hCr
                  have HCs := Lib.hid hCs
                  clear hs7 hk7 hCok hCr hCs
                  go_wp2_with fail
                  refine (all_any t1 C _ HS7.out (by omega)).mono ?_
                  rintro e w8 ⟨v8, hs8, rfl, hh8, hp8, hb8⟩
                  obtain ⟨A8, cap8, rfl, hr8, -, -⟩ := hh8.hds
                  have hl8 : hs8.length = C.length := by rw [← hp8]; simp [plainR]
                  rw [hl8] at hr8 ⊢
                  have HO8 : Hid (OwnE w8 w4.heap.size (.slice A5 E.length cap5) E) := Lib.hid (ownsRow_below HO7.out hb8)
                  have HS8 := Lib.hid (HS7.out.below hb8)
                  have Hr8 := Lib.hid (fun X (hX : Below w8.heap.size w8 X) => (hr8.below hX).more hX.size)
                  have Hp8 := Lib.hid hp8
                  have Hb8 := Lib.hid (Hb7.out.trans (hb8.mono Hb7.out.size))
                  clear hh8 hr8 hl8 hp8 hb8
                  go_wp2_with fail
                  go_loopw [27] (fun i wr => ∃ n : Nat, n ≤ C.length ∧ i = .int .i64 n ∧ Hid (Below w8.heap.size w8 wr)) (fun i _ => C.length - (RowKit.intOf i).toNat)
                  case atStart => exact ⟨0, Nat.zero_le _, rfl, Lib.hid (Below.refl _ _)⟩
                  case round =>
                    obtain ⟨n, hn, rfl, HB⟩ := hrel
                    by_cases hlt : n < C.length
                    · skip
                      as_aux_lemma =>
                      obtain ⟨b, off, x, hA8, hbl, hx, x0, x1, xv, -, -⟩ := (Hr8.out _ HB.out).cell2 hlt
                      have hC : C[n]? = some (x.key, x.vs) := by rw [← Hp8.out]; simp [plainR, hx]
                      obtain ⟨xk, xA, xlen, xcap, xvs⟩ := x
                      simp only at x0 x1 xv hC
                      obtain ⟨c1, c2⟩ := HCr.out xk xvs (List.mem_of_getElem? hC)
                      have hxl := xv.len
                      have hxm : xlen ≤ 4398046511104 := by
                        have := chkB_len (HCok.out.chk _ (List.mem_of_getElem? hC))
                        simp only at this
                        omega
                      have hx0 : 0 < xlen := by
                        rw [← hxl]
                        exact List.length_pos_iff.2 c2
                      have hsr := HB.out.size
                      have n0 : (0 : Int) ≤ (n : Int) := by omega
                      have n1 : (n : Int) < (C.length : Int) := by omega
                      have l1 : ((xlen : Int) == 0) = false := by rw [beq_eq_false_iff_ne]; omega
                      have l2 : (xlen == 0) = false := by rw [beq_eq_false_iff_ne]; omega
                      have Hc1 := Lib.hid c1
                      have Hxl := Lib.hid hxl
                      have HXv := Lib.hid xv
                      have HX1 := Lib.hid x1
                      subst hA8
                      obtain ⟨wo, hwo⟩ : ∃ wo, wo = wr := ⟨_, rfl⟩
                      clear hx hC c1 c2 hxl xv x0 x1
                      go_wp2_with fail
                      go_loopw [28, 29] (fun s i wq => ∃ q : Nat, q ≤ xlen ∧ i = .int .i64 q ∧ s = .int .i64 (upto (xvs.take q) (T : Int) : Nat) ∧ Hid (Below wo.heap.size wo wq)) (fun _ i _ => xlen - (RowKit.intOf i).toNat)
                      case atStart => exact ⟨0, Nat.zero_le _, rfl, by simp [upto], Lib.hid (by subst hwo; exact Below.refl _ _)⟩
                      case round =>
                        subst hwo
                        obtain ⟨q, hq, rfl, rfl, HBq⟩ := hrel
                        have z1 := (HBq.out.cell (p := ⟨b, off + n * 2 + 1, none⟩) (by show b < _; omega)).trans HX1.out
                        by_cases hlt3 : q < xlen
                        · obtain ⟨b2, off2, v, hAx, hb2, hv, v0, -, -⟩ := VsAt.cell3 (HXv.out.below HBq.out) hlt3
                          have htk := upto_take hv (T : Int)
                          have hle : upto (xvs.take q) (T : Int) ≤ q := Nat.le_trans (upto_le _ _) (by rw [List.length_take]; omega)
                          generalize upto (xvs.take q) (T : Int) = u at htk hle ⊢
                          have q0 : (0 : Int) ≤ (q : Int) := by omega
                          have q1 : (q : Int) < (xlen : Int) := by omega
                          subst hAx
                          clear hv
                          by_cases hc : v.num ≤ (T : Int)
                          · have HT : Hid (upto (xvs.take (q + 1)) (T : Int) = u + 1) := Lib.hid (by rw [htk, if_pos hc])
                            clear htk
                            go_wp2_with fail
                            exact ⟨⟨q + 1, by omega, by go_num, by rw [HT.out] <;> go_num, HBq⟩, by simp [RowKit.intOf]; omega⟩
                          · have HT : Hid (upto (xvs.take (q + 1)) (T : Int) = u) := Lib.hid (by rw [htk, if_neg hc, Nat.add_zero])
                            clear htk
                            go_wp2_with fail
                            exact ⟨⟨q + 1, by omega, by go_num, by rw [HT.out] <;> go_num, HBq⟩, by simp [RowKit.intOf]; omega⟩
                        · obtain rfl : q = xlen := by omega
                          rw [List.take_of_length_le (Nat.le_of_eq Hxl.out)]
                          have hu1 := Hc1.out
                          generalize upto xvs (T : Int) = u at hu1 ⊢
                          have d1 : decide ((1 : Int) < (u : Int)) = false := by simp; omega
                          have d2 : decide (1 < u) = false := by simp; omega
                          have HBe := Lib.hid (HB.out.trans (HBq.out.mono hsr))
                          go_wp2_with fail
                          exact ⟨⟨n + 1, by omega, by go_num, HBe⟩, by simp [RowKit.intOf]; omega⟩
                    · obtain rfl : n = C.length := by omega
                      as_aux_lemma =>
                      have f1 : IntKind.i64.wrap ((sizeH L : Int) - (gone : Int)) = (sizeH L : Int) - (gone : Int) := by rw [IntKind.wrap_i64]; omega
                      have f2 : ((sizeH C : Int) == (sizeH L : Int) - (gone : Int)) = true := by rw [beq_iff_eq]; omega
                      have hca := scan_any t1 C ⟨#[]⟩ ⟨#[]⟩ (mm : Int)
                      rw [HCs.out] at hca
                      have Hca := Lib.hid hca
                      have HOr : Hid (OwnE _ w4.heap.size (.slice A5 E.length cap5) E) := Lib.hid (ownsRow_below HO8.out HB.out)
                      have HSr := Lib.hid (HS8.out.below HB.out)
                      have HBr := Lib.hid (Hb8.out.trans (HB.out.mono Hb8.out.size))
                      clear hca
                      go_wp2_with fail
                      refine (size_any t1 C _ HSr.out (by omega)).mono ?_
                      rintro e w9 ⟨rfl, hb9⟩
                      have HO9 : Hid (OwnE w9 w4.heap.size (.slice A5 E.length cap5) E) := Lib.hid (ownsRow_below HOr.out hb9)
                      have HS9 := Lib.hid (HSr.out.below hb9)
                      have Hb9 := Lib.hid (HBr.out.trans (hb9.mono HBr.out.size))
                      clear hb9
                      go_wp2_with fail
                      refine (Hca.out _ HS9.out (by omega)).mono ?_
                      rintro e wa ⟨va, rfl, hoa, hba⟩
                      obtain ⟨Aa, capa, rfl, hra, -⟩ := es_own hoa
                      have hoE : OwnE wa w4.heap.size (.slice A5 E.length cap5) E := ownsRow_below HO9.out hba
                      obtain ⟨A', cap', he, hr', -⟩ := es_own hoE
                      injection he with i1 i2 i3
                      subst i1 i3
                      have hse := sameE_any Aa E.length capa A5 cap5 E wa hra hr' (by omega)
                      have Hse := Lib.hid hse
                      have HBa := Lib.hid (Hb9.out.trans (hba.mono Hb9.out.size))
                      clear hoa hba hra hoE hr' hse
                      go_wp2_with fail
                      refine Hse.out.mono ?_
                      rintro e wf ⟨rfl, hbf⟩
                      have HBf := Lib.hid (HBa.out.trans (hbf.mono HBa.out.size))
                      clear hbf
                      go_wp2_with fail
                      go_ret
                      exact ⟨rfl, HBf.out⟩
  · go_wp2_with fail
    refine (alive_any _).mono ?_
    rintro e w4 ⟨rfl, hb4⟩
    have Hb4 := Lib.hid (Hb3.out.trans (hb4.mono Hb3.out.size))
    clear hb4
    go_wp2_with fail
    go_ret
    exact ⟨rfl, Hb4.out⟩
end Go.Proofs.Ytogdanakcikdbaa

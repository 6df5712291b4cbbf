/- StatTells: the walk of its law. -/
import Derived.Test.YtgkhgbeiploefaaDoorRs4
namespace Go.Proofs.YtgkhgbeiploefaaDoor
open Go.RowKit
set_option linter.unusedVariables false
set_option linter.unusedSimpArgs false

set_option maxRecDepth 100000
def bookZ : Array Value := #[.int .i64 0, .slice none 0 0, .slice none 0 0, .slice none 0 0, .slice none 0 0, .slice none 0 0, .slice none 0 0, .slice none 0 0, .slice none 0 0, .slice none 0 0, .slice none 0 0, .slice none 0 0]
theorem book_newI {w : World} {g Bo : Nat} (h : w.heap[g]? = some (.cells bookZ 48 (0, 0))) (lo : Bo ≤ g) : BkAtI w g Bo 0 [] := by
  refine ⟨⟨lo, Nat.le_trans lo (Nat.le_of_lt (blk_lt h))⟩, by omega, ⟨bookZ, h, rfl, rfl, rfl, rfl, rfl, rfl, rfl, rfl, rfl, rfl, rfl, rfl, ?_⟩, by simp⟩
  exact ⟨none, 0, rfl, TkAt.nil _ _, by simp, List.Pairwise.nil⟩
theorem ints_any (g Bo cnt : Nat) (xInt : List BkE) (A : Option Addr) (len cap : Nat) (w : World) (h : BkAtI w g Bo cnt xInt) (hp : P0 mkInt 1 3 17592186044345 w Bo ⟨A, len, cap, cnt + 1, none, 0, 0⟩) (hd : ∀ e ∈ xInt, ∀ a c, e.A = some a → A = some c → a.block ≠ c.block) (hc : cnt + 1 ≤ 1152921504606846976) (hl : xInt.length + 1 ≤ 2199023255552) :
    Calls Tryd.prog 11 #[.pointer (some ⟨g, 0, none⟩), .slice A len cap] w fun e w' => e = .returned (.tuple #[]) ∧ BkAtI w' g Bo (cnt + 1) (xInt ++ [⟨A, len, cap, cnt + 1, none, 0, 0⟩]) ∧ Kept w w' (fun b => b = g ∨ ∃ cs, w.heap[b]? = some (.cells cs 70 (0, 0))) ∧ Below Bo w w' := by
  have HK := Lib.hid (tellIntI_any g Bo cnt xInt A len cap w h hp hd hc hl)
  clear h hp hd
  go_enter Tryd.func11, Tryd.ntmps11
  go_wp2_with fail
  refine HK.out.mono ?_
  rintro e w' ⟨rfl, h1, h2⟩
  have H := Lib.hid (And.intro h1 h2)
  clear h1 h2
  go_wp2_with fail
  exact bodyPost_end (results_none rfl _ _ _) rfl ⟨rfl, H.out⟩
set_option maxHeartbeats 8000000 in
theorem lawtells_any (c : Cfg) (A : Option Addr) (len cap : Nat) (es : List Ev) (w : World) (he : EsAt w w.heap.size A len es) (hlc : len ≤ cap) (hl : len * 48 ≤ 140737488351232) (hT : TabB Tryd.prog w.heap.size w) :
    Calls Tryd.prog 3 #[c.v, .slice A len cap] w fun e w' => e = .returned (.bool true) ∧ Below w.heap.size w w' := by
  have He := Lib.hid he
  have HT := Lib.hid hT
  obtain ⟨m, hm⟩ : ∃ m, m = min len 1000 := ⟨_, rfl⟩
  have hml : m ≤ len := by omega
  have hm1 : m ≤ 1000 := by omega
  have Hm := Lib.hid hm
  obtain ⟨cL, cS, cW, cQ⟩ := c
  clear he hT hm
  unfold Cfg.v
  go_enter Tryd.func3, Tryd.ntmps3
  go_upto_region 1 with fail
  obtain ⟨W, hW⟩ : ∃ W, W = w.alloc (.cells #[.int .i64 cL, .int .i64 cS, .int .i64 cW, .int .i64 cQ] 23) := ⟨_, rfl⟩
  rw [← hW]
  have HB : Hid (Below w.heap.size w W) := Lib.hid (hW ▸ bel_alloc (Below.refl _ _) _)
  have HN : Hid (W.heap[w.heap.size]? = some (.cells #[.int .i64 cL, .int .i64 cS, .int .i64 cW, .int .i64 cQ] 23 (0, 0))) := Lib.hid (hW ▸ blk_new _ _)
  clear hW
  have hmc : m ≤ cap := by omega
  go_cut [5] (fun s wx => s = .slice A m cap ∧ wx = W)
  case first => as_aux_lemma =>
    by_cases hle : len ≤ 1000
    · have e1 : m = len := by have := Hm.out; omega
      subst e1
      have hmn : min (m : Int) 1000 = (m : Int) := by omega
      go_wp2_with fail
      all_goals go_meet
      all_goals (case rel => exact ⟨rfl, rfl⟩)
    · have e1 : m = 1000 := by have := Hm.out; omega
      subst e1
      have hmn : min (len : Int) 1000 = 1000 := by omega
      go_wp2_with fail
      all_goals go_meet
      all_goals (case rel => exact ⟨rfl, rfl⟩)
  case rest =>
    obtain ⟨rfl, rfl⟩ := hcut
    obtain ⟨xs, hxs⟩ : ∃ xs, xs = es.take m := ⟨_, rfl⟩
    have Hrow : Hid (∀ X, Below w.heap.size w X → EsAt X X.heap.size A m xs) := Lib.hid (fun X hX => by rw [hxs]; exact ((He.out.below hX).take_ hml).more hX.size)
    have hxl : xs.length = m := by rw [hxs, List.length_take, He.out.len]; omega
    have HC : Hid (∀ X, Below w.heap.size w X → X.heap[w.heap.size]? = wc.heap[w.heap.size]? → X.cell? ⟨w.heap.size, 0, none⟩ = some (.int .i64 cL) ∧ X.cell? ⟨w.heap.size, 1, none⟩ = some (.int .i64 cS) ∧ X.cell? ⟨w.heap.size, 2, none⟩ = some (.int .i64 cW) ∧ X.cell? ⟨w.heap.size, 3, none⟩ = some (.int .i64 cQ)) := Lib.hid (fun X hX e => by
      have h := e.trans HN.out
      exact ⟨blk_cell h 0, blk_cell h 1, blk_cell h 2, blk_cell h 3⟩)
    obtain ⟨lo, hlo⟩ : ∃ lo, lo = w.heap.size := ⟨_, rfl⟩
    have hls := HB.out.size
    rw [← hlo] at HB HN Hrow HC hls HT ⊢
    have H0 : Hid (w.heap.size = lo) := Lib.hid hlo.symm
    clear hlo
    have hm2 : m ≤ 4398046511104 := by omega
    go_wp2_with fail
    refine (twinEv_any A m cap xs _ (Hrow.out _ HB.out) (by omega)).mono ?_
    rintro e w1 ⟨rfl, h1, h2⟩
    obtain ⟨gi, hgi⟩ : ∃ gi, gi = wc.heap.size := ⟨_, rfl⟩
    rw [← hgi] at h1 h2 hls ⊢
    have Hgi := Lib.hid hls
    have HI1 := Lib.hid h1
    have HB1 := Lib.hid (HB.out.trans (h2.mono hls))
    have hz1 : lo ≤ w1.heap.size := by have := HB1.out.size; have := H0.out; omega
    have HN1 := Lib.hid (h2.block lo (by rw [hgi]; exact blk_lt HN.out))
    obtain ⟨c0, c1, c2, c3⟩ := HC.out w1 HB1.out HN1.out
    clear h1 h2 hgi hls
    have HROW : Hid (∀ X : World, X.heap[gi]? = some (.cells (List.flatMap Ev.cells (xs ++ [spEv])).toArray 54 (0, 0)) → EsAt X X.heap.size (some ⟨gi, 0, none⟩) m xs) := Lib.hid (fun X h => by
      have hr := RowAt.take_ (k := m) (row_of_blk (len_ev _) h (blk_lt h)) (by rw [hxl]; omega)
      rwa [List.take_append_of_le_length (by omega), List.take_of_length_le (by omega)] at hr)
    go_wp2_with fail
    refine (of_u ⟨cL, cS, cW, cQ⟩ _ m (m + 1) xs _ (HROW.out _ HI1.out) hm2).mono ?_
    rintro e w2 ⟨rfl, h2⟩
    have HB2 := Lib.hid (HB1.out.trans (h2.mono hz1))
    have hz2 : lo ≤ w2.heap.size := by have := HB2.out.size; have := H0.out; omega
    have HI2 := Lib.hid ((h2.block gi (blk_lt HI1.out)).trans HI1.out)
    have HN2 := Lib.hid ((h2.block lo (blk_lt (HN1.out.trans HN.out))).trans HN1.out)
    clear c0 c1 c2 c3
    obtain ⟨c0, c1, c2, c3⟩ := HC.out w2 HB2.out HN2.out
    clear h2
    obtain ⟨s0, s1, s2, s3, s4, hsv⟩ : ∃ s0 s1 s2 s3 s4, Sts.v (stF ⟨cL, cS, cW, cQ⟩ xs) = .agg #[.int .i64 s0, .int .i64 s1, .int .i64 s2, .int .i64 s3, .int .i64 s4] := ⟨_, _, _, _, _, rfl⟩
    obtain ⟨er, her⟩ : ∃ er, er = errCfg (Cfg.ok ⟨cL, cS, cW, cQ⟩) := ⟨_, rfl⟩
    have Hsv := Lib.hid hsv
    have Her := Lib.hid her
    rw [hsv, ← her]
    clear hsv her
    obtain ⟨gs, hgs⟩ : ∃ gs, gs = w2.heap.size := ⟨_, rfl⟩
    obtain ⟨w3, hV3⟩ : ∃ V, V = w2.alloc (.cells #[.int .i64 s0, .int .i64 s1, .int .i64 s2, .int .i64 s3, .int .i64 s4] 27) := ⟨_, rfl⟩
    have h2 : Below w2.heap.size w2 w3 := hV3 ▸ (Below.refl _ _).alloc (Nat.le_refl _) _
    have HB3 := Lib.hid (HB2.out.trans (h2.mono hz2))
    have hz3 : lo ≤ w3.heap.size := by have := HB3.out.size; have := H0.out; omega
    have HI3 := Lib.hid ((h2.block gi (blk_lt HI2.out)).trans HI2.out)
    have HN3 := Lib.hid ((h2.block lo (blk_lt (HN2.out.trans HN.out))).trans HN2.out)
    clear c0 c1 c2 c3
    obtain ⟨c0, c1, c2, c3⟩ := HC.out w3 HB3.out HN3.out
    have HS3 := Lib.hid (show w3.heap[gs]? = some (.cells #[.int .i64 s0, .int .i64 s1, .int .i64 s2, .int .i64 s3, .int .i64 s4] 27 (0, 0)) from by rw [hV3, hgs]; exact blk_new _ _)
    clear h2
    rw [hV3] at c0 c1 c2 c3
    go_wp2_with fail
    rw [← hV3, ← hgs]
    rw [← hV3] at c0 c1 c2 c3
    clear hV3 hgs
    obtain ⟨ll, hll⟩ : ∃ ll, ll = lnF ⟨cL, cS, cW, cQ⟩ xs := ⟨_, rfl⟩
    obtain ⟨n, hn⟩ : ∃ n, n = ll.length := ⟨_, rfl⟩
    have hn16 : n ≤ 1000 := by
      rw [hn, hll]; unfold lnF
      split
      · rw [lanes_len]; have := (ok_lanes (by assumption)).2; simp only at this ⊢; omega
      · simp
    have Hn := Lib.hid hn
    have Hll := Lib.hid hll.symm
    clear hll hn hxs
    refine (lanes_u ⟨cL, cS, cW, cQ⟩ _ m (m + 1) xs _ (HROW.out _ HI3.out) hm2).mono ?_
    rintro e w4 ⟨Aa, rfl, h1, h2⟩
    have HB4 := Lib.hid (HB3.out.trans (h2.mono hz3))
    have hz4 : lo ≤ w4.heap.size := by have := HB4.out.size; have := H0.out; omega
    have HI4 := Lib.hid ((h2.block gi (blk_lt HI3.out)).trans HI3.out)
    have HN4 := Lib.hid ((h2.block lo (blk_lt (HN3.out.trans HN.out))).trans HN3.out)
    clear c0 c1 c2 c3
    obtain ⟨c0, c1, c2, c3⟩ := HC.out w4 HB4.out HN4.out
    have HS4 := Lib.hid ((h2.block gs (blk_lt HS3.out)).trans HS3.out)
    rw [Hll.out] at h1 ⊢
    rw [← Hn.out]
    have Ha4 := Lib.hid h1
    have HL3 := Lib.hid hz3
    have HL4 := Lib.hid (show lo ≤ w4.heap.size from hz4)
    have Hal := Lib.hid (fun a (ea : Aa = some a) => (Ha4.out.lt ea).2)
    clear h1
    rw [← Her.out]
    clear h2
    go_wp2_with fail
    refine (lanes_u ⟨cL, cS, cW, cQ⟩ _ m (m + 1) xs _ (HROW.out _ HI4.out) hm2).mono ?_
    rintro e w5 ⟨Ab, rfl, h1, h2⟩
    have HB5 := Lib.hid (HB4.out.trans (h2.mono hz4))
    have hz5 : lo ≤ w5.heap.size := by have := HB5.out.size; have := H0.out; omega
    have HI5 := Lib.hid ((h2.block gi (blk_lt HI4.out)).trans HI4.out)
    have HN5 := Lib.hid ((h2.block lo (blk_lt (HN4.out.trans HN.out))).trans HN4.out)
    clear c0 c1 c2 c3
    obtain ⟨c0, c1, c2, c3⟩ := HC.out w5 HB5.out HN5.out
    have HS5 := Lib.hid ((h2.block gs (blk_lt HS4.out)).trans HS4.out)
    rw [Hll.out] at h1 ⊢
    rw [← Hn.out]
    have Hb5 := Lib.hid h1
    have Ha5 := Lib.hid (Ha4.out.below h2)
    clear h1
    rw [← Her.out]
    clear h2
    go_wp2_with fail
    refine (rof_u ⟨cL, cS, cW, cQ⟩ A m cap xs _ (Hrow.out _ HB5.out) hmc hm2).mono ?_
    rintro e w6 ⟨rfl, h2⟩
    have HB6 := Lib.hid (HB5.out.trans (h2.mono hz5))
    have hz6 : lo ≤ w6.heap.size := by have := HB6.out.size; have := H0.out; omega
    have HI6 := Lib.hid ((h2.block gi (blk_lt HI5.out)).trans HI5.out)
    have HN6 := Lib.hid ((h2.block lo (blk_lt (HN5.out.trans HN.out))).trans HN5.out)
    clear c0 c1 c2 c3
    obtain ⟨c0, c1, c2, c3⟩ := HC.out w6 HB6.out HN6.out
    have HS6 := Lib.hid ((h2.block gs (blk_lt HS5.out)).trans HS5.out)
    have Hb6 := Lib.hid (Hb5.out.below h2)
    have Ha6 := Lib.hid (Ha5.out.below h2)
    rw [Hsv.out, ← Her.out]
    clear h2
    obtain ⟨gt, hgt⟩ : ∃ gt, gt = w6.heap.size := ⟨_, rfl⟩
    obtain ⟨w7, hV7⟩ : ∃ V, V = w6.alloc (.cells #[.int .i64 s0, .int .i64 s1, .int .i64 s2, .int .i64 s3, .int .i64 s4] 27) := ⟨_, rfl⟩
    have h2 : Below w6.heap.size w6 w7 := hV7 ▸ (Below.refl _ _).alloc (Nat.le_refl _) _
    have HB7 := Lib.hid (HB6.out.trans (h2.mono hz6))
    have hz7 : lo ≤ w7.heap.size := by have := HB7.out.size; have := H0.out; omega
    have HI7 := Lib.hid ((h2.block gi (blk_lt HI6.out)).trans HI6.out)
    have HN7 := Lib.hid ((h2.block lo (blk_lt (HN6.out.trans HN.out))).trans HN6.out)
    clear c0 c1 c2 c3
    obtain ⟨c0, c1, c2, c3⟩ := HC.out w7 HB7.out HN7.out
    have HTt7 := Lib.hid (show w7.heap[gt]? = some (.cells #[.int .i64 s0, .int .i64 s1, .int .i64 s2, .int .i64 s3, .int .i64 s4] 27 (0, 0)) from by rw [hV7, hgt]; exact blk_new _ _)
    have HS7 := Lib.hid ((h2.block gs (blk_lt HS6.out)).trans HS6.out)
    have Hb7 := Lib.hid (Hb6.out.below h2)
    have Ha7 := Lib.hid (Ha6.out.below h2)
    clear h2
    rw [hV7] at c0 c1 c2 c3
    go_wp2_with fail
    rw [← hV7, ← hgt]
    rw [← hV7] at c0 c1 c2 c3
    clear hV7 hgt
    refine (rlanes_u ⟨cL, cS, cW, cQ⟩ A m cap xs _ (Hrow.out _ HB7.out) hmc hm2).mono ?_
    rintro e w8 ⟨Aw, rfl, h1, h2⟩
    have HB8 := Lib.hid (HB7.out.trans (h2.mono hz7))
    have hz8 : lo ≤ w8.heap.size := by have := HB8.out.size; have := H0.out; omega
    have HI8 := Lib.hid ((h2.block gi (blk_lt HI7.out)).trans HI7.out)
    have HN8 := Lib.hid ((h2.block lo (blk_lt (HN7.out.trans HN.out))).trans HN7.out)
    clear c0 c1 c2 c3
    obtain ⟨c0, c1, c2, c3⟩ := HC.out w8 HB8.out HN8.out
    have HS8 := Lib.hid ((h2.block gs (blk_lt HS7.out)).trans HS7.out)
    have HTt8 := Lib.hid ((h2.block gt (blk_lt HTt7.out)).trans HTt7.out)
    rw [Hll.out] at h1 ⊢
    rw [← Hn.out]
    have Hw8 := Lib.hid h1
    have Hb8 := Lib.hid (Hb7.out.below h2)
    have Ha8 := Lib.hid (Ha7.out.below h2)
    clear h1
    rw [← Her.out]
    clear h2
    have a0 := blk_cell HS8.out 0
    have a1 := blk_cell HS8.out 1
    have a2 := blk_cell HS8.out 2
    have a3 := blk_cell HS8.out 3
    have a4 := blk_cell HS8.out 4
    have b0 := blk_cell HTt8.out 0
    have b1 := blk_cell HTt8.out 1
    have b2 := blk_cell HTt8.out 2
    have b3 := blk_cell HTt8.out 3
    have b4 := blk_cell HTt8.out 4
    have e0 := beq_self_eq_true s0
    have e1 := beq_self_eq_true s1
    have e2 := beq_self_eq_true s2
    have e3 := beq_self_eq_true s3
    have e4 := beq_self_eq_true s4
    have e5 := beq_self_eq_true er
    clear c0 c1 c2 c3
    go_wp2_with fail
    refine (sameI_any Aa n n Aw n ll _ (by rw [Hn.out]; exact Ha8.out.row) (by rw [Hn.out]; exact Hw8.out.row) (by omega)).mono ?_
    rintro e w9 ⟨rfl, h2⟩
    have HB9 := Lib.hid (HB8.out.trans (h2.mono hz8))
    have hz9 : lo ≤ w9.heap.size := by have := HB9.out.size; have := H0.out; omega
    have HI9 := Lib.hid ((h2.block gi (blk_lt HI8.out)).trans HI8.out)
    have Ha9 := Lib.hid (Ha8.out.below h2)
    have Hb9 := Lib.hid (Hb8.out.below h2)
    have Hw9 := Lib.hid (Hw8.out.below h2)
    clear h2 a0 a1 a2 a3 a4 b0 b1 b2 b3 b4 e0 e1 e2 e3 e4 e5
    go_wp2_with fail
    refine (sameI_any Ab n n Aw n ll _ (by rw [Hn.out]; exact Hb9.out.row) (by rw [Hn.out]; exact Hw9.out.row) (by omega)).mono ?_
    rintro e w10 ⟨rfl, h2⟩
    have HB10 := Lib.hid (HB9.out.trans (h2.mono hz9))
    have hz10 : lo ≤ w10.heap.size := by have := HB10.out.size; have := H0.out; omega
    have HI10 := Lib.hid ((h2.block gi (blk_lt HI9.out)).trans HI9.out)
    have Ha10 := Lib.hid (Ha9.out.below h2)
    have Hb10 := Lib.hid (Hb9.out.below h2)
    clear h2
    go_wp2_with fail
    refine (leftEv_any gi A m cap xs _ HI10.out (Hrow.out _ HB10.out) (by omega)).mono ?_
    rintro e w11 ⟨rfl, h2⟩
    have HB11 := Lib.hid (HB10.out.trans (h2.mono hz10))
    have hz11 : lo ≤ w11.heap.size := by have := HB11.out.size; have := H0.out; omega
    have Ha11 := Lib.hid (Ha10.out.below h2)
    have Hb11 := Lib.hid (Hb10.out.below h2)
    clear h2
    go_wp2_with fail
    obtain ⟨g, hg⟩ : ∃ g, g = w11.heap.size := ⟨_, rfl⟩
    obtain ⟨w12, hV⟩ : ∃ V, V = w11.alloc (.cells #[.int .i64 0, .slice none 0 0, .slice none 0 0, .slice none 0 0, .slice none 0 0, .slice none 0 0, .slice none 0 0, .slice none 0 0, .slice none 0 0, .slice none 0 0, .slice none 0 0, .slice none 0 0] 48) := ⟨_, rfl⟩
    have h2 : Below w11.heap.size w11 w12 := hV ▸ (Below.refl _ _).alloc (Nat.le_refl _) _
    have HG := Lib.hid (show BkAtI w12 g lo 0 [] from book_newI (by rw [hV, hg]; exact blk_new _ _) (by rw [hg]; exact hz11))
    have HB12 := Lib.hid (HB11.out.trans (h2.mono hz11))
    have hz12 : lo ≤ w12.heap.size := by have := HB12.out.size; have := H0.out; omega
    have Ha12 := Lib.hid (Ha11.out.below h2)
    have Hb12 := Lib.hid (Hb11.out.below h2)
    have hgz : lo ≤ g := by rw [hg]; exact hz11
    rw [← hV, ← hg]
    clear h2 hV hg
    have hpa : P0 mkInt 1 3 17592186044345 w12 lo ⟨Aa, n, n, 0 + 1, none, 0, 0⟩ := Hn.out ▸ (Ha12.out.more HL3.out).p0 (by have := Hn.out; omega) (by omega)
    have hpb : P0 mkInt 1 3 17592186044345 w12 lo ⟨Ab, n, n, 0 + 1 + 1, none, 0, 0⟩ := Hn.out ▸ (Hb12.out.more HL4.out).p0 (by have := Hn.out; omega) (by omega)
    have HPB := Lib.hid hpb
    refine (ints_any g lo 0 [] Aa n n w12 HG.out hpa (by simp) (by omega) (by simp)).mono ?_
    rintro e w13 ⟨rfl, h1, h2, h3⟩
    have HG13 := Lib.hid h1
    have HB13 := Lib.hid (HB12.out.trans h3)
    have hz13 : lo ≤ w13.heap.size := by have := HB13.out.size; have := H0.out; omega
    have HPB13 := Lib.hid (HPB.out.more h2 (fun a ea hx => by
      obtain ⟨c1, k1⟩ := HPB.out.tk.ty ea
      obtain ⟨cs, k0, -⟩ := HG.out.st
      rcases hx with hx | ⟨c2, k2⟩
      · rw [hx] at k1; rw [k1] at k0; injection k0 with k0; injection k0 with q1 q2 q3; revert q2; decide
      · rw [k1] at k2; injection k2 with k2; injection k2 with q1 q2 q3; revert q2; decide))
    clear h1 h2 h3 hpa hpb
    go_wp2_with fail
    refine (ints_any g lo (0 + 1) ([] ++ [⟨Aa, n, n, 0 + 1, none, 0, 0⟩]) Ab n n w13 HG13.out HPB13.out (by
      intro e he a c ea ec
      simp at he; subst he
      have := Hal.out a ea
      have := (Hb12.out.lt ec).1
      intro hne
      omega) (by omega) (by simp)).mono ?_
    rintro e w14 ⟨rfl, h1, h2, h3⟩
    have HG14 := Lib.hid h1
    have HB14 := Lib.hid (HB13.out.trans h3)
    clear h1 h2 h3
    go_wp2_with fail
    refine (apartI_any g lo _ _ w14 HG14.out (HT.out.next HB14.out)).mono ?_
    rintro e w15 ⟨rfl, -, h3⟩
    have HB15 := Lib.hid (HB14.out.trans h3)
    have hz15 : lo ≤ w15.heap.size := by have := HB15.out.size; have := H0.out; omega
    clear h3
    go_wp2_with fail
    refine (stlives_any w15).mono ?_
    rintro e w16 ⟨rfl, h3⟩
    have HB16 := Lib.hid (HB15.out.trans (h3.mono hz15))
    clear h3
    go_wp2_with fail
    go_ret
    exact ⟨rfl, H0.out ▸ HB16.out⟩
end Go.Proofs.YtgkhgbeiploefaaDoor
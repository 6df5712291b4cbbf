/- The document's table of dependencies at memory: Add. -/
import Derived.Test.YtcjmppjppmiggaaGreatMA
namespace Go.Proofs.YtcjmppjppmiggaaGreat
open Go.RowKit
set_option linter.unusedVariables false
set_option linter.unusedSimpArgs false

set_option maxRecDepth 100000
def R11Add (w : World) (Bo g : Nat) (A : Option Addr) (n : Nat) (xs : List O2) (num : Nat) (ws : List Wr) (e : Ending) (w' : World) : Prop :=
  ∃ A' c' x, e = .returned (.tuple #[.int .i64 (waitsO (xs.map O2.o) ws).length, .int .i64 0]) ∧ O2.o x = ⟨num, ws, waitsO (xs.map O2.o) ws, false⟩ ∧ RTAt w' Bo g A' (n + 1) c' (xs ++ [x]) ∧ Kept w w' (fun b => b = g ∨ ∃ a, A = some a ∧ b = a.block) ∧ FromA w A A' ∧
    ∀ b, (∃ a, x.W.A = some a ∧ b = a.block) ∨ (∃ a, x.T.A = some a ∧ b = a.block) → w.heap.size ≤ b
theorem withN_len (l : List Nat) (n : Nat) : (withN l n).length ≤ l.length + 1 := by
  unfold withN
  split
  · omega
  · rw [insN_len]; omega
theorem waits_take_succ {α β : Type} (f : β → α → β) (b : β) {l : List α} {k : Nat} {x : α} (h : l[k]? = some x) : (l.take (k + 1)).foldl f b = f ((l.take k).foldl f b) x := by
  rw [List.take_add_one, h, Option.toList_some, List.foldl_append]; rfl
set_option maxHeartbeats 4000000 in
theorem r11add_any (Bo g : Nat) (A : Option Addr) (n c : Nat) (xs : List O2) (num : Nat) (Aw : Option Addr) (lenw capw : Nat) (ws : List Wr) (w : World) (h : RTAt w Bo g A n c xs) (hBo : Bo ≤ w.heap.size) (hn : n ≤ 65536) (hws : WsAt w w.heap.size Aw lenw ws) (hnil : Aw = none → capw = 0) (hok : txB num ws = true) (hord : ∀ x ∈ xs, x.o.num < num) (hwn : ∀ x ∈ xs, x.W.n ≤ 65536) :
    Calls Tryz.prog 68 #[.pointer (some ⟨g, 0, none⟩), .agg #[.int .i64 num, .slice Aw lenw capw]] w (R11Add w Bo g A n xs num ws) := by
  obtain ⟨i0, hi, hz0, hz1, hz2⟩ := info_parts info_wr
  obtain ⟨j0, hj, hy0, hy1, hy2⟩ := info_parts info_one
  have hwl : ws.length = lenw := hws.len
  have hl32 : lenw ≤ 32 := by
    simp only [txB, Bool.and_eq_true, decide_eq_true_eq] at hok
    rw [← hwl]; exact hok.1.2
  have Hwl := Lib.hid hwl
  have H := Lib.hid h
  have HBo := Lib.hid hBo
  have Hws := Lib.hid hws
  have Hnil := Lib.hid hnil
  have Hlen := Lib.hid h.tk.len
  have HWn := Lib.hid hwn
  obtain ⟨W0, hW0⟩ : ∃ W0, W0 = w.alloc (.cells #[.int .i64 num, .slice Aw lenw capw] 45) := ⟨_, rfl⟩
  have hb0 : Below w.heap.size w W0 := hW0 ▸ bel_alloc (Below.refl _ _) _
  have HX0 : Hid (W0.heap[w.heap.size]? = some (.cells #[.int .i64 num, .slice Aw lenw capw] 45 (0, 0))) := Lib.hid (by rw [hW0]; exact blk_new _ _)
  have Hchk := Lib.hid (refcheck_any (num : Int) Aw lenw capw ws W0 ((hws.below hb0).more hb0.size))
  rw [hok] at Hchk
  have HB0 := Lib.hid hb0
  have HW0 := Lib.hid hW0
  have x0 := blk_cell HX0.out 0
  have x1 := blk_cell HX0.out 1
  have Hord := Lib.hid hord
  clear hb0 hW0 h hBo hws hnil hok hord hwn hwl
  go_enter Tryz.func68, Tryz.ntmps68
  go_wp2_with fail
  rw [← HW0.out]
  go_wp2_with fail
  refine Hchk.out.mono ?_
  rintro e w1 ⟨rfl, hb1⟩
  have HB1 : Hid (Below w.heap.size w w1) := Lib.hid (HB0.out.trans (hb1.mono HB0.out.size))
  have HX1 := Lib.hid ((hb1.block _ (blk_lt HX0.out)).trans HX0.out)
  clear hb1 x0 x1
  have x0 := blk_cell HX1.out 0
  have hst := (H.out.below HB1.out).st
  have s0 := blk_cell hst 0
  simp only [errOf]
  by_cases hn0 : n = 0
  · have d3 : decide ((0 : Int) < (n : Int)) = false := decide_eq_false (by omega)
    have d4 : decide (0 < n) = false := decide_eq_false (by omega)
    clear hst
    go_wp2_with fail
    go_quiet (fail)
    obtain ⟨W2, hW2⟩ : ∃ W2, W2 = w1.drewN nq := ⟨_, rfl⟩
    have HB2 : Hid (Below w.heap.size w W2) := Lib.hid (hW2 ▸ below_drewN HB1.out _)
    have HX2 : Hid (W2.heap[w.heap.size]? = some (.cells #[.int .i64 num, .slice Aw lenw capw] 45 (0, 0))) := Lib.hid (hW2 ▸ HX1.out)
    try clear hq1 d1 d2 d5 d6 hbl hzn z0
    try clear eA
    try clear hq
    try clear hn0
    clear d3 d4 s0 x0
    go_wp2_with fail
    try rw [← hW2]
    clear hW2
    go_loopw [6, 7] (fun v i wr => ∃ (k : Nat) (A' : Option Addr) (n' c' : Nat) (acc : List Nat), k ≤ lenw ∧ i = .int .i64 k ∧ v = .slice A' n' c' ∧ Hid ((ws.take k).foldl (waitS (xs.map O2.o)) [] = acc) ∧ Hid (TkAt nC 1 3 wr w.heap.size A' n' c' acc) ∧ Hid (Below w.heap.size w wr) ∧ Hid (wr.heap[w.heap.size]? = some (.cells #[.int .i64 num, .slice Aw lenw capw] 45 (0, 0))) ∧ n' ≤ k) (fun _ i _ => lenw - (RowKit.intOf i).toNat)
    case atStart => exact ⟨0, none, 0, 0, [], Nat.zero_le _, rfl, rfl, Lib.hid rfl, Lib.hid (TkAt.nil _ _), HB2, HX2, Nat.le_refl _⟩
    case round =>
      obtain ⟨k, A', n', c', acc, hk, rfl, rfl, HF, HT, HB, HX, hn'⟩ := hrel
      have x0 := blk_cell HX.out 0
      have x1 := blk_cell HX.out 1
      by_cases hlt : k < lenw
      · obtain ⟨b, off, y, rfl, hbl, hy, hyc⟩ := (Hws.out.below HB.out).at_ hlt
        have y0 : wr.cell? ⟨b, off + k * 3, none⟩ = some (.string y.key) := by simpa using hyc 0 _ rfl
        have HL := Lib.hid (r11last_any Bo g A n c xs y.key wr (H.out.below HB.out) (by omega) HWn.out)
        obtain ⟨r, hr⟩ : ∃ r, r = lastI (xs.map O2.o) y.key n := ⟨_, rfl⟩
        rw [← hr] at HL
        have hlo := lastO_eq (xs.map O2.o) y.key
        rw [List.length_map, Hlen.out, ← hr] at hlo
        have hsucc := waits_take_succ (waitS (xs.map O2.o)) [] hy
        rw [HF.out] at hsucc
        have Hsucc := Lib.hid hsucc
        have Hlo := Lib.hid hlo
        clear hy hyc hsucc hlo
        cases r with
        | none =>
          have hm1 : ¬ (0 : Int) ≤ -1 := by omega
          have hac : waitS (xs.map O2.o) acc y = acc := by unfold waitS; rw [Hlo.out]; rfl
          have Hac := Lib.hid hac
          clear hac hr
          go_wp2_with fail
          refine HL.out.mono ?_
          rintro e w1 ⟨rfl, rfl⟩
          simp only [ixV]
          go_wp2_with fail
          exact ⟨⟨k + 1, A', n', c', acc, by omega, by go_num, rfl, Lib.hid (by rw [Hsucc.out]; exact Hac.out), HT, HB, HX, by omega⟩, by simp [RowKit.intOf]; omega⟩
        | some j =>
          have hjn : j < n := lastI_lt _ _ _ _ hr.symm
          obtain ⟨b3, off3, z, eA3, hbl3, hz, z0, z1, z2, z3⟩ := (H.out.below HB.out).cell4 (i := j) hjn
          have hzo : (xs.map O2.o)[j]? = some z.o := by rw [List.getElem?_map, hz]; rfl
          have hac : waitS (xs.map O2.o) acc y = if z.o.ended = true then acc else withN acc z.o.num := by
            unfold waitS
            rw [Hlo.out, Option.bind_some, hzo]
          have Hac := Lib.hid hac
          clear hac hr hz hzo
          obtain ⟨⟨zn, zw, zt, ze⟩, ZW, ZT⟩ := z
          simp only at z0 z3 Hac
          have s0 := blk_cell (H.out.below HB.out).st 0
          rw [eA3] at s0
          clear eA3
          clear z1 z2
          cases ze with
          | true =>
            go_wp2_with fail
            refine HL.out.mono ?_
            rintro e w1 ⟨rfl, rfl⟩
            simp only [ixV]
            go_wp2_with fail
            exact ⟨⟨k + 1, A', n', c', acc, by omega, by go_num, rfl, Lib.hid (by rw [Hsucc.out, Hac.out]; exact if_pos trivial), HT, HB, HX, by omega⟩, by simp [RowKit.intOf]; omega⟩
          | false =>
            have Hwi := Lib.hid (r11with_any w.heap.size A' n' c' acc zn wr HT.out HB.out.size (by omega))
            go_wp2_with fail
            refine HL.out.mono ?_
            rintro e w1 ⟨rfl, rfl⟩
            simp only [ixV]
            go_wp2_with fail
            refine Hwi.out.mono ?_
            rintro e w2 ⟨A3, n3, c3, rfl, h1, h2, h3⟩
            have HT3 := Lib.hid h1
            have HB3 : Hid (Below w.heap.size w w2) := Lib.hid (HB.out.trans (h2.mono HB.out.size))
            have HX3 := Lib.hid ((h2.block _ (blk_lt HX.out)).trans HX.out)
            clear h1 h2 h3
            go_wp2_with fail
            refine ⟨⟨k + 1, A3, n3, c3, _, by omega, by go_num, rfl, Lib.hid (by rw [Hsucc.out, Hac.out, if_neg Bool.false_ne_true]), HT3, HB3, HX3, ?_⟩, by simp [RowKit.intOf]; omega⟩
            have h5 := HT3.out.len
            have h6 := withN_len acc zn
            have h7 := HT.out.len
            omega
      · obtain rfl : lenw = k := by omega
        have hF := HF.out
        rw [List.take_of_length_le (by rw [Hwl.out]; exact Nat.le_refl _)] at hF
        have HW : Hid (waitsO (xs.map O2.o) ws = acc) := Lib.hid hF
        have hst := (H.out.below HB.out).st
        have s0 := blk_cell hst 0
        have sf := blk_frozen hst 0
        have hb1 := HB.out.size
        have HTK := Lib.hid (H.out.below (bel_drew HB.out))
        have HWS := Lib.hid (Hws.out.below (bel_drew HB.out))
        have HBw : Hid (Bo ≤ wr.drew.heap.size) := Lib.hid (Nat.le_trans HBo.out (by simpa using hb1))
        have HG : Hid (∀ X, Kept wr.drew X (fun b => ∃ a, A = some a ∧ b = a.block) → X.heap[g]? = some (.cells #[.slice A n c] 114 (0, 0))) := Lib.hid (fun X k => k.blk HTK.out.st (blk_lt HTK.out.st) (fun ⟨a, ea, e⟩ => by
          obtain ⟨cs, hcs⟩ := HTK.out.tk.ty ea
          exact blk_ne2 hcs HTK.out.st (by decide) e.symm))
        clear hF hst
        go_wp2_with fail
        go_region_law (first
          | (refine step_copy (cells := Wr.cells) rfl (.tmp 84) (.tmp 86) 43 rfl 85 i0 _ 3 40 Tryz.underlying43 hi hz0 hz1 hz2 rfl (by decide) (fun _ => rfl) one_wr rfl w.heap.size Aw lenw capw ws rfl HWS.out Hnil.out (by unfold maxLen; omega) (by omega) ?_; intro A5 c5 w5 h1 h2; have HT5 := Lib.hid h1; have HB5 := Lib.hid h2; have xa := blk_cell ((h2.block _ (blk_lt HX.out)).trans HX.out) 0; have xb := blk_cell ((h2.block _ (blk_lt HX.out)).trans HX.out) 1; have sa := blk_cell (HTK.out.below h2).st 0; have gl := blk_lt (HTK.out.below h2).st; clear h1 h2)
          | (refine step_push (cells := O2.cells) rfl (.tmp 81) (.tmp 90) 112 rfl 161 j0 _ 4 64 Tryz.underlying112 hj hy0 hy1 hy2 rfl (by decide) len_O2 one_O2 Bo A n c xs rfl (HTK.out.tk.below (bel_alloc HB5.out _)) (Nat.le_trans HBw.out (Nat.le_trans HB5.out.size (by simp))) ⟨⟨num, ws, acc, false⟩, ⟨A5, lenw, c5⟩, ⟨A', n', c'⟩⟩ ⟨w5.heap.size, 0, none⟩ 1 rfl (cells_new _ _ _) (by simp only [maxLen]; omega) (by omega) ?_; intro A6 c6 w6 h1 h2 h3; have HT6 := Lib.hid h1; have HK6 := Lib.hid h2; have HF6 := Lib.hid h3; have hg6 := HG.out w6 ((Kept.of_below (bel_alloc HB5.out _)).trans h2); have s6 := blk_cell hg6 0; have f6 := blk_frozen hg6 0; clear h1 h2 h3))
        all_goals
          go_wp2_with fail
          go_ret2
          have hs5 := HB5.out.size
          have hR5 := HTK.out.below HB5.out
          have hka : Kept w5 w6 (fun b => b = g ∨ ∃ a, A = some a ∧ b = a.block) := ((Kept.of_below (bel_alloc (Below.refl _ _) _)).trans HK6.out).mono (fun b hb => Or.inr hb)
          have hk7 : Kept w5 (w6.setCell ⟨g, 0, none⟩ (.slice A6 (n + 1) c6)) (fun b => b = g ∨ ∃ a, A = some a ∧ b = a.block) := hka.setCell (p := ⟨g, 0, none⟩) (Or.inl (Or.inl rfl)) _
          have hk6 : Kept w6 (w6.setCell ⟨g, 0, none⟩ (.slice A6 (n + 1) c6)) (fun b => b = g) := (Kept.refl w6 (fun b => b = g)).setCell (p := ⟨g, 0, none⟩) (Or.inl rfl) _
          refine ⟨A6, c6, ⟨⟨num, ws, acc, false⟩, ⟨A5, lenw, c5⟩, ⟨A', n', c'⟩⟩, ?_, ?_, ⟨?_, ?_, ?_⟩, ?_, ?_, ?_⟩
          · rw [HW.out, HT.out.len]; rfl
          · rw [HW.out]
          · exact blk_set hg6 0 _
          · exact HT6.out.kept hk6 (fun a ea e => by
              obtain ⟨cs, hcs⟩ := HT6.out.ty ea
              exact blk_ne2 hcs hg6 (by decide) e)
          · intro x hx
            rcases List.mem_append.1 hx with hx | hx
            · exact ⟨hR5.keepTk (hR5.el x hx).1 (by decide) (by decide) hk7, hR5.keepTk (hR5.el x hx).2 (by decide) (by decide) hk7⟩
            · simp only [List.mem_singleton] at hx
              subst hx
              refine ⟨(hR5.keepTk HT5.out (by decide) (by decide) hk7).more HBw.out, (hR5.keepTk ((HT.out.below (bel_drew (Below.refl _ _))).below HB5.out) (by decide) (by decide) hk7).more HBo.out⟩
          · exact (Kept.of_below (bel_drew HB.out)).trans ((Kept.of_below HB5.out).trans hk7)
          · exact fun a e => (HF6.out a e).imp id (fun h => by simp at h hs5; omega)
          · rintro b (⟨a, ea, rfl⟩ | ⟨a, ea, rfl⟩)
            · have := (HT5.out.lt ea).1
              simp at this; omega
            · exact (HT.out.lt ea).1
  · obtain ⟨q, hq⟩ : ∃ q, n = q + 1 := ⟨n - 1, by omega⟩
    obtain ⟨b, off, z, eA, hbl, hz, z0, z1, z2, z3⟩ := (H.out.below HB1.out).cell4 (i := q) (by omega)
    rw [eA] at s0
    have hzn := Hord.out z (List.mem_of_getElem? hz)
    have hq1 : IntKind.i64.wrap ((n : Int) - 1) = ((q : Nat) : Int) := by rw [IntKind.wrap_i64]; omega
    have d1 : decide ((num : Int) ≤ (z.o.num : Int)) = false := decide_eq_false (by omega)
    have d2 : decide (num ≤ z.o.num) = false := decide_eq_false (by omega)
    have d3 : decide ((0 : Int) < (n : Int)) = true := decide_eq_true (by omega)
    have d4 : decide (0 < n) = true := decide_eq_true (by omega)
    have d5 : (q : Int) < (n : Int) := by omega
    have d6 : q < n := by omega
    clear hst hz z1 z2 z3
    go_wp2_with fail
    go_quiet (fail)
    obtain ⟨W2, hW2⟩ : ∃ W2, W2 = w1.drewN nq := ⟨_, rfl⟩
    have HB2 : Hid (Below w.heap.size w W2) := Lib.hid (hW2 ▸ below_drewN HB1.out _)
    have HX2 : Hid (W2.heap[w.heap.size]? = some (.cells #[.int .i64 num, .slice Aw lenw capw] 45 (0, 0))) := Lib.hid (hW2 ▸ HX1.out)
    try clear hq1 d1 d2 d5 d6 hbl hzn z0
    try clear eA
    try clear hq
    try clear hn0
    clear d3 d4 s0 x0
    go_wp2_with fail
    try rw [← hW2]
    clear hW2
    go_loopw [6, 7] (fun v i wr => ∃ (k : Nat) (A' : Option Addr) (n' c' : Nat) (acc : List Nat), k ≤ lenw ∧ i = .int .i64 k ∧ v = .slice A' n' c' ∧ Hid ((ws.take k).foldl (waitS (xs.map O2.o)) [] = acc) ∧ Hid (TkAt nC 1 3 wr w.heap.size A' n' c' acc) ∧ Hid (Below w.heap.size w wr) ∧ Hid (wr.heap[w.heap.size]? = some (.cells #[.int .i64 num, .slice Aw lenw capw] 45 (0, 0))) ∧ n' ≤ k) (fun _ i _ => lenw - (RowKit.intOf i).toNat)
    case atStart => exact ⟨0, none, 0, 0, [], Nat.zero_le _, rfl, rfl, Lib.hid rfl, Lib.hid (TkAt.nil _ _), HB2, HX2, Nat.le_refl _⟩
    case round =>
      obtain ⟨k, A', n', c', acc, hk, rfl, rfl, HF, HT, HB, HX, hn'⟩ := hrel
      have x0 := blk_cell HX.out 0
      have x1 := blk_cell HX.out 1
      by_cases hlt : k < lenw
      · obtain ⟨b, off, y, rfl, hbl, hy, hyc⟩ := (Hws.out.below HB.out).at_ hlt
        have y0 : wr.cell? ⟨b, off + k * 3, none⟩ = some (.string y.key) := by simpa using hyc 0 _ rfl
        have HL := Lib.hid (r11last_any Bo g A n c xs y.key wr (H.out.below HB.out) (by omega) HWn.out)
        obtain ⟨r, hr⟩ : ∃ r, r = lastI (xs.map O2.o) y.key n := ⟨_, rfl⟩
        rw [← hr] at HL
        have hlo := lastO_eq (xs.map O2.o) y.key
        rw [List.length_map, Hlen.out, ← hr] at hlo
        have hsucc := waits_take_succ (waitS (xs.map O2.o)) [] hy
        rw [HF.out] at hsucc
        have Hsucc := Lib.hid hsucc
        have Hlo := Lib.hid hlo
        clear hy hyc hsucc hlo
        cases r with
        | none =>
          have hm1 : ¬ (0 : Int) ≤ -1 := by omega
          have hac : waitS (xs.map O2.o) acc y = acc := by unfold waitS; rw [Hlo.out]; rfl
          have Hac := Lib.hid hac
          clear hac hr
          go_wp2_with fail
          refine HL.out.mono ?_
          rintro e w1 ⟨rfl, rfl⟩
          simp only [ixV]
          go_wp2_with fail
          exact ⟨⟨k + 1, A', n', c', acc, by omega, by go_num, rfl, Lib.hid (by rw [Hsucc.out]; exact Hac.out), HT, HB, HX, by omega⟩, by simp [RowKit.intOf]; omega⟩
        | some j =>
          have hjn : j < n := lastI_lt _ _ _ _ hr.symm
          obtain ⟨b3, off3, z, eA3, hbl3, hz, z0, z1, z2, z3⟩ := (H.out.below HB.out).cell4 (i := j) hjn
          have hzo : (xs.map O2.o)[j]? = some z.o := by rw [List.getElem?_map, hz]; rfl
          have hac : waitS (xs.map O2.o) acc y = if z.o.ended = true then acc else withN acc z.o.num := by
            unfold waitS
            rw [Hlo.out, Option.bind_some, hzo]
          have Hac := Lib.hid hac
          clear hac hr hz hzo
          obtain ⟨⟨zn, zw, zt, ze⟩, ZW, ZT⟩ := z
          simp only at z0 z3 Hac
          have s0 := blk_cell (H.out.below HB.out).st 0
          rw [eA3] at s0
          clear eA3
          clear z1 z2
          cases ze with
          | true =>
            go_wp2_with fail
            refine HL.out.mono ?_
            rintro e w1 ⟨rfl, rfl⟩
            simp only [ixV]
            go_wp2_with fail
            exact ⟨⟨k + 1, A', n', c', acc, by omega, by go_num, rfl, Lib.hid (by rw [Hsucc.out, Hac.out]; exact if_pos trivial), HT, HB, HX, by omega⟩, by simp [RowKit.intOf]; omega⟩
          | false =>
            have Hwi := Lib.hid (r11with_any w.heap.size A' n' c' acc zn wr HT.out HB.out.size (by omega))
            go_wp2_with fail
            refine HL.out.mono ?_
            rintro e w1 ⟨rfl, rfl⟩
            simp only [ixV]
            go_wp2_with fail
            refine Hwi.out.mono ?_
            rintro e w2 ⟨A3, n3, c3, rfl, h1, h2, h3⟩
            have HT3 := Lib.hid h1
            have HB3 : Hid (Below w.heap.size w w2) := Lib.hid (HB.out.trans (h2.mono HB.out.size))
            have HX3 := Lib.hid ((h2.block _ (blk_lt HX.out)).trans HX.out)
            clear h1 h2 h3
            go_wp2_with fail
            refine ⟨⟨k + 1, A3, n3, c3, _, by omega, by go_num, rfl, Lib.hid (by rw [Hsucc.out, Hac.out, if_neg Bool.false_ne_true]), HT3, HB3, HX3, ?_⟩, by simp [RowKit.intOf]; omega⟩
            have h5 := HT3.out.len
            have h6 := withN_len acc zn
            have h7 := HT.out.len
            omega
      · obtain rfl : lenw = k := by omega
        have hF := HF.out
        rw [List.take_of_length_le (by rw [Hwl.out]; exact Nat.le_refl _)] at hF
        have HW : Hid (waitsO (xs.map O2.o) ws = acc) := Lib.hid hF
        have hst := (H.out.below HB.out).st
        have s0 := blk_cell hst 0
        have sf := blk_frozen hst 0
        have hb1 := HB.out.size
        have HTK := Lib.hid (H.out.below (bel_drew HB.out))
        have HWS := Lib.hid (Hws.out.below (bel_drew HB.out))
        have HBw : Hid (Bo ≤ wr.drew.heap.size) := Lib.hid (Nat.le_trans HBo.out (by simpa using hb1))
        have HG : Hid (∀ X, Kept wr.drew X (fun b => ∃ a, A = some a ∧ b = a.block) → X.heap[g]? = some (.cells #[.slice A n c] 114 (0, 0))) := Lib.hid (fun X k => k.blk HTK.out.st (blk_lt HTK.out.st) (fun ⟨a, ea, e⟩ => by
          obtain ⟨cs, hcs⟩ := HTK.out.tk.ty ea
          exact blk_ne2 hcs HTK.out.st (by decide) e.symm))
        clear hF hst
        go_wp2_with fail
        go_region_law (first
          | (refine step_copy (cells := Wr.cells) rfl (.tmp 84) (.tmp 86) 43 rfl 85 i0 _ 3 40 Tryz.underlying43 hi hz0 hz1 hz2 rfl (by decide) (fun _ => rfl) one_wr rfl w.heap.size Aw lenw capw ws rfl HWS.out Hnil.out (by unfold maxLen; omega) (by omega) ?_; intro A5 c5 w5 h1 h2; have HT5 := Lib.hid h1; have HB5 := Lib.hid h2; have xa := blk_cell ((h2.block _ (blk_lt HX.out)).trans HX.out) 0; have xb := blk_cell ((h2.block _ (blk_lt HX.out)).trans HX.out) 1; have sa := blk_cell (HTK.out.below h2).st 0; have gl := blk_lt (HTK.out.below h2).st; clear h1 h2)
          | (refine step_push (cells := O2.cells) rfl (.tmp 81) (.tmp 90) 112 rfl 161 j0 _ 4 64 Tryz.underlying112 hj hy0 hy1 hy2 rfl (by decide) len_O2 one_O2 Bo A n c xs rfl (HTK.out.tk.below (bel_alloc HB5.out _)) (Nat.le_trans HBw.out (Nat.le_trans HB5.out.size (by simp))) ⟨⟨num, ws, acc, false⟩, ⟨A5, lenw, c5⟩, ⟨A', n', c'⟩⟩ ⟨w5.heap.size, 0, none⟩ 1 rfl (cells_new _ _ _) (by simp only [maxLen]; omega) (by omega) ?_; intro A6 c6 w6 h1 h2 h3; have HT6 := Lib.hid h1; have HK6 := Lib.hid h2; have HF6 := Lib.hid h3; have hg6 := HG.out w6 ((Kept.of_below (bel_alloc HB5.out _)).trans h2); have s6 := blk_cell hg6 0; have f6 := blk_frozen hg6 0; clear h1 h2 h3))
        all_goals
          go_wp2_with fail
          go_ret2
          have hs5 := HB5.out.size
          have hR5 := HTK.out.below HB5.out
          have hka : Kept w5 w6 (fun b => b = g ∨ ∃ a, A = some a ∧ b = a.block) := ((Kept.of_below (bel_alloc (Below.refl _ _) _)).trans HK6.out).mono (fun b hb => Or.inr hb)
          have hk7 : Kept w5 (w6.setCell ⟨g, 0, none⟩ (.slice A6 (n + 1) c6)) (fun b => b = g ∨ ∃ a, A = some a ∧ b = a.block) := hka.setCell (p := ⟨g, 0, none⟩) (Or.inl (Or.inl rfl)) _
          have hk6 : Kept w6 (w6.setCell ⟨g, 0, none⟩ (.slice A6 (n + 1) c6)) (fun b => b = g) := (Kept.refl w6 (fun b => b = g)).setCell (p := ⟨g, 0, none⟩) (Or.inl rfl) _
          refine ⟨A6, c6, ⟨⟨num, ws, acc, false⟩, ⟨A5, lenw, c5⟩, ⟨A', n', c'⟩⟩, ?_, ?_, ⟨?_, ?_, ?_⟩, ?_, ?_, ?_⟩
          · rw [HW.out, HT.out.len]; rfl
          · rw [HW.out]
          · exact blk_set hg6 0 _
          · exact HT6.out.kept hk6 (fun a ea e => by
              obtain ⟨cs, hcs⟩ := HT6.out.ty ea
              exact blk_ne2 hcs hg6 (by decide) e)
          · intro x hx
            rcases List.mem_append.1 hx with hx | hx
            · exact ⟨hR5.keepTk (hR5.el x hx).1 (by decide) (by decide) hk7, hR5.keepTk (hR5.el x hx).2 (by decide) (by decide) hk7⟩
            · simp only [List.mem_singleton] at hx
              subst hx
              refine ⟨(hR5.keepTk HT5.out (by decide) (by decide) hk7).more HBw.out, (hR5.keepTk ((HT.out.below (bel_drew (Below.refl _ _))).below HB5.out) (by decide) (by decide) hk7).more HBo.out⟩
          · exact (Kept.of_below (bel_drew HB.out)).trans ((Kept.of_below HB5.out).trans hk7)
          · exact fun a e => (HF6.out a e).imp id (fun h => by simp at h hs5; omega)
          · rintro b (⟨a, ea, rfl⟩ | ⟨a, ea, rfl⟩)
            · have := (HT5.out.lt ea).1
              simp at this; omega
            · exact (HT.out.lt ea).1
end Go.Proofs.YtcjmppjppmiggaaGreat

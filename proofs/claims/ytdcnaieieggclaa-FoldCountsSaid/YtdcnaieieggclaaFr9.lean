/- FoldReads: the walk of its law. -/
import Derived.Test.YtdcnaieieggclaaFr8
import Derived.Test.YtdcnaieieggclaaFold7
import Derived.Deep.RegionHeld3
namespace Go.Proofs.Ytdcnaieieggclaa
open Go.RowKit
set_option linter.unusedVariables false
set_option linter.unusedSimpArgs false

open Go.Maps
theorem scanErr_congr {rs rs' : List RTx} (h : rs'.map (fun r => (r.number, r.ws)) = rs.map (fun r => (r.number, r.ws))) (i : Int) : scanErr rs' i = scanErr rs i := by
  have hl : rs'.length = rs.length := by simpa using congrArg List.length h
  unfold scanErr argB; rw [logErr_congr h, hl]
theorem allW_congr {rs rs' : List RTx} (h : rs'.map (fun r => (r.number, r.ws)) = rs.map (fun r => (r.number, r.ws))) (n : Nat) : allW rs' n = allW rs n := by
  have h2 : rs'.map RTx.ws = rs.map RTx.ws := by
    have := congrArg (List.map Prod.snd) h
    simpa [List.map_map, Function.comp_def] using this
  unfold allW
  rw [List.flatMap_def, List.flatMap_def, List.map_take, List.map_take, h2]
theorem scanL_congr {rs rs' : List RTx} (h : rs'.map (fun r => (r.number, r.ws)) = rs.map (fun r => (r.number, r.ws))) (i : Int) (key fin : ByteArray) : scanL rs' i key fin = scanL rs i key fin := by
  unfold scanL foldE; rw [scanErr_congr h, allW_congr h]
theorem getErr_congr {rs rs' : List RTx} (h : rs'.map (fun r => (r.number, r.ws)) = rs.map (fun r => (r.number, r.ws))) (i : Int) (k : ByteArray) : getErr rs' i k = getErr rs i k := by
  unfold getErr; rw [scanErr_congr h]
theorem getV_congr {rs rs' : List RTx} (h : rs'.map (fun r => (r.number, r.ws)) = rs.map (fun r => (r.number, r.ws))) (i : Int) (k : ByteArray) : getV rs' i k = getV rs i k := by
  unfold getV foldM; rw [getErr_congr h, allW_congr h]
theorem lastN_congr {rs rs' : List RTx} (h : rs'.map (fun r => (r.number, r.ws)) = rs.map (fun r => (r.number, r.ws))) (k : ByteArray) : ∀ n, lastN rs' k n = lastN rs k n
  | 0 => rfl
  | n + 1 => by rw [lastN, lastN, wsOf_congr h, lastN_congr h k n]
theorem writerErr_congr {rs rs' : List RTx} (h : rs'.map (fun r => (r.number, r.ws)) = rs.map (fun r => (r.number, r.ws))) (i : Int) (k : ByteArray) : writerErr rs' i k = writerErr rs i k := by
  have hl : rs'.length = rs.length := by simpa using congrArg List.length h
  unfold writerErr; rw [logErr_congr h, hl]
theorem writerN_congr {rs rs' : List RTx} (h : rs'.map (fun r => (r.number, r.ws)) = rs.map (fun r => (r.number, r.ws))) (i : Int) (k : ByteArray) : writerN rs' i k = writerN rs i k := by
  unfold writerN; rw [writerErr_congr h, lastN_congr h]
def TrueB (w : World) (e : Ending) (w' : World) : Prop := e = .returned (.bool true) ∧ Below w.heap.size w w'
set_option maxHeartbeats 4000000 in
set_option maxRecDepth 100000 in
theorem lawreads_any (A : Option Addr) (len cap : Nat) (rs : List RTx) (a b : Int) (key fin : ByteArray) (w : World) (hw : TxsAt w w.heap.size A len rs) (hl : len * 32 ≤ 140737488351232) (hc : len ≤ cap)
    (hs : ∀ r ∈ rs, ∀ x ∈ r.ws, x.key.size ≤ 140737488351232 ∧ x.val.size ≤ 140737488351232) (hk1 : key.size ≤ 140737488351232) (hk2 : fin.size ≤ 140737488351232) :
    Calls Try.prog 6 #[.slice A len cap, .agg #[.int .i64 a, .int .i64 b, .string key, .string fin]] w (TrueB w) := by
  have hlen := Lib.hid hw.1.len
  obtain ⟨W1, hW1⟩ : ∃ W1 : World, W1 = w.alloc (.cells #[.int .i64 a, .int .i64 b, .string key, .string fin] 49) := ⟨_, rfl⟩
  have hz : W1.heap.size = w.heap.size + 1 := by rw [hW1]; simp
  have hB : Below w.heap.size w W1 := by rw [hW1]; exact (Below.refl _ _).alloc (Nat.le_refl _) _
  have hKw : ∀ X : World, Below W1.heap.size W1 X → X.cell? ⟨w.heap.size, 0, none⟩ = some (.int .i64 a) ∧ X.cell? ⟨w.heap.size, 1, none⟩ = some (.int .i64 b) ∧ X.cell? ⟨w.heap.size, 2, none⟩ = some (.string key) ∧ X.cell? ⟨w.heap.size, 3, none⟩ = some (.string fin) := fun X h =>
    have hh : w.heap.size < W1.heap.size := by omega
    ⟨(h.cell (p := ⟨w.heap.size, 0, none⟩) hh).trans (by rw [hW1]; simp [go_sem]), (h.cell (p := ⟨w.heap.size, 1, none⟩) hh).trans (by rw [hW1]; simp [go_sem]), (h.cell (p := ⟨w.heap.size, 2, none⟩) hh).trans (by rw [hW1]; simp [go_sem]), (h.cell (p := ⟨w.heap.size, 3, none⟩) hh).trans (by rw [hW1]; simp [go_sem])⟩
  have HKw := Lib.hid hKw
  have hwW := (hw.below hB).more hB.size
  have hwWd : TxsAt W1.drew W1.drew.heap.size A len rs := hwW
  have HwWd := Lib.hid hwWd
  have Hk23 := Lib.hid (fun (X : World) (h : Below W1.heap.size W1 X) => (hKw X h).2.2)
  have Hz := Lib.hid hz
  have HB := Lib.hid hB
  have Hs := Lib.hid hs
  obtain ⟨k0, k1, k2, k3⟩ := hKw W1 (Below.refl _ _)
  clear hz hB hKw hwWd hs
  go_enter Try.func6, Try.ntmps6
  go_wp2_with fail
  rw [← hW1]
  have HW1 := Lib.hid hW1
  clear hW1
  go_region_held3 (fun w' => w'.cell? ⟨w.heap.size, 2, none⟩ = some (.string key) ∧ w'.cell? ⟨w.heap.size, 3, none⟩ = some (.string fin))
    (first | (refine Hk23.out _ ?_; (first | exact bel_drew (Below.refl _ _) | exact Hb1.out | exact bel_alloc Hb1.out _ | exact Hb2.out)))
    (first
      | (go_at_call 13; refine (txsize_any A len cap rs _ HwWd.out (by omega) Hs.out).mono ?_; rintro e w1 ⟨q, rfl, q0, q1, hb1⟩; have hbx : Below W1.heap.size W1 w1 := (Below.refl _ _).drew.trans hb1; have hs1 := hbx.size; obtain ⟨g0, g1, g2, g3⟩ := HKw.out _ hbx; have Hb1 := Lib.hid hbx; clear hb1 hbx)
      | (go_at_call 12; refine (beyond_any (some ⟨w1.heap.size, 0, none⟩) 3 3 [q, (key.size : Int), (fin.size : Int)] _ (by exact rowAt_block [q, (key.size : Int), (fin.size : Int)] (len_int _) (blk_new _ _) (by simp) (fun j u hu => by simpa [Icell] using hu)) (by omega) (fun x hx => by simp at hx; omega)).mono ?_; rintro e w2 ⟨bb, rfl, hb2⟩; have hbx2 : Below W1.heap.size W1 w2 := (bel_alloc Hb1.out _).trans (hb2.mono (by simp; omega)); obtain ⟨e0, e1, e2, e3⟩ := HKw.out _ hbx2; have Hb2 := Lib.hid hbx2; clear hb2 hbx2))
  have hs2 := Hb2.out.size
  have hw2 : TxsAt w2 w2.heap.size A len rs := (hw.below (HB.out.trans (Hb2.out.mono (by have := Hz.out; omega)))).more (by have := Hz.out; omega)
  cases bb
  case true =>
    clear hw2
    go_wp2_with fail
    go_ret
    exact ⟨rfl, HB.out.trans (Hb2.out.mono (by have := Hz.out; omega))⟩
  case false =>
    go_wp2_with fail
    refine (twins_any A len cap rs _ hw2 hl).mono ?_
    rintro e w3 ⟨rs', hl', rfl, hblk, htw, hb3⟩
    have hs3 := hb3.size
    have htx3 := txs_of_twin hl' hlen.out hblk htw (fun r hr => (hw.2 r hr).2)
    have hsame := tw_same htw (by rw [hl', hlen.out])
    have hlt3 : w2.heap.size < w3.heap.size := blk_lt hblk
    have h13 : Below W1.heap.size W1 w3 := Hb2.out.trans (hb3.mono hs2)
    have h03 : Below w.heap.size w w3 := HB.out.trans (h13.mono (by have := Hz.out; omega))
    have hT : ∀ X : World, Below w3.heap.size w3 X → TxsAt X X.heap.size (some ⟨w2.heap.size, 0, none⟩) len rs' ∧ TxsAt X X.heap.size A len rs ∧ X.cell? ⟨w.heap.size, 0, none⟩ = some (.int .i64 a) ∧ X.cell? ⟨w.heap.size, 1, none⟩ = some (.int .i64 b) ∧ X.cell? ⟨w.heap.size, 2, none⟩ = some (.string key) ∧ X.cell? ⟨w.heap.size, 3, none⟩ = some (.string fin) ∧ w3.heap.size ≤ X.heap.size := fun X h => by
      have h1 : Below W1.heap.size W1 X := h13.trans (h.mono (by have := h13.size; omega))
      have h0 : Below w.heap.size w X := h03.trans (h.mono h03.size)
      obtain ⟨c0, c1, c2, c3⟩ := HKw.out X h1
      exact ⟨(htx3.below h).more h.size, (hw.below h0).more h0.size, c0, c1, c2, c3, h.size⟩
    have hL : ∀ X : World, Below w3.heap.size w3 X → X.heap[w2.heap.size]? = some (.cells ((rs' ++ [spT]).flatMap RTx.cells).toArray 37 (0, 0)) ∧ TwAll X w2.heap.size rs rs' ∧ Below w.heap.size w X := fun X h =>
      ⟨(h.block _ hlt3).trans hblk, htw.keep h.size (fun q _ hq => h.block q hq), h03.trans (h.mono h03.size)⟩
    have hg1 : getV rs' a key = getV rs a key := getV_congr hsame a key
    have hg2 : getErr rs' a key = getErr rs a key := getErr_congr hsame a key
    have hg3 : scanErr rs' a = scanErr rs a := scanErr_congr hsame a
    have hg4 : scanL rs' a key fin = scanL rs a key fin := scanL_congr hsame a key fin
    have hg5 : writerN rs' b key = writerN rs b key := writerN_congr hsame b key
    have hg6 : writerErr rs' b key = writerErr rs b key := writerErr_congr hsame b key
    have hsl : (scanL rs a key fin).length ≤ 2097152 := by
      unfold scanL; split
      · rename_i h
        have h3 := scanErr_zero h
        exact Nat.le_trans (List.length_filter_le _ _) (len_foldE_le h3.1 (by omega))
      · simp
    have hcg1 : ∀ X : World, TxsAt X X.heap.size (some ⟨w2.heap.size, 0, none⟩) len rs' → Calls Try.prog 23 #[.slice (some ⟨w2.heap.size, 0, none⟩) len (len + 1), .int .i64 a, .string key] X (GetPost X rs a key) := fun X h => by
      unfold GetPost; rw [← hg1, ← hg2]; exact fget_any _ len (len + 1) rs' a key X h (by omega) (by omega)
    have hcg2 : ∀ X : World, TxsAt X X.heap.size (some ⟨w2.heap.size, 0, none⟩) len rs' → Calls Try.prog 25 #[.slice (some ⟨w2.heap.size, 0, none⟩) len (len + 1), .int .i64 a, .string key, .string fin] X (ScanPost X rs a key fin) := fun X h => by
      unfold ScanPost; rw [← hg3, ← hg4]; exact fscan_any _ len (len + 1) rs' a key fin X h (by omega) (by omega)
    have hcg3 : ∀ X : World, TxsAt X X.heap.size (some ⟨w2.heap.size, 0, none⟩) len rs' → Calls Try.prog 27 #[.slice (some ⟨w2.heap.size, 0, none⟩) len (len + 1), .int .i64 b, .string key] X (WriterPost X rs b key) := fun X h => by
      unfold WriterPost; rw [← hg5, ← hg6]; exact fwriter_any _ len (len + 1) rs' b key X h (by omega)
    have hcr1 : ∀ X : World, TxsAt X X.heap.size A len rs → Calls Try.prog 24 #[.slice A len cap, .int .i64 a, .string key] X (GetPost X rs a key) := fun X h => rget_any A len cap rs a key X h (by omega)
    have hcr2 : ∀ X : World, TxsAt X X.heap.size A len rs → Calls Try.prog 26 #[.slice A len cap, .int .i64 a, .string key, .string fin] X (ScanPost X rs a key fin) := fun X h => rscan_any A len cap rs a key fin X h (by omega)
    have hcr3 : ∀ X : World, TxsAt X X.heap.size A len rs → Calls Try.prog 28 #[.slice A len cap, .int .i64 b, .string key] X (WriterPost X rs b key) := fun X h => rwriter_any A len cap rs b key X h (by omega)
    unfold GetPost at hcg1 hcr1
    unfold ScanPost at hcg2 hcr2
    unfold WriterPost at hcg3 hcr3
    generalize (getV rs a key).getD ⟨#[]⟩ = gs at hcg1 hcr1
    generalize (getV rs a key).isSome = gb at hcg1 hcr1
    generalize getErr rs a key = ge at hcg1 hcr1
    generalize scanErr rs a = se at hcg2 hcr2
    generalize scanL rs a key fin = sl at hcg2 hcr2 hsl
    generalize writerN rs b key = wn at hcg3 hcr3
    generalize writerErr rs b key = we at hcg3 hcr3
    have HT := Lib.hid hT
    have HL := Lib.hid hL
    have G1 := Lib.hid hcg1
    have G2 := Lib.hid hcg2
    have G3 := Lib.hid hcg3
    have R1 := Lib.hid hcr1
    have R2 := Lib.hid hcr2
    have R3 := Lib.hid hcr3
    have Hl' := Lib.hid hl'
    obtain ⟨t3, u3, c0, c1, c2, c3, -⟩ := hT w3 (Below.refl _ _)
    clear hT hL hcg1 hcg2 hcg3 hcr1 hcr2 hcr3 hl' hblk htw hsame h13 h03 hg1 hg2 hg3 hg4 hg5 hg6 hb3 htx3 k0 k1 k2 k3 hw2
    go_wp2_with fail
    refine (G1.out _ t3).mono ?_
    rintro e w4 ⟨rfl, hb4⟩
    obtain ⟨t4, u4, d0, d1, d2, d3, hs4⟩ := HT.out _ hb4
    have Hb4 := Lib.hid hb4
    clear hb4 t3 u3 c0 c1 c2 c3
    go_wp2_with fail
    refine (R1.out _ u4).mono ?_
    rintro e w5 ⟨rfl, hb5⟩
    have hb35 := Hb4.out.trans (hb5.mono hs4)
    obtain ⟨t5, u5, c0, c1, c2, c3, hs5⟩ := HT.out _ hb35
    have Hb5 := Lib.hid hb35
    clear hb5 hb35 t4 u4 d0 d1 d2 d3
    go_wp2_with fail
    refine (G2.out _ t5).mono ?_
    rintro e w6 ⟨v1, rfl, ho1, hb6⟩
    obtain ⟨Ao, co, rfl, hrow1, -, -⟩ := ho1.row
    have hb36 := Hb5.out.trans (hb6.mono hs5)
    obtain ⟨t6, u6, d0, d1, d2, d3, hs6⟩ := HT.out _ hb36
    have Hb6 := Lib.hid hb36
    clear hb6 hb36 t5 u5 c0 c1 c2 c3 ho1
    go_wp2_with fail
    refine (R2.out _ u6).mono ?_
    rintro e w7 ⟨v2, rfl, ho2, hb7⟩
    obtain ⟨Ar, cr, rfl, hrow2, -, -⟩ := ho2.row
    have hrow1 := (hrow1.below hb7).more hb7.size
    have hb37 := Hb6.out.trans (hb7.mono hs6)
    obtain ⟨t7, u7, c0, c1, c2, c3, hs7⟩ := HT.out _ hb37
    have Hb7 := Lib.hid hb37
    clear hb7 hb37 t6 u6 d0 d1 d2 d3 ho2
    go_wp2_with fail
    refine (G3.out _ t7).mono ?_
    rintro e w8 ⟨rfl, hb8⟩
    have hrow1 := (hrow1.below hb8).more hb8.size
    have hrow2 := (hrow2.below hb8).more hb8.size
    have hb38 := Hb7.out.trans (hb8.mono hs7)
    obtain ⟨t8, u8, d0, d1, d2, d3, hs8⟩ := HT.out _ hb38
    have Hb8 := Lib.hid hb38
    clear hb8 hb38 t7 u7 c0 c1 c2 c3
    go_wp2_with fail
    refine (R3.out _ u8).mono ?_
    rintro e w9 ⟨rfl, hb9⟩
    have hrow1 := (hrow1.below hb9).more hb9.size
    have hrow2 := (hrow2.below hb9).more hb9.size
    have hb39 := Hb8.out.trans (hb9.mono hs8)
    obtain ⟨t9, u9, -, -, -, -, hs9⟩ := HT.out _ hb39
    have Hb9 := Lib.hid hb39
    clear hb9 hb39 t8 u8 d0 d1 d2 d3
    go_wp2_with fail
    refine (sameE_any Ao _ co Ar cr sl _ hrow1 hrow2 (by omega)).mono ?_
    rintro e w10 ⟨rfl, hb10⟩
    have hb310 := Hb9.out.trans (hb10.mono hs9)
    obtain ⟨t10, u10, -, -, -, -, hs10⟩ := HT.out _ hb310
    obtain ⟨l1, l2, l3⟩ := HL.out _ hb310
    have L1 := Lib.hid l1
    have L2 := Lib.hid l2
    have L3 := Lib.hid l3
    clear hb10 hb310 t9 u9 hrow1 hrow2 l1 l2 l3
    go_wp2_with fail
    refine (lefts_any w2.heap.size A len cap rs rs' _ Hl'.out L1.out L2.out u10 hl).mono ?_
    rintro e w11 ⟨rfl, hb11⟩
    have Hb11 := Lib.hid (L3.out.trans (hb11.mono L3.out.size))
    clear hb11 t10 u10
    go_wp2_with fail
    go_ret
    exact ⟨rfl, Hb11.out⟩
end Go.Proofs.Ytdcnaieieggclaa

/- Helpers of the statements of layer 7: a log of their own, last writes, whether a log may be. -/
import Derived.Test.YtdcnaieieggclaaFr9
namespace Go.Proofs.Ytdcnaieieggclaa
open Go.RowKit
set_option linter.unusedVariables false
set_option linter.unusedSimpArgs false

open Go.Maps
def wr_ (k v : ByteArray) (d : Bool) : Wr := ⟨k, v, d⟩
def logR : List RTx := [⟨1, none, 0, 0, [⟨⟨#[97]⟩, ⟨#[49]⟩, false⟩]⟩, ⟨2, none, 0, 0, [⟨⟨#[98]⟩, ⟨#[50]⟩, false⟩]⟩, ⟨3, none, 0, 0, [⟨⟨#[97]⟩, ⟨#[51]⟩, false⟩, ⟨⟨#[98]⟩, ⟨#[]⟩, true⟩]⟩]
theorem alloc4 (w : World) (o p q r : Obj) : ((((w.alloc o).alloc p).alloc q).alloc r).heap[w.heap.size]? = some o ∧ ((((w.alloc o).alloc p).alloc q).alloc r).heap[w.heap.size + 1]? = some p ∧ ((((w.alloc o).alloc p).alloc q).alloc r).heap[w.heap.size + 2]? = some q ∧ ((((w.alloc o).alloc p).alloc q).alloc r).heap[w.heap.size + 3]? = some r := by
  have h1 : (w.alloc o).heap.size = w.heap.size + 1 := by simp
  have h2 : ((w.alloc o).alloc p).heap.size = w.heap.size + 2 := by simp
  have h3 : (((w.alloc o).alloc p).alloc q).heap.size = w.heap.size + 3 := by simp
  refine ⟨?_, ?_, ?_, ?_⟩
  · rw [Below.heap_alloc _ _ _ (by omega), Below.heap_alloc _ _ _ (by omega), Below.heap_alloc _ _ _ (by omega)]; exact blk_new _ _
  · rw [Below.heap_alloc _ _ _ (by omega), Below.heap_alloc _ _ _ (by omega), ← h1]; exact blk_new _ _
  · rw [Below.heap_alloc _ _ _ (by omega), ← h2]; exact blk_new _ _
  · rw [← h3]; exact blk_new _ _
theorem row_blk {α : Type} {cells : α → List Value} {size : Nat} {w : World} {b B : Nat} {t : TypeId} {fr : Nat × Nat} (xs : List α) (hs : ∀ x ∈ xs, (cells x).length = size) (hb : b < B)
    (h : w.heap[b]? = some (.cells (xs.flatMap cells).toArray t fr)) : RowAt cells size w B (some ⟨b, 0, none⟩) xs.length xs := rowAt_block xs hs h hb (fun j u hu => by simpa using hu)
def LogPost (w : World) (e : Ending) (w' : World) : Prop := ∃ A rs, e = .returned (.slice A 3 3) ∧ TxsAt w' w'.heap.size A 3 rs ∧ rs.map (fun r => (r.number, r.ws)) = logR.map (fun r => (r.number, r.ws)) ∧ Below w.heap.size w w'
set_option maxHeartbeats 1000000 in
theorem log_any (w : World) : Calls Try.prog 48 #[] w (LogPost w) := by
  go_enter Try.func48, Try.ntmps48
  go_wp2_with fail
  go_ret
  refine ⟨_, [⟨1, some ⟨w.heap.size, 0, none⟩, 1, 1, [⟨⟨#[97]⟩, ⟨#[49]⟩, false⟩]⟩, ⟨2, some ⟨w.heap.size + 1, 0, none⟩, 1, 1, [⟨⟨#[98]⟩, ⟨#[50]⟩, false⟩]⟩, ⟨3, some ⟨w.heap.size + 2, 0, none⟩, 2, 2, [⟨⟨#[97]⟩, ⟨#[51]⟩, false⟩, ⟨⟨#[98]⟩, ⟨#[]⟩, true⟩]⟩], rfl, ⟨?_, ?_⟩, rfl, ?_⟩
  · refine row_blk (t := 37) (fr := (0, 0)) (b := w.heap.size + 3) [_, _, _] (len_tx _) (by simp) ?_
    exact (alloc4 _ _ _ _ _).2.2.2
  · intro r hr
    simp only [List.mem_cons, List.not_mem_nil, or_false] at hr
    rcases hr with rfl | rfl | rfl
    · refine ⟨row_blk (t := 39) (fr := (0, 0)) [_] (len_wr _) (by simp; omega) ?_, by simp⟩
      exact (alloc4 _ _ _ _ _).1
    · refine ⟨row_blk (t := 39) (fr := (0, 0)) [_] (len_wr _) (by simp) ?_, by simp⟩
      exact (alloc4 _ _ _ _ _).2.1
    · refine ⟨row_blk (t := 39) (fr := (0, 0)) [_, _] (len_wr _) (by simp) ?_, by simp⟩
      exact (alloc4 _ _ _ _ _).2.2.1
  · exact bel_alloc (bel_alloc (bel_alloc (bel_alloc (Below.refl _ _) _) _) _) _
theorem ans_log {rs : List RTx} (h : rs.map (fun r => (r.number, r.ws)) = logR.map (fun r => (r.number, r.ws))) :
    (scanErr rs 2 = 0 ∧ scanErr rs 3 = 0 ∧ scanErr rs 4 = 1) ∧ (scanL rs 2 ⟨#[]⟩ ⟨#[]⟩ = [⟨⟨#[97]⟩, ⟨#[49]⟩⟩, ⟨⟨#[98]⟩, ⟨#[50]⟩⟩] ∧ scanL rs 3 ⟨#[]⟩ ⟨#[]⟩ = [⟨⟨#[97]⟩, ⟨#[51]⟩⟩]) ∧ chainAns rs 1 2 = (false, 0) ∧ chainAns rs 1 3 = (true, 0) := by
  refine ⟨⟨?_, ?_, ?_⟩, ⟨?_, ?_⟩, ?_, ?_⟩
  · rw [scanErr_congr h]; decide +kernel
  · rw [scanErr_congr h]; decide +kernel
  · rw [scanErr_congr h]; decide +kernel
  · rw [scanL_congr h]; kernel_rfl
  · rw [scanL_congr h]; kernel_rfl
  · rw [chainAns_congr h]; decide +kernel
  · rw [chainAns_congr h]; decide +kernel
def AlivePost (w : World) (e : Ending) (w' : World) : Prop := e = .returned (.bool true) ∧ Below w.heap.size w w'
set_option maxHeartbeats 4000000 in
set_option maxRecDepth 100000 in
theorem alive_any (w : World) : Calls Try.prog 18 #[] w (AlivePost w) := by
  go_enter Try.func18, Try.ntmps18
  go_wp2_with fail
  refine (log_any _).mono ?_
  rintro e w1 ⟨A1, rs1, rfl, ht1, hm1, hb1⟩
  have hs1 := hb1.size
  obtain ⟨⟨h12, h13, h14⟩, ⟨l12, l13⟩, c12, c13⟩ := ans_log hm1
  have hc1 := fstore_any A1 3 3 rs1 2 w1 ht1 (by omega) (by omega)
  unfold ScanPost at hc1
  rw [h12, l12] at hc1
  have Hc1 := Lib.hid hc1
  have Hb1 := Lib.hid hb1
  clear ht1 hm1 hb1 h12 h13 h14 l12 l13 c12 c13 hc1
  go_wp2_with fail
  refine Hc1.out.mono ?_
  rintro e w2 ⟨v2, rfl, ho2, hb2⟩
  obtain ⟨A2, co2, rfl, hrow2, -, -⟩ := ho2.row
  have hs2 := hb2.size
  have Hb2 := Lib.hid (Hb1.out.trans (hb2.mono hs1))
  clear hb2 ho2 Hc1
  go_wp2_with fail
  refine (log_any _).mono ?_
  rintro e w3 ⟨A3, rs3, rfl, ht3, hm3, hb3⟩
  have hs3 := hb3.size
  have hrow2 := (hrow2.below hb3).more hs3
  obtain ⟨⟨h12, h13, h14⟩, ⟨l12, l13⟩, c12, c13⟩ := ans_log hm3
  have hc1 := fstore_any A3 3 3 rs3 3 w3 ht3 (by omega) (by omega)
  unfold ScanPost at hc1
  rw [h13, l13] at hc1
  have Hc1 := Lib.hid hc1
  have Hb3 := Lib.hid (Hb2.out.trans (hb3.mono (by omega)))
  clear ht3 hm3 hb3 h12 h13 h14 l12 l13 c12 c13 hc1
  go_wp2_with fail
  refine Hc1.out.mono ?_
  rintro e w4 ⟨v4, rfl, ho4, hb4⟩
  obtain ⟨A4, co4, rfl, hrow4, -, -⟩ := ho4.row
  have hs4 := hb4.size
  have hrow2 := (hrow2.below hb4).more hs4
  have Hb4 := Lib.hid (Hb3.out.trans (hb4.mono (by omega)))
  clear hb4 ho4 Hc1
  go_wp2_with fail
  refine (log_any _).mono ?_
  rintro e w5 ⟨A5, rs5, rfl, ht5, hm5, hb5⟩
  have hs5 := hb5.size
  have hrow2 := (hrow2.below hb5).more hs5
  have hrow4 := (hrow4.below hb5).more hs5
  obtain ⟨⟨h12, h13, h14⟩, ⟨l12, l13⟩, c12, c13⟩ := ans_log hm5
  have hc1 := chained_any A5 3 3 rs5 1 2 w5 ht5 (by omega)
  rw [c12] at hc1
  have Hc1 := Lib.hid hc1
  have Hb5 := Lib.hid (Hb4.out.trans (hb5.mono (by omega)))
  clear ht5 hm5 hb5 h12 h13 h14 l12 l13 c12 c13 hc1
  go_wp2_with fail
  refine Hc1.out.mono ?_
  rintro e w6 ⟨rfl, hb6⟩
  have hs6 := hb6.size
  have hrow2 := (hrow2.below hb6).more hs6
  have hrow4 := (hrow4.below hb6).more hs6
  have Hb6 := Lib.hid (Hb5.out.trans (hb6.mono (by omega)))
  clear hb6 Hc1
  go_wp2_with fail
  refine (log_any _).mono ?_
  rintro e w7 ⟨A7, rs7, rfl, ht7, hm7, hb7⟩
  have hs7 := hb7.size
  have hrow2 := (hrow2.below hb7).more hs7
  have hrow4 := (hrow4.below hb7).more hs7
  obtain ⟨⟨h12, h13, h14⟩, ⟨l12, l13⟩, c12, c13⟩ := ans_log hm7
  have hc1 := chained_any A7 3 3 rs7 1 3 w7 ht7 (by omega)
  rw [c13] at hc1
  have Hc1 := Lib.hid hc1
  have Hb7 := Lib.hid (Hb6.out.trans (hb7.mono (by omega)))
  clear ht7 hm7 hb7 h12 h13 h14 l12 l13 c12 c13 hc1
  go_wp2_with fail
  refine Hc1.out.mono ?_
  rintro e w8 ⟨rfl, hb8⟩
  have hs8 := hb8.size
  have hrow2 := (hrow2.below hb8).more hs8
  have hrow4 := (hrow4.below hb8).more hs8
  have Hb8 := Lib.hid (Hb7.out.trans (hb8.mono (by omega)))
  clear hb8 Hc1
  go_wp2_with fail
  refine (log_any _).mono ?_
  rintro e w9 ⟨A9, rs9, rfl, ht9, hm9, hb9⟩
  have hs9 := hb9.size
  have hrow2 := (hrow2.below hb9).more hs9
  have hrow4 := (hrow4.below hb9).more hs9
  obtain ⟨⟨h12, h13, h14⟩, ⟨l12, l13⟩, c12, c13⟩ := ans_log hm9
  have hc1 := fstore_any A9 3 3 rs9 4 w9 ht9 (by omega) (by omega)
  unfold ScanPost at hc1
  rw [h14] at hc1
  have Hc1 := Lib.hid hc1
  have Hb9 := Lib.hid (Hb8.out.trans (hb9.mono (by omega)))
  clear ht9 hm9 hb9 h12 h13 h14 l12 l13 c12 c13 hc1
  go_wp2_with fail
  refine Hc1.out.mono ?_
  rintro e w10 ⟨v10, rfl, ho10, hb10⟩
  have hs10 := hb10.size
  have hrow2 := (hrow2.below hb10).more hs10
  have hrow4 := (hrow4.below hb10).more hs10
  have Hb10 := Lib.hid (Hb9.out.trans (hb10.mono (by omega)))
  clear hb10 Hc1 ho10
  have hx2 : ∀ o, EntsAt (w10.alloc o) (w10.alloc o).heap.size A2 2 [⟨⟨#[97]⟩, ⟨#[49]⟩⟩, ⟨⟨#[98]⟩, ⟨#[50]⟩⟩] := fun o => (hrow2.below (bel_alloc (Below.refl _ _) o)).more (by simp)
  have Hx2 := Lib.hid hx2
  clear hx2 hrow2
  go_wp2_with fail
  refine (sameE_any A2 2 co2 (some ⟨w10.heap.size, 0, none⟩) 2 [⟨⟨#[97]⟩, ⟨#[49]⟩⟩, ⟨⟨#[98]⟩, ⟨#[50]⟩⟩] _ (Hx2.out _) (row_blk (t := 57) (fr := (0, 0)) [_, _] (len_ent _) (by simp) (blk_new _ _)) (by omega)).mono ?_
  rintro e w11 ⟨rfl, hb11⟩
  have hb10' := (bel_alloc (Below.refl w10.heap.size w10) _).trans (hb11.mono (by simp))
  have hs11 := hb10'.size
  have hrow4 := (hrow4.below hb10').more hs11
  have hx4 : ∀ o, EntsAt (w11.alloc o) (w11.alloc o).heap.size A4 1 [⟨⟨#[97]⟩, ⟨#[51]⟩⟩] := fun o => (hrow4.below (bel_alloc (Below.refl _ _) o)).more (by simp)
  have Hx4 := Lib.hid hx4
  have Hb11 := Lib.hid (Hb10.out.trans (hb10'.mono (by omega)))
  clear hx4 hrow4 hb11 hb10'
  go_wp2_with fail
  refine (sameE_any A4 1 co4 (some ⟨w11.heap.size, 0, none⟩) 1 [⟨⟨#[97]⟩, ⟨#[51]⟩⟩] _ (Hx4.out _) (row_blk (t := 57) (fr := (0, 0)) [_] (len_ent _) (by simp) (blk_new _ _)) (by omega)).mono ?_
  rintro e w12 ⟨rfl, hb12⟩
  have Hb12 := Lib.hid (Hb11.out.trans (((bel_alloc (Below.refl w11.heap.size w11) _).trans (hb12.mono (by simp))).mono (by omega)))
  clear hb12
  go_wp2_with fail
  go_ret
  exact ⟨rfl, Hb12.out⟩
set_option maxHeartbeats 1000000 in
theorem may_any (A : Option Addr) (len cap : Nat) (rs : List RTx) (w : World) (hw : TxsAt w w.heap.size A len rs) (hl : len ≤ 4398046511104) :
    Calls Try.prog 19 #[.slice A len cap] w fun e w' => e = .returned (.bool (decide (logErr rs 1 = 0))) ∧ Below w.heap.size w w' := by
  have hlen := Lib.hid hw.1.len
  have hfin : ∀ (x : Bool) (w' : World), decide (logErr rs 1 = 0) = x → Below w.heap.size w w' → (Ending.returned (.bool x) = .returned (.bool (decide (logErr rs 1 = 0))) ∧ Below w.heap.size w w') := fun x w' h h' => ⟨by rw [h], h'⟩
  have Hf := Lib.hid hfin
  clear hfin
  go_enter Try.func19, Try.ntmps19
  go_wp2_with fail
  go_loopw [3] (fun i wr => ∃ k : Nat, k ≤ len ∧ i = .int .i64 k ∧ Hid (logErr rs 1 = logErr (rs.drop k) ((k : Int) + 1)) ∧ Below w.heap.size w wr) (fun i _ => len - (RowKit.intOf i).toNat)
  case atStart => exact ⟨0, Nat.zero_le _, rfl, Lib.hid rfl, Below.refl _ _⟩
  case round =>
    obtain ⟨k, hk, rfl, Herr, hb⟩ := hrel
    have hr := hw.below hb
    have Hb := Lib.hid hb
    have hs := hb.size
    clear hb
    by_cases hlt : k < len
    · obtain ⟨b, off, r, rfl, hbl, hx, x0, x1, hws, hrl⟩ := hr.cell2 hlt
      have Hx := Lib.hid hx
      have hws2 := hws.more hs
      clear hx
      go_wp2_with fail
      refine (check_any r.number r.A r.len r.cap r.ws _ hws2 (by omega)).mono ?_
      rintro e w1 ⟨rfl, hb1⟩
      have y0 := (hb1.cell (p := ⟨b, off + k * 2, none⟩) (by show b < _; omega)).trans x0
      have Hb1 := Lib.hid (Hb.out.trans (hb1.mono hs))
      clear hb1 hws2 hr hws
      cases ht : txB r.number r.ws
      · have Ht := Lib.hid ht
        clear ht
        rw [show errOf false = 1 from rfl]
        go_wp2_with fail
        go_ret
        refine Hf.out _ _ ?_ Hb1.out
        rw [Herr.out, (logErr_drop Hx.out).2 (by simp [turnN, Ht.out])]; simp [turnN, Ht.out]
      · have Ht := Lib.hid ht
        clear ht
        rw [show errOf true = 0 from rfl]
        by_cases hn : r.number = (k : Int) + 1
        · have h0 : turnN r.number r.ws ((k : Int) + 1) = 0 := by unfold turnN; rw [if_pos Ht.out, if_pos hn]
          have h1 := (logErr_drop Hx.out).1 h0
          have H1 := Lib.hid h1
          have hnb : (r.number != (k : Int) + 1) = false := by simp [hn]
          clear hn h0 h1
          go_wp2_with fail
          exact ⟨⟨k + 1, by omega, by go_num, Lib.hid (by rw [Herr.out, H1.out]; simp), Hb1.out⟩, by simp [RowKit.intOf]; omega⟩
        · have h0 : turnN r.number r.ws ((k : Int) + 1) = 6 := by unfold turnN; rw [if_pos Ht.out, if_neg hn]
          have h1 := (logErr_drop Hx.out).2 (by rw [h0]; decide)
          rw [h0] at h1
          have H1 := Lib.hid h1
          have hnb : (r.number != (k : Int) + 1) = true := by simpa using hn
          clear hn h0 h1
          go_wp2_with fail
          go_ret
          exact Hf.out _ _ (by rw [Herr.out, H1.out]; rfl) Hb1.out
    · obtain rfl : k = len := by omega
      go_wp2_with fail
      go_ret
      refine Hf.out _ _ ?_ Hb.out
      rw [Herr.out, List.drop_of_length_le (by have := hlen.out; omega)]; rfl
/-- What last answers. -/
def lastV (o : Option Wr) : Value := .tuple #[.agg #[.string (o.map Wr.key |>.getD ⟨#[]⟩), .string (o.map Wr.val |>.getD ⟨#[]⟩), .bool (o.map Wr.drop |>.getD false)], .bool o.isSome]
theorem lastW_take {ws : List Wr} {k : ByteArray} {j : Nat} {x : Wr} (h : ws[j]? = some x) : lastW (ws.take (j + 1)) k = if x.key = k then some x else lastW (ws.take j) k := by
  rw [List.take_add_one, h]; exact lastW_snoc _ _ _
set_option maxHeartbeats 1000000 in
theorem last_any (n : Int) (A : Option Addr) (len cap : Nat) (ws : List Wr) (k : ByteArray) (w : World) (hw : WsAt w w.heap.size A len ws) (hl : len ≤ 4398046511104) :
    Calls Try.prog 20 #[.agg #[.int .i64 n, .slice A len cap], .string k] w fun e w' => e = .returned (lastV (lastW ws k)) ∧ Below w.heap.size w w' := by
  have hlen := Lib.hid hw.len
  obtain ⟨W1, hW1⟩ : ∃ W1 : World, W1 = (w.alloc (.cells #[.int .i64 n, .slice A len cap] 37)).alloc (.cells #[.string ⟨#[]⟩, .string ⟨#[]⟩, .bool false] 39) := ⟨_, rfl⟩
  have hz : W1.heap.size = w.heap.size + 2 := by rw [hW1]; simp
  have hB : Below w.heap.size w W1 := by rw [hW1]; exact bel_alloc (bel_alloc (Below.refl _ _) _) _
  have c1 : W1.cell? ⟨w.heap.size, 1, none⟩ = some (.slice A len cap) := by rw [hW1]; simp [go_sem]
  have hblk : W1.heap[w.heap.size + 1]? = some (.cells #[.string ⟨#[]⟩, .string ⟨#[]⟩, .bool false] 39 (0, 0)) := by rw [hW1]; exact blk_new2 _ _ _
  have d0 := blk_cell hblk 0
  have d1 := blk_cell hblk 1
  have d2 := blk_cell hblk 2
  have f0 := blk_frozen hblk 0
  have f1 := blk_frozen hblk 1
  have f2 := blk_frozen hblk 2
  simp only [List.getElem?_toArray, List.getElem?_cons_zero, List.getElem?_cons_succ] at d0 d1 d2
  have hw1 := (hw.below hB).more hB.size
  have Hblk := Lib.hid hblk
  have HB := Lib.hid hB
  clear hblk hB
  go_enter Try.func20, Try.ntmps20
  go_wp2_with fail
  rw [← hW1]
  have HW1 := Lib.hid hW1
  have Hz := Lib.hid hz
  have hb1 : w.heap.size + 1 < W1.heap.size := by omega
  clear hW1 hz
  go_loop [6] (fun i => ∃ t : Nat, t ≤ len ∧ i = .int .i64 ((t : Int) - 1) ∧ Hid (lastW ws k = lastW (ws.take t) k)) (fun i => (RowKit.intOf i + 1).toNat)
  case atStart => exact ⟨len, Nat.le_refl _, rfl, Lib.hid (by rw [List.take_of_length_le (by rw [hlen.out]; exact Nat.le_refl _)])⟩
  case round =>
    obtain ⟨t, ht, rfl, Hlw⟩ := hrel
    have hfin : ∀ (o : Option Wr) (v : Value) (X : World), lastW ws k = o → v = lastV o → Below w.heap.size w X → (Ending.returned v = .returned (lastV (lastW ws k)) ∧ Below w.heap.size w X) := fun o v X h h2 h3 => ⟨by rw [h, h2], h3⟩
    have Hf := Lib.hid hfin
    clear hfin
    have hst : ∀ (a b c : Value), Below w.heap.size w (((W1.setCell ⟨w.heap.size + 1, 0, none⟩ a).setCell ⟨w.heap.size + 1, 1, none⟩ b).setCell ⟨w.heap.size + 1, 2, none⟩ c) := fun a b c => bel_set (bel_set (bel_set HB.out (Nat.le_succ _) _) (Nat.le_succ _) _) (Nat.le_succ _) _
    have Hst := Lib.hid hst
    clear hst
    by_cases hlt : 1 ≤ t
    · obtain ⟨q, rfl⟩ : ∃ q, t = q + 1 := ⟨t - 1, by omega⟩
      obtain ⟨b, off, x, rfl, hbl, hx, x0, x1, x2⟩ := WsAt.cell3 hw1 (show q < len by omega)
      have hlt2 := lastW_take (k := k) hx
      have Hlt2 := Lib.hid hlt2
      clear hx hlt2
      by_cases hkk : x.key = k
      · have hk1 : (x.key.toList == k.toList) = true := by rw [toL_eq]; exact decide_eq_true hkk
        have Hkk := Lib.hid hkk
        clear hkk
        go_wp2_with fail
        refine bodyPost_ret (v := .tuple #[.agg #[.string x.key, .string x.val, .bool x.drop], .bool true]) (by simp [results, Try.results20, go_sem, d0, d1, d2]) rfl (Hf.out (some x) _ _ ?_ rfl (Hst.out _ _ _))
        rw [Hlw.out, Hlt2.out, if_pos Hkk.out]
      · have hk1 : (x.key.toList == k.toList) = false := by rw [toL_eq]; exact decide_eq_false hkk
        have Hkk := Lib.hid hkk
        clear hkk
        go_wp2_with fail
        exact ⟨⟨q, by omega, rfl, Lib.hid (by rw [Hlw.out, Hlt2.out, if_neg Hkk.out])⟩, by simp [RowKit.intOf]⟩
    · obtain rfl : t = 0 := by omega
      go_wp2_with fail
      refine bodyPost_ret (v := .tuple #[.agg #[.string ⟨#[]⟩, .string ⟨#[]⟩, .bool false], .bool false]) (by simp [results, Try.results20, go_sem, d0, d1, d2]) rfl (Hf.out none _ _ ?_ rfl (Hst.out _ _ _))
      rw [Hlw.out]; rfl
theorem row_s {w : World} {B n i : Nat} {A : Option Addr} {xs : List ByteArray} (h : RowAt Scell 1 w B A n xs) (hi : i < n) : ∃ b off x, A = some ⟨b, off, none⟩ ∧ b < B ∧ xs[i]? = some x ∧ w.cell? ⟨b, off + i, none⟩ = some (.string x) := by
  obtain ⟨b, off, x, e, hb, hx, hc⟩ := h.at_ hi
  exact ⟨b, off, x, e, hb, hx, by have := hc 0 _ rfl; simpa using this⟩
def memB (xs : List ByteArray) (k : ByteArray) : Bool := xs.any fun x => decide (x = k)
theorem memB_iff (xs : List ByteArray) (k : ByteArray) : memB xs k = true ↔ k ∈ xs := by
  unfold memB; rw [List.any_eq_true]
  constructor
  · rintro ⟨x, hx, h⟩; exact of_decide_eq_true h ▸ hx
  · intro h; exact ⟨k, h, decide_eq_true rfl⟩
theorem memB_no {xs : List ByteArray} {k : ByteArray} (h : k ∉ xs) : memB xs k = false := by rw [← Bool.not_eq_true, memB_iff]; exact h
theorem among_any (A : Option Addr) (len cap : Nat) (xs : List ByteArray) (k : ByteArray) (w : World) (hw : RowAt Scell 1 w w.heap.size A len xs) (hl : len ≤ 4398046511104) :
    Calls Try.prog 38 #[.slice A len cap, .string k] w fun e w' => e = .returned (.bool (memB xs k)) ∧ w = w' := by
  have hlen := Lib.hid hw.len
  have hfin : ∀ (x : Bool) (w' : World), memB xs k = x → w = w' → (Ending.returned (.bool x) = .returned (.bool (memB xs k)) ∧ w = w') := fun x w' h h' => ⟨by rw [h], h'⟩
  have Hf := Lib.hid hfin
  clear hfin
  go_enter Try.func38, Try.ntmps38
  go_wp2_with fail
  go_loop [5] (fun i => ∃ t : Nat, t ≤ len ∧ i = .int .i64 t ∧ Hid (k ∉ xs.take t)) (fun i => len - (RowKit.intOf i).toNat)
  case atStart => exact ⟨0, Nat.zero_le _, rfl, Lib.hid (by simp)⟩
  case round =>
    obtain ⟨t, ht, rfl, Hno⟩ := hrel
    by_cases hlt : t < len
    · obtain ⟨b, off, x, rfl, hbl, hx, x0⟩ := row_s hw hlt
      have Hx := Lib.hid hx
      clear hx
      by_cases hkk : x = k
      · have hk1 : (x.toList == k.toList) = true := by rw [toL_eq]; exact decide_eq_true hkk
        have Hkk := Lib.hid hkk
        clear hkk
        go_wp2_with fail
        go_ret
        exact Hf.out _ _ ((memB_iff _ _).2 (Hkk.out ▸ List.mem_of_getElem? Hx.out)) rfl
      · have hk1 : (x.toList == k.toList) = false := by rw [toL_eq]; exact decide_eq_false hkk
        have Hkk := Lib.hid hkk
        clear hkk
        go_wp2_with fail
        refine ⟨⟨t + 1, by omega, by go_num, Lib.hid ?_⟩, by simp [RowKit.intOf]; omega⟩
        rw [List.take_add_one, Hx.out]
        simp only [Option.toList_some, List.mem_append, List.mem_singleton, not_or]
        exact ⟨Hno.out, fun e => Hkk.out e.symm⟩
    · obtain rfl : t = len := by omega
      go_wp2_with fail
      go_ret
      refine Hf.out _ _ (memB_no ?_) rfl
      have := Hno.out
      rwa [List.take_of_length_le (by rw [hlen.out]; exact Nat.le_refl _)] at this
end Go.Proofs.Ytdcnaieieggclaa

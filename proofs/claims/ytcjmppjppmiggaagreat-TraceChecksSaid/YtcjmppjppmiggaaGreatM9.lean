/- Lemmas and contracts of functions that statements of this seat stand on, many texts in one; each holds under the premises typed in its head. -/
import Derived.Test.YtcjmppjppmiggaaGreatM2
import Derived.Test.YtcjmppjppmiggaaGreatExt
import Derived.Laws.BitsAllLaws
import Derived.Laws.Tables
import Derived.StillTailTactics
/- The gate at memory: its functions. -/
namespace Go.Proofs.YtcjmppjppmiggaaGreat
open Go.RowKit
set_option linter.unusedVariables false
set_option linter.unusedSimpArgs false

def wd (x : Nat) : Value := .int .u64 x
def gcs (mark top : Nat) (W : List Nat) : Array Value := (Value.bool true :: .int .i64 mark :: (W.map wd ++ [.int .i64 top])).toArray
theorem gcs_0 (mark top : Nat) (W : List Nat) : (gcs mark top W)[0]? = some (.bool true) := by simp [gcs]
theorem gcs_1 (mark top : Nat) (W : List Nat) : (gcs mark top W)[1]? = some (.int .i64 mark) := by simp [gcs]
theorem gcs_w {mark top : Nat} {W : List Nat} {i x : Nat} (h : W[i]? = some x) : (gcs mark top W)[2 + i]? = some (.int .u64 x) := by
  have hi : i < W.length := (List.getElem?_eq_some_iff.1 h).1
  rw [show 2 + i = i + 2 by omega]
  simp only [gcs, List.getElem?_toArray, List.getElem?_cons_succ]
  rw [List.getElem?_append_left (by simpa using hi), List.getElem?_map, h]
  rfl
theorem gcs_t {mark top : Nat} {W : List Nat} (h : W.length = 1025) : (gcs mark top W)[1027]? = some (.int .i64 top) := by
  simp only [gcs, List.getElem?_toArray, List.getElem?_cons_succ]
  rw [List.getElem?_append_right (by simp [h]), List.length_map, h]
  rfl
theorem gcs_set1 (mark top m : Nat) (W : List Nat) : (gcs mark top W).setIfInBounds 1 (.int .i64 m) = gcs m top W := by simp [gcs]
theorem gcs_setw (mark top x i : Nat) (W : List Nat) (hi : i < W.length) : (gcs mark top W).setIfInBounds (2 + i) (.int .u64 x) = gcs mark top (W.set i x) := by
  rw [show 2 + i = i + 2 by omega]
  simp only [gcs, List.setIfInBounds_toArray, List.set_cons_succ]
  rw [List.set_append_left _ _ (by simpa using hi), List.map_set]
  rfl
theorem gcs_sett (mark top t : Nat) (W : List Nat) (h : W.length = 1025) : (gcs mark top W).setIfInBounds 1027 (.int .i64 t) = gcs mark t W := by
  simp only [gcs, List.setIfInBounds_toArray, List.set_cons_succ]
  rw [List.set_append_right _ _ (by simp [h]), List.length_map, h]
  rfl
def GC (w : World) (g mark top : Nat) (W : List Nat) : Prop := w.heap[g]? = some (.cells (gcs mark top W) 98 (0, 0))
theorem bit_val {x j : Nat} (hx : x < 18446744073709551616) : (bits BinOp.and IntKind.u64 ((x : Int) / 2 ^ j) 1 == 1) = x.testBit j := by
  have e : ((x : Int) / 2 ^ j) = ((x / 2 ^ j : Nat) : Int) := by simp
  rw [e, show (1 : Int) = ((1 : Nat) : Int) from rfl, u64_and_nat _ 1 (Nat.lt_of_le_of_lt (Nat.div_le_self _ _) hx) (by omega), bit_is]
  cases x.testBit j <;> rfl
theorem is_any (g mark top n : Nat) (W : List Nat) (S : Nat → Bool) (w : World) (h : GC w g mark top W) (hb : BitsOf W S) (hn : n ≤ 4294967296) :
    Calls Tryz.prog 82 #[.pointer (some ⟨g, 0, none⟩), .int .i64 n] w fun e w' => e = .returned (.bool (decide (n ≤ 65536) && S n)) ∧ w = w' := by
  by_cases hle : n ≤ 65536
  · obtain ⟨x, hx, hx2, hx3⟩ := hb.at_ (n := n) (by omega)
    have c := (blk_cell h (2 + n / 64)).trans (gcs_w hx)
    have e1 : ((n : Int) / 64).toNat = n / 64 := by omega
    have e2 : ((n : Int) % 64).toNat = n % 64 := by omega
    go_enter Tryz.func82, Tryz.ntmps82
    go_wp2_with fail
    go_ret
    exact ⟨by rw [bit_val hx2, hx3, decide_eq_true hle]; rfl, rfl⟩
  · have hle2 : ¬ ((n : Int) ≤ 65536) := by omega
    go_enter Tryz.func82, Tryz.ntmps82
    go_wp2_with fail
    go_ret
    exact ⟨by simp [hle], rfl⟩
set_option maxRecDepth 100000 in
theorem gset_any (g mark top n : Nat) (W : List Nat) (S : Nat → Bool) (w : World) (h : GC w g mark top W) (hb : BitsOf W S) (hn : n ≤ 65536) (ht : top ≤ 65536) :
    Calls Tryz.prog 36 #[.pointer (some ⟨g, 0, none⟩), .int .i64 n] w fun e w' => e = .returned (.tuple #[]) ∧ (∃ W', GC w' g mark (max top n) W' ∧ BitsOf W' (fun k => decide (k = n) || S k)) ∧ w.grownBy w' (some g) := by
  obtain ⟨x, hx, hx2, hx3⟩ := hb.at_ (n := n) (by omega)
  have c := (blk_cell h (2 + n / 64)).trans (gcs_w hx)
  have ct := (blk_cell h 1027).trans (gcs_t hb.len)
  have e1 : ((n : Int) / 64).toNat = n / 64 := by omega
  have e2 : ((n : Int) % 64).toNat = n % 64 := by omega
  have e3 : IntKind.i64.wrap ((n : Int) / 64) = (n : Int) / 64 := by rw [IntKind.wrap_i64]; omega
  have e4 : (0 : Int) ≤ (n : Int) / 64 := by omega
  have e5 : (n : Int) / 64 < 1025 := by omega
  have e6 : Int.tmod (n : Int) 64 = ((n % 64 : Nat) : Int) := by rw [Int.tmod_eq_emod_of_nonneg (by omega)]; omega
  have e7 : (0 : Int) ≤ ((n % 64 : Nat) : Int) := by omega
  have e8 : ((n % 64 : Nat) : Int) ≤ 64 := by omega
  have e9 : ((n % 64 : Nat) : Int).toNat = n % 64 := by omega
  have hp : 2 ^ (n % 64) < 18446744073709551616 := Nat.pow_lt_pow_right (a := 2) (m := n % 64) (n := 64) (by omega) (by omega)
  go_enter Tryz.func36, Tryz.ntmps36
  go_wp2_with fail
  go_still_tail 14, (by kernel_rfl)
  have h1 : w.drew.heap[g]? = some (.cells (gcs mark top W) 98 (0, 0)) := h
  have c1 : w.drew.cell? ⟨g, 2 + n / 64, none⟩ = some (.int .u64 x) := c
  have ct1 : w.drew.cell? ⟨g, 1027, none⟩ = some (.int .i64 top) := ct
  have hg0 : w.grownBy w.drew (some g) := ⟨rfl, rfl, rfl, Nat.le_refl _, fun _ _ _ => rfl⟩
  change wpList _ _ _ _ _ w.drew
  generalize w.drew = w1 at h1 c1 ct1 hg0 ⊢
  clear c ct
  have hf1 : w1.frozen? ⟨g, 2 + n / 64, none⟩ = false := by simp [World.frozen?, h1]
  have hf2 : w1.frozen? ⟨g, 1027, none⟩ = false := by simp [World.frozen?, h1]
  have hq : ∀ q : Nat, q < 18446744073709551616 → ((q : Int) % 18446744073709551616) = q := fun q hq => by omega
  have hor : bits BinOp.or IntKind.u64 (x : Int) (IntKind.u64.wrap (2 ^ (n % 64))) = ((x ||| 2 ^ (n % 64) : Nat) : Int) := by
    rw [show ((2 : Int) ^ (n % 64)) = ((2 ^ (n % 64) : Nat) : Int) by simp, IntKind.wrap_u64, hq _ hp, u64_or_nat x (2 ^ (n % 64)) hx2 hp]
  go_wp2_with fail
  rw [hor, show max (top : Int) (n : Int) = ((max top n : Nat) : Int) by omega]
  obtain ⟨b1, b2⟩ := bit_or (j := n % 64) hx2 (Nat.mod_lt _ (by omega))
  refine bodyPost_end (results_none rfl _ _ _) rfl ⟨rfl, ⟨W.set (n / 64) (x ||| 2 ^ (n % 64)), ?_, ?_⟩, ?_⟩
  · unfold GC
    rw [blk_set (blk_set h1 _ _) _ _, gcs_setw _ _ _ _ _ (by rw [hb.len]; omega), gcs_sett _ _ _ _ (by rw [List.length_set]; exact hb.len)]
  · refine hb.put (by omega) hx b1 (fun j hj => ?_) (fun k hk => by simp [hk])
    rw [b2 j hj]
    split <;> simp
  · exact only_setCell (only_setCell hg0 (Or.inl rfl) _) (Or.inl rfl) _
end Go.Proofs.YtcjmppjppmiggaaGreat

/- The gate at memory: Mark, Has. -/

namespace Go.Proofs.YtcjmppjppmiggaaGreat
open Go.RowKit
set_option linter.unusedVariables false
set_option linter.unusedSimpArgs false

structure GtAt (w : World) (g : Nat) (G : Gt) : Prop where
  ok : G.Ok
  st : ∃ W top, GC w g G.mark top W ∧ BitsOf W (fun n => G.bs.contains n) ∧ top ≤ 65536 ∧ G.mark ≤ top ∧ ∀ b ∈ G.bs, b ≤ top
theorem GtAt.lt {w : World} {g : Nat} {G : Gt} (h : GtAt w g G) : g < w.heap.size := by obtain ⟨W, t, h1, -⟩ := h.st; exact blk_lt h1
theorem GtAt.of_block {w w' : World} {g : Nat} {G : Gt} (h : GtAt w g G) (hb : w'.heap[g]? = w.heap[g]?) : GtAt w' g G := ⟨h.ok, by obtain ⟨W, t, h1, h2⟩ := h.st; exact ⟨W, t, hb.trans h1, h2⟩⟩
theorem gmark_any (g : Nat) (G : Gt) (w : World) (h : GtAt w g G) : Calls Tryz.prog 23 #[.pointer (some ⟨g, 0, none⟩)] w fun e w' => e = .returned (.int .i64 G.mark) ∧ w = w' := by
  obtain ⟨W, t, h1, -⟩ := h.st
  have c := (blk_cell h1 1).trans (gcs_1 _ _ _)
  go_enter Tryz.func23, Tryz.ntmps23
  go_wp2_with fail
  go_ret
  exact ⟨rfl, rfl⟩
theorem ghas_any (g : Nat) (G : Gt) (n : Nat) (w : World) (h : GtAt w g G) (hn : n ≤ 4294967296) : Calls Tryz.prog 81 #[.pointer (some ⟨g, 0, none⟩), .int .i64 n] w fun e w' => e = .returned (.bool (G.has n)) ∧ w = w' := by
  obtain ⟨W, t, h1, h2, -⟩ := h.st
  have c0 := (blk_cell h1 0).trans (gcs_0 _ _ _)
  have c1 := (blk_cell h1 1).trans (gcs_1 _ _ _)
  have Hi := Lib.hid (is_any g G.mark t n W _ w h1 h2 hn)
  have hlo := h.ok.lo
  clear h2
  have hlo := Lib.hid hlo
  by_cases hn1 : 1 ≤ n
  · by_cases hm : n ≤ G.mark
    · have e1 : (1 : Int) ≤ n := by omega
      have e2 : (n : Int) ≤ G.mark := by omega
      go_enter Tryz.func81, Tryz.ntmps81
      go_wp2_with fail
      go_ret
      exact ⟨congrArg (fun b => Ending.returned (.bool b)) (show true = G.has n by simp [Gt.has, hn1, hm]), rfl⟩
    · have e1 : (1 : Int) ≤ n := by omega
      have e2 : ¬ (n : Int) ≤ G.mark := by omega
      go_enter Tryz.func81, Tryz.ntmps81
      go_wp2_with fail
      refine Hi.out.mono ?_
      rintro e w1 ⟨rfl, rfl⟩
      go_wp2_with fail
      go_ret
      refine ⟨congrArg (fun b => Ending.returned (.bool b)) (show (decide (n ≤ 65536) && decide (n ∈ G.bs)) = G.has n from ?_), rfl⟩
      have hlo := hlo.out
      simp only [Gt.has, hn1, hm, decide_true, decide_false, Bool.true_and, Bool.false_or]
      by_cases hx : n ∈ G.bs
      · have := (hlo n hx).2
        simp [hx, this]
      · simp [hx]
  · have e1 : ¬ (1 : Int) ≤ n := by omega
    go_enter Tryz.func81, Tryz.ntmps81
    go_wp2_with fail
    go_ret
    exact ⟨congrArg (fun b => Ending.returned (.bool b)) (show false = G.has n by simp [Gt.has, hn1]), rfl⟩
end Go.Proofs.YtcjmppjppmiggaaGreat

/- The gate at memory: Done. -/

namespace Go.Proofs.YtcjmppjppmiggaaGreat
open Go.RowKit
set_option linter.unusedVariables false
set_option linter.unusedSimpArgs false

set_option maxRecDepth 100000
theorem gdone_any (g : Nat) (G : Gt) (n : Nat) (w : World) (h : GtAt w g G) (hn : n ≤ 4294967296) :
    Calls Tryz.prog 64 #[.pointer (some ⟨g, 0, none⟩), .int .i64 n] w fun e w' => e = .returned (.tuple #[.int .i64 (G.done n).2.1, .int .i64 (G.done n).2.2]) ∧ GtAt w' g (G.done n).1 ∧ w.grownBy w' (some g) := by
  obtain ⟨W, t, h1, h2, h3, h4, h5⟩ := h.st
  have c0 := (blk_cell h1 0).trans (gcs_0 _ _ _)
  have Hh := Lib.hid (ghas_any g G n w h hn)
  by_cases hc : 1 ≤ n ∧ n ≤ 65536
  · obtain ⟨hn1, hn2⟩ := hc
    have e1 : ¬ (n : Int) < 1 := by omega
    have e2 : ¬ (65536 : Int) < n := by omega
    cases hh : G.has n
    · rw [hh] at Hh
      have hd : G.done n = (⟨(cas (insN n G.bs) G.mark).1, (cas (insN n G.bs) G.mark).2⟩, (cas (insN n G.bs) G.mark).1 - G.mark, 0) := by unfold Gt.done; rw [if_pos ⟨hn1, hn2, hh⟩]
      have Hd := Lib.hid hd
      have Hs := Lib.hid (gset_any g G.mark t n W _ w h1 h2 hn2 h3)
      clear h2 hd
      go_enter Tryz.func64, Tryz.ntmps64
      go_wp2_with fail
      refine Hh.out.mono ?_
      rintro e w1 ⟨rfl, rfl⟩
      go_wp2_with fail
      refine Hs.out.mono ?_
      rintro e w1 ⟨rfl, ⟨W1, g1, g2⟩, g3⟩
      go_wp2_with fail
      have hnm : ¬ n ≤ G.mark ∧ n ∉ G.bs := by
        simp only [Gt.has, Bool.and_eq_false_iff, Bool.or_eq_false_iff, decide_eq_false_iff_not, List.contains_eq_mem] at hh
        rcases hh with hh | hh
        · omega
        · exact ⟨hh.1, by simpa using hh.2⟩
      have hW1 : BitsOf W1 (fun k => (insN n G.bs).contains k) := by
        have : (fun k => (insN n G.bs).contains k) = (fun k => decide (k = n) || G.bs.contains k) := by funext k; simp [mem_insN]
        rw [this]; exact g2
      have Hok := Lib.hid h.ok
      obtain ⟨l0, hl0⟩ : ∃ l0, l0 = insN n G.bs := ⟨_, rfl⟩
      have Hr0 : Hid (l0.Pairwise (· < ·)) := Lib.hid (hl0 ▸ insN_rise h.ok.rise hnm.2)
      have Hb0 : Hid (∀ b ∈ l0, G.mark + 1 ≤ b ∧ b ≤ 65536) := Lib.hid (fun b hb => by
        rw [hl0] at hb
        rcases mem_insN.1 hb with rfl | hb
        · omega
        · have := h.ok.lo b hb; omega)
      have Ht0 : Hid (∀ b ∈ l0, b ≤ max t n) := Lib.hid (fun b hb => by
        rw [hl0] at hb
        rcases mem_insN.1 hb with rfl | hb
        · omega
        · have := h5 b hb; omega)
      rw [← hl0] at hW1 Hd
      have Hw1 := Lib.hid hW1
      have Hg1 := Lib.hid g1
      have Hgr := Lib.hid g3
      have hmk := h.ok.mark
      clear hW1 g1 g2 g3 hl0 hnm c0 h1 h5 e1 e2
      go_loopw [6] (fun i wr => ∃ (m top : Nat) (l W : List Nat), i = .int .i64 ((m : Int) - G.mark) ∧ G.mark ≤ m ∧ m ≤ 65536 ∧ Hid (cas l m = cas l0 G.mark) ∧ Hid (l.Pairwise (· < ·)) ∧ Hid (∀ b ∈ l, m + 1 ≤ b ∧ b ≤ 65536) ∧ Hid (GC wr g m top W) ∧ Hid (BitsOf W (fun k => l.contains k)) ∧ Hid (top ≤ 65536 ∧ m ≤ top ∧ ∀ b ∈ l, b ≤ top) ∧ Hid (w.grownBy wr (some g))) (fun i _ => 65536 - (G.mark + (RowKit.intOf i).toNat))
      case atStart => exact ⟨G.mark, max t n, l0, W1, by simp, Nat.le_refl _, hmk, Lib.hid rfl, Hr0, Hb0, Hg1, Hw1, Lib.hid ⟨by omega, by omega, Ht0.out⟩, Hgr⟩
      case round =>
        obtain ⟨m, top, l, W, rfl, hm1, hm2, HC, HR, HB, HG, HW, HT, HGR⟩ := hrel
        have c1 := (blk_cell HG.out 1).trans (gcs_1 _ _ _)
        have Hi := Lib.hid (is_any g m top (m + 1) W _ wr HG.out HW.out (by omega))
        go_wp2_with fail
        rw [show ((m : Int) + 1) = ((m + 1 : Nat) : Int) by omega]
        refine Hi.out.mono ?_
        rintro e w2 ⟨rfl, rfl⟩
        cases l with
        | nil =>
          rw [show (decide (m + 1 ≤ 65536) && ([] : List Nat).contains (m + 1)) = false by simp]
          go_wp2_with fail
          go_ret2
          have hx := HC.out
          simp only [cas] at hx
          rw [Hd.out, ← hx]
          refine ⟨by simp; omega, ⟨⟨hm2, HR.out, fun b hb => by cases hb⟩, W, top, HG.out, HW.out, HT.out⟩, HGR.out⟩
        | cons b r =>
          by_cases hb : b = m + 1
          · subst hb
            have hb65 := (HB.out _ (List.mem_cons_self ..)).2
            rw [show (decide (m + 1 ≤ 65536) && ((m + 1) :: r).contains (m + 1)) = true by simp [hb65]]
            have hG0 : wr.heap[g]? = some (.cells (gcs m top W) 98 (0, 0)) := HG.out
            have hf1 : wr.frozen? ⟨g, 1, none⟩ = false := by simp [World.frozen?, hG0]
            go_wp2_with fail
            obtain ⟨w3, hw3⟩ : ∃ w3, w3 = wr.setCell ⟨g, 1, none⟩ (.int .i64 ((m : Int) + 1)) := ⟨_, rfl⟩
            have hG3 : w3.heap[g]? = some (.cells (gcs (m + 1) top W) 98 (0, 0)) := by rw [hw3, blk_set hG0, show ((m : Int) + 1) = ((m + 1 : Nat) : Int) by omega, gcs_set1]
            have hGR3 : w.grownBy w3 (some g) := hw3 ▸ only_setCell HGR.out (Or.inl rfl) _
            obtain ⟨x, hx, hx2, hx3⟩ := HW.out.at_ (n := m + 1) (by omega)
            rw [← hw3]
            clear hw3 hG0 hf1 c1
            obtain ⟨q, hq⟩ : ∃ q, q = m + 1 := ⟨_, rfl⟩
            rw [show ((m : Int) + 1) = (q : Int) by omega]
            rw [← hq] at hG3 hx hx3 hb65
            have Hq := Lib.hid hq
            clear hq
            have c1 := (blk_cell hG3 1).trans (gcs_1 _ _ _)
            have c := (blk_cell hG3 (2 + q / 64)).trans (gcs_w hx)
            have e1 : ((q : Int) / 64).toNat = q / 64 := by omega
            have e2 : ((q : Int) % 64).toNat = q % 64 := by omega
            have e3 : IntKind.i64.wrap ((q : Int) / 64) = (q : Int) / 64 := by rw [IntKind.wrap_i64]; omega
            have e4 : (0 : Int) ≤ (q : Int) / 64 := by omega
            have e5 : (q : Int) / 64 < 1025 := by omega
            have e6 : Int.tmod (q : Int) 64 = ((q % 64 : Nat) : Int) := by rw [Int.tmod_eq_emod_of_nonneg (by omega)]; omega
            have e7 : (0 : Int) ≤ ((q % 64 : Nat) : Int) := by omega
            have e8 : ((q % 64 : Nat) : Int) ≤ 64 := by omega
            have e9 : ((q % 64 : Nat) : Int).toNat = q % 64 := by omega
            have hp : 2 ^ (q % 64) < 18446744073709551616 := Nat.pow_lt_pow_right (a := 2) (m := q % 64) (n := 64) (by omega) (by omega)
            go_still_tail 20, (by kernel_rfl)
            have h1 : w3.drew.heap[g]? = some (.cells (gcs q top W) 98 (0, 0)) := hG3
            have cc : w3.drew.cell? ⟨g, 2 + q / 64, none⟩ = some (.int .u64 x) := c
            have hg0 : w.grownBy w3.drew (some g) := ⟨hGR3.os, hGR3.tape, hGR3.output, hGR3.size, hGR3.block⟩
            change wpList _ _ _ _ _ w3.drew
            generalize w3.drew = w4 at h1 cc hg0 ⊢
            clear c c1
            have hf1 : w4.frozen? ⟨g, 2 + q / 64, none⟩ = false := by simp [World.frozen?, h1]
            go_wp2_with fail
            have hqm := Hq.out
            have hqq : ∀ z : Nat, z < 18446744073709551616 → ((z : Int) % 18446744073709551616) = z := fun z hz => by omega
            have hoff : bits BinOp.andNot IntKind.u64 (x : Int) (IntKind.u64.wrap (2 ^ (q % 64))) = ((x &&& (18446744073709551615 - 2 ^ (q % 64)) : Nat) : Int) := by
              rw [show ((2 : Int) ^ (q % 64)) = ((2 ^ (q % 64) : Nat) : Int) by simp, IntKind.wrap_u64, hqq _ hp, u64_andNot_nat x (2 ^ (q % 64)) hx2 hp]
            rw [hoff]
            obtain ⟨b1, b2⟩ := bit_off (j := q % 64) hx2 (Nat.mod_lt _ (by omega))
            have hr := HR.out
            rw [List.pairwise_cons] at hr
            have hB := HB.out
            have hT := HT.out
            have hC := HC.out
            simp only [cas, if_true] at hC
            refine ⟨⟨q, top, r, W.set (q / 64) (x &&& (18446744073709551615 - 2 ^ (q % 64))), by congr 1; omega, by omega, hb65, Lib.hid (by rw [hqm]; exact hC), Lib.hid hr.2, Lib.hid (fun b hb => ⟨by have := hr.1 b hb; omega, (hB b (by simp [hb])).2⟩), Lib.hid ?_, Lib.hid ?_, Lib.hid ⟨hT.1, by have := hT.2.2 (m + 1) (by simp); omega, fun b hb => hT.2.2 b (by simp [hb])⟩, Lib.hid (only_setCell hg0 (Or.inl rfl) _)⟩, by simp [RowKit.intOf]; omega⟩
            · unfold GC
              rw [blk_set h1 _ _, gcs_setw _ _ _ _ _ (by rw [HW.out.len]; omega)]
            · have hnr : q ∉ r := fun e => by have := hr.1 q e; omega
              have hW := HW.out
              rw [← hqm] at hW
              refine hW.put (n := q) (by omega) hx b1 (fun j hj => ?_) (fun k hk => by simp [List.contains_cons, hk])
              rw [b2 j hj]
              split <;> simp [hnr]
          · have hnb : (decide (m + 1 ≤ 65536) && (b :: r).contains (m + 1)) = false := by
              have hr := HR.out
              rw [List.pairwise_cons] at hr
              have h0 := HB.out b (by simp)
              simp only [Bool.and_eq_false_iff, List.contains_eq_mem, List.mem_cons, decide_eq_false_iff_not, not_or]
              right
              exact ⟨fun e => hb e.symm, fun e => by have := hr.1 _ e; omega⟩
            rw [hnb]
            go_wp2_with fail
            go_ret2
            have hx := HC.out
            simp only [cas] at hx
            rw [if_neg hb] at hx
            rw [Hd.out, ← hx]
            refine ⟨by simp; omega, ⟨⟨hm2, HR.out, fun c hc => ?_⟩, W, top, HG.out, HW.out, HT.out⟩, HGR.out⟩
            have hr := HR.out
            rw [List.pairwise_cons] at hr
            have h0 := HB.out b (by simp)
            have h1 := HB.out c hc
            show m + 2 ≤ c ∧ c ≤ 65536
            rcases List.mem_cons.1 hc with rfl | hc
            · omega
            · have := hr.1 c hc; omega
    · rw [hh] at Hh
      have hd : G.done n = (G, 0, 1) := by unfold Gt.done; rw [if_neg (by rw [hh]; simp)]
      rw [hd]
      go_enter Tryz.func64, Tryz.ntmps64
      go_wp2_with fail
      refine Hh.out.mono ?_
      rintro e w1 ⟨rfl, rfl⟩
      go_wp2_with fail
      go_ret2
      exact ⟨rfl, h, rfl, rfl, rfl, Nat.le_refl _, fun _ _ _ => rfl⟩
  · have hd : G.done n = (G, 0, 1) := by unfold Gt.done; rw [if_neg (fun hx => hc ⟨hx.1, hx.2.1⟩)]
    rw [hd]
    by_cases hn1 : n < 1
    · have e1 : (n : Int) < 1 := by omega
      go_enter Tryz.func64, Tryz.ntmps64
      go_wp2_with fail
      go_ret2
      exact ⟨rfl, h, rfl, rfl, rfl, Nat.le_refl _, fun _ _ _ => rfl⟩
    · have e1 : ¬ (n : Int) < 1 := by omega
      have e2 : (65536 : Int) < n := by omega
      go_enter Tryz.func64, Tryz.ntmps64
      go_wp2_with fail
      go_ret2
      exact ⟨rfl, h, rfl, rfl, rfl, Nat.le_refl _, fun _ _ _ => rfl⟩
end Go.Proofs.YtcjmppjppmiggaaGreat


/- TraceStops: the law's walk. -/
import Derived.Test.YtbiamjgkedmceaaTl2
namespace Go.Proofs.Ytbiamjgkedmceaa
open Go.RowKit
set_option linter.unusedVariables false
set_option linter.unusedSimpArgs false

set_option maxRecDepth 100000
theorem checkR_all (c : Cfg) (rs : List RTx) (mark : Int) (by_ : List Int) : (∀ l, checkR c rs mark by_ l = (0, 7)) ∨ (∀ l, checkR c rs mark by_ l = (0, 1)) ∨
    ∃ (M : Nat) (bs : List Nat), ∀ l, checkR c rs mark by_ l = (((checkN c rs M bs l : Nat) : Int), checkE (checkN c rs M bs l) l.length) := by
  by_cases hok : c.ok = false
  · exact Or.inl fun l => by rw [checkR, if_pos hok]
  · by_cases h : logErr rs 1 = 0 ∧ placeB rs.length mark by_ = true
    · exact Or.inr (Or.inr ⟨mark.toNat, by_.map Int.toNat, fun l => by rw [checkR, if_neg hok, if_pos h]⟩)
    · exact Or.inr (Or.inl fun l => by rw [checkR, if_neg hok, if_neg h])
theorem checkN_le (c : Cfg) (rs : List RTx) (M : Nat) (bs : List Nat) (l : List Ev) : checkN c rs M bs l ≤ l.length := tale_le _ _ _ _ _ _
theorem checkN_stop (c : Cfg) (rs : List RTx) (M : Nat) (bs : List Nat) (l : List Ev) : checkN c rs M bs (l.take (checkN c rs M bs l)) = checkN c rs M bs l := tale_stop _ _ _ _ _ _
theorem checkN_more (c : Cfg) (rs : List RTx) (M : Nat) (bs : List Nat) (l more : List Ev) (h : checkN c rs M bs l < l.length) : checkN c rs M bs (l.take (checkN c rs M bs l + 1) ++ more) = checkN c rs M bs l := tale_more _ _ _ _ _ _ _ h
theorem info_evt : (Try.prog.info? 38).map (fun i => (i.zero, i.size, i.bytes)) = some (some (.agg #[.int .i64 0, .int .u8 0, .int .i64 0, .int .i64 0, .int .i64 0, .int .i64 0]), 6, 48) := by kernel_rfl
theorem one_evt (x : Ev) : ∀ u ∈ Ev.cells x, u.oneCell' = true := fun u hu => by simp [Ev.cells] at hu; rcases hu with rfl | rfl | rfl | rfl | rfl | rfl <;> rfl
set_option maxHeartbeats 4000000 in
theorem lawstops_any (c : Cfg) (rs : List RTx) (A : Option Addr) (len cap : Nat) (mark : Int) (A2 : Option Addr) (n2 c2 : Nat) (by_ : List Int) (A3 : Option Addr) (n3 c3 : Nat) (A4 : Option Addr) (n4 c4 : Nat) (l : List Ev) (A5 : Option Addr) (n5 c5 : Nat) (more : List Ev) (w : World) (hl : TxsAt w w.heap.size A len rs) (hb : IsAt w w.heap.size A2 n2 by_) (he : EsAt w w.heap.size A4 n4 l) (hm : EsAt w w.heap.size A5 n5 more) (hn : A2 = none → c2 = 0) (hcap : ∀ r ∈ rs, r.len ≤ r.cap) (hn4 : n4 ≤ 1048576) (hlc : n4 ≤ c4) (hc5 : A5 = none → c5 = 0) (hn5 : n5 ≤ 1048576) (hlen : len ≤ 4398046511104) (hn2 : n2 ≤ 4398046511104000) :
    Calls Try.prog 4 #[.agg (toldV c A len cap mark A2 n2 c2 A3 n3 c3 A4 n4 c4), .slice A5 n5 c5] w fun e w' => e = .returned (.bool true) ∧ Below w.heap.size w w' := by
  unfold toldV
  obtain ⟨W0, hW0⟩ : ∃ W0, W0 = w.alloc (.cells #[.int .i64 c.lanes, .int .i64 c.shards, .int .i64 c.window, .int .i64 c.queue, .slice A len cap, .int .i64 mark, .slice A2 n2 c2, .slice A3 n3 c3, .slice A4 n4 c4] 31) := ⟨_, rfl⟩
  have hb0 : Below w.heap.size w W0 := hW0 ▸ bel_alloc (Below.refl _ _) _
  have HT0 : Hid (W0.heap[w.heap.size]? = some (.cells #[.int .i64 c.lanes, .int .i64 c.shards, .int .i64 c.window, .int .i64 c.queue, .slice A len cap, .int .i64 mark, .slice A2 n2 c2, .slice A3 n3 c3, .slice A4 n4 c4] 31 (0, 0))) := Lib.hid (hW0 ▸ blk_new _ _)
  have HB0 := Lib.hid hb0
  have HW0 := Lib.hid hW0
  have HL0 := Lib.hid ((hl.below hb0).more hb0.size)
  have HBy0 := Lib.hid ((hb.below hb0).more hb0.size)
  have HE0 := Lib.hid ((he.below hb0).more hb0.size)
  have HM0 := Lib.hid ((hm.below hb0).more hb0.size)
  have a0 := blk_cell HT0.out 0
  have a1 := blk_cell HT0.out 1
  have a2 := blk_cell HT0.out 2
  have a3 := blk_cell HT0.out 3
  have a4 := blk_cell HT0.out 4
  have a5 := blk_cell HT0.out 5
  have a6 := blk_cell HT0.out 6
  have a7 := blk_cell HT0.out 7
  have a8 := blk_cell HT0.out 8
  clear hW0 hb0
  have hck : ∀ (X : World) (A' : Option Addr) (n' c' : Nat) (l' : List Ev), Below W0.heap.size W0 X → EsAt X X.heap.size A' n' l' → n' ≤ 4398046511104 → Calls Try.prog 5 #[.agg #[.int .i64 c.lanes, .int .i64 c.shards, .int .i64 c.window, .int .i64 c.queue], .slice A len cap, .agg #[.int .i64 mark, .slice A2 n2 c2, .slice A3 n3 c3], .slice A' n' c'] X fun e w' => e = .returned (.tuple #[.int .i64 (checkR c rs mark by_ l').1, .int .i64 (checkR c rs mark by_ l').2]) ∧ Below X.heap.size X w' := fun X A' n' c' l' hX hE hn' =>
    tcheck_any c rs A len cap mark A2 n2 c2 by_ A3 n3 c3 A' n' c' l' X ((HL0.out.below hX).more hX.size) ((HBy0.out.below hX).more hX.size) hE hn hcap hn' hlen hn2
  have Hck := Lib.hid hck
  have Hck0 := Lib.hid (hck W0 A4 n4 c4 l (Below.refl _ _) HE0.out (by omega))
  have hll := he.len
  clear hck hn hcap hl hb he hm
  rcases checkR_all c rs mark by_ with hR | hR | ⟨M, bs, hR⟩
  · rw [hR] at Hck0
    clear hR
    simp only at Hck0
    go_enter Try.func4, Try.ntmps4
    go_wp2_with fail
    rw [← HW0.out]
    refine Hck0.out.mono ?_
    rintro e w1 ⟨rfl, hb1⟩
    have HB1 := Lib.hid (HB0.out.trans (hb1.mono HB0.out.size))
    clear hb1
    go_wp2_with fail
    refine (lives21_any w1).mono ?_
    rintro e w2 ⟨rfl, hb2⟩
    have HB2 := Lib.hid (HB1.out.trans (hb2.mono HB1.out.size))
    clear hb2
    go_wp2_with fail
    go_ret
    exact ⟨rfl, HB2.out⟩
  · rw [hR] at Hck0
    clear hR
    simp only at Hck0
    go_enter Try.func4, Try.ntmps4
    go_wp2_with fail
    rw [← HW0.out]
    refine Hck0.out.mono ?_
    rintro e w1 ⟨rfl, hb1⟩
    have HB1 := Lib.hid (HB0.out.trans (hb1.mono HB0.out.size))
    clear hb1
    go_wp2_with fail
    refine (lives21_any w1).mono ?_
    rintro e w2 ⟨rfl, hb2⟩
    have HB2 := Lib.hid (HB1.out.trans (hb2.mono HB1.out.size))
    clear hb2
    go_wp2_with fail
    go_ret
    exact ⟨rfl, HB2.out⟩
  · have HR := Lib.hid hR
    rw [hR] at Hck0
    clear hR
    simp only at Hck0
    have hN1 := checkN_le c rs M bs l
    have HS := Lib.hid (checkN_stop c rs M bs l)
    have HMo := Lib.hid (checkN_more c rs M bs l)
    rw [hll] at Hck0 hN1 HMo
    obtain ⟨N, hN⟩ : ∃ N, N = checkN c rs M bs l := ⟨_, rfl⟩
    rw [← hN] at Hck0 hN1 HS HMo
    have HN := Lib.hid hN
    have Hll := Lib.hid hll
    clear hN hll
    by_cases hlt : N < n4
    · rw [checkE, if_pos hlt] at Hck0
      go_enter Try.func4, Try.ntmps4
      go_wp2_with fail
      rw [← HW0.out]
      refine Hck0.out.mono ?_
      rintro e w1 ⟨rfl, hb1⟩
      have HB1 := Lib.hid hb1
      have HT1 := Lib.hid ((hb1.block _ (blk_lt HT0.out)).trans HT0.out)
      have hwl1 := blk_lt HT1.out
      have a0 := blk_cell HT1.out 0
      have a1 := blk_cell HT1.out 1
      have a2 := blk_cell HT1.out 2
      have a3 := blk_cell HT1.out 3
      have a4 := blk_cell HT1.out 4
      have a5 := blk_cell HT1.out 5
      have a6 := blk_cell HT1.out 6
      have a7 := blk_cell HT1.out 7
      have a8 := blk_cell HT1.out 8
      clear hb1
      have hN4 : 0 < n4 := by omega
      obtain ⟨b, off, rfl, hbb, -⟩ := HE0.out.2 hN4
      have HTk := Lib.hid (HE0.out.take_ (k := N) (by omega))
      have HTk1 := Lib.hid (HE0.out.take_ (k := N + 1) (by omega))
      clear a0 a1 a2 a3 a4 a5 a6 a7
      have hNc : (N : Int) ≤ c4 := by omega
      have hNc1 : ((N + 1 : Nat) : Int) ≤ c4 := by omega
      go_wp2_with fail
      clear a8
      have k0 : ∀ n : Ext w1, n.X.cell? ⟨w.heap.size, 0, none⟩ = some (.int .i64 c.lanes) := fun n => (n.h.cell (p := ⟨w.heap.size, 0, none⟩) (blk_lt HT1.out)).trans (blk_cell HT1.out 0)
      have k1 : ∀ n : Ext w1, n.X.cell? ⟨w.heap.size, 1, none⟩ = some (.int .i64 c.shards) := fun n => (n.h.cell (p := ⟨w.heap.size, 1, none⟩) (blk_lt HT1.out)).trans (blk_cell HT1.out 1)
      have k2 : ∀ n : Ext w1, n.X.cell? ⟨w.heap.size, 2, none⟩ = some (.int .i64 c.window) := fun n => (n.h.cell (p := ⟨w.heap.size, 2, none⟩) (blk_lt HT1.out)).trans (blk_cell HT1.out 2)
      have k3 : ∀ n : Ext w1, n.X.cell? ⟨w.heap.size, 3, none⟩ = some (.int .i64 c.queue) := fun n => (n.h.cell (p := ⟨w.heap.size, 3, none⟩) (blk_lt HT1.out)).trans (blk_cell HT1.out 3)
      have k4 : ∀ n : Ext w1, n.X.cell? ⟨w.heap.size, 4, none⟩ = some (.slice A len cap) := fun n => (n.h.cell (p := ⟨w.heap.size, 4, none⟩) (blk_lt HT1.out)).trans (blk_cell HT1.out 4)
      have k5 : ∀ n : Ext w1, n.X.cell? ⟨w.heap.size, 5, none⟩ = some (.int .i64 mark) := fun n => (n.h.cell (p := ⟨w.heap.size, 5, none⟩) (blk_lt HT1.out)).trans (blk_cell HT1.out 5)
      have k6 : ∀ n : Ext w1, n.X.cell? ⟨w.heap.size, 6, none⟩ = some (.slice A2 n2 c2) := fun n => (n.h.cell (p := ⟨w.heap.size, 6, none⟩) (blk_lt HT1.out)).trans (blk_cell HT1.out 6)
      have k7 : ∀ n : Ext w1, n.X.cell? ⟨w.heap.size, 7, none⟩ = some (.slice A3 n3 c3) := fun n => (n.h.cell (p := ⟨w.heap.size, 7, none⟩) (blk_lt HT1.out)).trans (blk_cell HT1.out 7)
      have k8 : ∀ n : Ext w1, n.X.cell? ⟨w.heap.size, 8, none⟩ = some (.slice (some ⟨b, off, none⟩) n4 c4) := fun n => (n.h.cell (p := ⟨w.heap.size, 8, none⟩) (blk_lt HT1.out)).trans (blk_cell HT1.out 8)
      have C2 := Lib.hid (fun n : Ext w1 => Ext.call (by
        have hX := HB1.out.trans (n.h.mono HB1.out.size)
        have := Hck.out n.X (some ⟨b, off, none⟩) N c4 (l.take N) hX ((HTk.out.below hX).more hX.size) (by omega)
        rw [HR.out, HS.out, List.length_take, Hll.out, Nat.min_eq_left (by omega), checkE, if_neg (Nat.lt_irrefl N)] at this
        exact this))
      refine wp_region_ext (by kernel_rfl) (by kernel_rfl) ?_
      repeat (go_big_quiet_step ((go_at_call 5; exact C2.out _)))
      refine Ext.end_ fun w2 hX => ?_
      have HT2 := Lib.hid ((hX.block _ (blk_lt HT1.out)).trans HT1.out)
      have HB2 := Lib.hid (HB1.out.trans (hX.mono HB1.out.size))
      clear hX k0 k1 k2 k3 k4 k5 k6 k7 k8 C2
      go_wp2_with fail
      have k0 : ∀ n : Ext w2, n.X.cell? ⟨w.heap.size, 0, none⟩ = some (.int .i64 c.lanes) := fun n => (n.h.cell (p := ⟨w.heap.size, 0, none⟩) (blk_lt HT2.out)).trans (blk_cell HT2.out 0)
      have k1 : ∀ n : Ext w2, n.X.cell? ⟨w.heap.size, 1, none⟩ = some (.int .i64 c.shards) := fun n => (n.h.cell (p := ⟨w.heap.size, 1, none⟩) (blk_lt HT2.out)).trans (blk_cell HT2.out 1)
      have k2 : ∀ n : Ext w2, n.X.cell? ⟨w.heap.size, 2, none⟩ = some (.int .i64 c.window) := fun n => (n.h.cell (p := ⟨w.heap.size, 2, none⟩) (blk_lt HT2.out)).trans (blk_cell HT2.out 2)
      have k3 : ∀ n : Ext w2, n.X.cell? ⟨w.heap.size, 3, none⟩ = some (.int .i64 c.queue) := fun n => (n.h.cell (p := ⟨w.heap.size, 3, none⟩) (blk_lt HT2.out)).trans (blk_cell HT2.out 3)
      have k4 : ∀ n : Ext w2, n.X.cell? ⟨w.heap.size, 4, none⟩ = some (.slice A len cap) := fun n => (n.h.cell (p := ⟨w.heap.size, 4, none⟩) (blk_lt HT2.out)).trans (blk_cell HT2.out 4)
      have k5 : ∀ n : Ext w2, n.X.cell? ⟨w.heap.size, 5, none⟩ = some (.int .i64 mark) := fun n => (n.h.cell (p := ⟨w.heap.size, 5, none⟩) (blk_lt HT2.out)).trans (blk_cell HT2.out 5)
      have k6 : ∀ n : Ext w2, n.X.cell? ⟨w.heap.size, 6, none⟩ = some (.slice A2 n2 c2) := fun n => (n.h.cell (p := ⟨w.heap.size, 6, none⟩) (blk_lt HT2.out)).trans (blk_cell HT2.out 6)
      have k7 : ∀ n : Ext w2, n.X.cell? ⟨w.heap.size, 7, none⟩ = some (.slice A3 n3 c3) := fun n => (n.h.cell (p := ⟨w.heap.size, 7, none⟩) (blk_lt HT2.out)).trans (blk_cell HT2.out 7)
      have k8 : ∀ n : Ext w2, n.X.cell? ⟨w.heap.size, 8, none⟩ = some (.slice (some ⟨b, off, none⟩) n4 c4) := fun n => (n.h.cell (p := ⟨w.heap.size, 8, none⟩) (blk_lt HT2.out)).trans (blk_cell HT2.out 8)
      have C2 := Lib.hid (fun n : Ext w2 => Ext.call (by
        have hX := HB2.out.trans (n.h.mono HB2.out.size)
        have := Hck.out n.X (some ⟨b, off, none⟩) (N + 1) c4 (l.take (N + 1)) hX ((HTk1.out.below hX).more hX.size) (by omega)
        have h2 := HMo.out [] hlt
        rw [List.append_nil] at h2
        rw [HR.out, h2, List.length_take, Hll.out, Nat.min_eq_left (by omega), checkE, if_pos (Nat.lt_succ_self N)] at this
        exact this))
      refine wp_region_ext (by kernel_rfl) (by kernel_rfl) ?_
      have hs1 : IntKind.i64.wrap ((N : Int) + 1) = ((N + 1 : Nat) : Int) := by rw [IntKind.wrap_i64]; omega
      have hs2 : (0 : Int) ≤ ((N + 1 : Nat) : Int) := by omega
      repeat (go_big_quiet_step ((go_at_call 5; exact C2.out _)))
      refine Ext.end_ fun w3 hX => ?_
      have HT3 := Lib.hid ((hX.block _ (blk_lt HT2.out)).trans HT2.out)
      have HB3 := Lib.hid (HB2.out.trans (hX.mono HB2.out.size))
      clear hX k0 k1 k2 k3 k4 k5 k6 k7 k8 C2 hs1 hs2
      have a0 := blk_cell HT3.out 0
      have a1 := blk_cell HT3.out 1
      have a2 := blk_cell HT3.out 2
      have a3 := blk_cell HT3.out 3
      have a4 := blk_cell HT3.out 4
      have a5 := blk_cell HT3.out 5
      have a6 := blk_cell HT3.out 6
      have a7 := blk_cell HT3.out 7
      have a8 := blk_cell HT3.out 8
      obtain ⟨i0, hi, hz0, hz1, hz2⟩ := info_parts info_evt
      have Hrow1 := Lib.hid ((HTk1.out.below HB3.out).more HB3.out.size)
      have Hrow2 : Hid (∀ X, Below w3.heap.size w3 X → EsAt X X.heap.size A5 n5 more) := Lib.hid (fun X hX => (HM0.out.below (HB3.out.trans (hX.mono HB3.out.size))).more (Nat.le_trans HB3.out.size hX.size))
      have Hc5 := Lib.hid hc5
      have H48 : (N + 1) * 48 ≤ 140737488355328 := by omega
      have H49 : (N + 1 + n5) * 48 ≤ 140737488355328 := by omega
      have Hnil : Hid (w3.ownsRow w3.heap.size 38 6 (.slice none 0 0) 0 []) := Lib.hid (World.ownsRow_nil _ _ _ _)
      clear hc5
      go_wp2_with (first
        | (at_builtin; refine wpList_append_row (cells := Ev.cells) rfl _ _ 29 rfl w3.heap.size 38 i0 _ 6 48 Try.underlying29 hi hz0 hz1 hz2 rfl (by decide) (.slice none 0 0) 0 [] rfl Hnil.out (some ⟨b, off, none⟩) (N + 1) c4 _ (l.take (N + 1)) rfl Hrow1.out (fun h => by cases h) (fun _ _ => rfl) (fun y u hu => one_evt y u hu) (by unfold maxLen; omega) (by omega) (Nat.le_refl _) ?_; intro v1 w4 hown1 hg1; have Hown1 := Lib.hid hown1; have Hg1 := Lib.hid (below_grown_own Hnil.out hg1 (Nat.le_refl _)); clear hown1 hg1)
        | (at_builtin; refine wpList_append_row (cells := Ev.cells) rfl _ _ 29 rfl w3.heap.size 38 i0 _ 6 48 Try.underlying29 hi hz0 hz1 hz2 rfl (by decide) v1 (0 + (N + 1)) _ rfl Hown1.out A5 n5 c5 _ more rfl (Hrow2.out _ Hg1.out) Hc5.out (fun _ _ => rfl) (fun y u hu => one_evt y u hu) (by unfold maxLen; omega) (by omega) Hg1.out.size ?_; intro v2 w5 hown2 hg2; have Hown2 := Lib.hid hown2; have hg2' := below_grown_own Hown1.out hg2 Hg1.out.size; have HB5 : Hid (Below W0.heap.size W0 w5) := Lib.hid (HB3.out.trans ((Hg1.out.trans hg2').mono HB3.out.size)); have HT5 := Lib.hid (((Hg1.out.trans hg2').block _ (blk_lt HT3.out)).trans HT3.out); have b0 := blk_cell HT5.out 0; have b1 := blk_cell HT5.out 1; have b2 := blk_cell HT5.out 2; have b3 := blk_cell HT5.out 3; have b4 := blk_cell HT5.out 4; have b5 := blk_cell HT5.out 5; have b6 := blk_cell HT5.out 6; have b7 := blk_cell HT5.out 7; have hz5 := (Hg1.out.trans hg2').size; have hl6 : (l.take (N + 1) ++ more).length = 0 + (N + 1) + n5 := (by rw [List.length_append, Hrow1.out.len, HM0.out.len]; omega); have hown3 : w5.ownsRow w3.heap.size 38 6 v2 (l.take (N + 1) ++ more).length ((l.take (N + 1) ++ more).flatMap Ev.cells) := (by rw [hl6, List.flatMap_append]; simpa using hown2); obtain ⟨A6, c6, hv6, -, hT6⟩ := TkAt.own (cells := Ev.cells) (B := 0) (fun _ _ => rfl) hown3 (Nat.zero_le _); obtain ⟨n6, hn6⟩ : ∃ n6, n6 = (l.take (N + 1) ++ more).length := ⟨_, rfl⟩; rw [← hn6] at hv6 hT6 hl6; have Hn6 := Lib.hid hn6; clear hn6; subst hv6; have HR6 := Lib.hid hT6.row; have Hl6 := Lib.hid hl6; clear hown2 hg2 hown3 hT6 hl6 hg2'))
      have C3 := Hck.out w5 A6 n6 c6 _ HB5.out HR6.out (by rw [Hl6.out]; omega)
      have h2 := HMo.out more hlt
      have e6 : checkR c rs mark by_ (l.take (N + 1) ++ more) = ((N : Int), 14) := by rw [HR.out, h2, checkE, if_pos (by rw [← Hn6.out, Hl6.out]; omega)]
      rw [e6] at C3
      have HC3 := Lib.hid C3
      clear C3 h2 e6
      refine HC3.out.mono ?_
      rintro e w6 ⟨rfl, hb6⟩
      have HB6 := Lib.hid (HB0.out.trans ((HB5.out.trans (hb6.mono HB5.out.size)).mono HB0.out.size))
      clear hb6
      go_wp2_with fail
      refine (lives21_any w6).mono ?_
      rintro e w7 ⟨rfl, hb7⟩
      have HB7 := Lib.hid (HB6.out.trans (hb7.mono HB6.out.size))
      clear hb7
      go_wp2_with fail
      go_ret
      exact ⟨rfl, HB7.out⟩
    · obtain rfl : N = n4 := by omega
      rw [checkE, if_neg hlt] at Hck0
      go_enter Try.func4, Try.ntmps4
      go_wp2_with fail
      rw [← HW0.out]
      refine Hck0.out.mono ?_
      rintro e w1 ⟨rfl, hb1⟩
      have HB1 := Lib.hid (HB0.out.trans (hb1.mono HB0.out.size))
      have HT1 := Lib.hid ((hb1.block _ (blk_lt HT0.out)).trans HT0.out)
      have a8 := blk_cell HT1.out 8
      clear hb1
      go_wp2_with fail
      refine (lives21_any w1).mono ?_
      rintro e w2 ⟨rfl, hb2⟩
      have HB2 := Lib.hid (HB1.out.trans (hb2.mono HB1.out.size))
      clear hb2
      go_wp2_with fail
      go_ret
      exact ⟨rfl, HB2.out⟩
end Go.Proofs.Ytbiamjgkedmceaa

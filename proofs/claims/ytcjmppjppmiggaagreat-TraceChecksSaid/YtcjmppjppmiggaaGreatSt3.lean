/- A trace's story: an owner's step. -/
import Derived.Test.YtcjmppjppmiggaaGreatSt2
namespace Go.Proofs.YtcjmppjppmiggaaGreat
open Go.RowKit
set_option linter.unusedVariables false
set_option linter.unusedSimpArgs false

open Go.Maps
set_option maxRecDepth 100000
def evBox : Obj := .cells #[.int .i64 0, .int .u8 0, .int .i64 0, .int .i64 0, .int .i64 0, .int .i64 0] 51 (0, 0)
theorem zcalled (w : World) : (zeroValue 134).run Tryz.prog w = .ok (.pointer none) w := by kernel_rfl
theorem modify_set {α : Type} {f : α → α} {l : List α} {j : Nat} {x : α} (h : l[j]? = some x) : l.modify j f = l.set j (f x) := by
  refine List.ext_getElem? fun i => ?_
  rw [List.getElem?_modify, List.getElem?_set]
  by_cases hij : j = i
  · subst hij
    rw [if_pos rfl, h, if_pos (List.getElem?_eq_some_iff.1 h).1]; simp
  · rw [if_neg hij]; simp [hij]
set_option maxHeartbeats 4000000 in
theorem owner_any (φ : Nat → Nat) (Bo : Nat) (c : Cfg) (rs rs' : List RTx) (by_ : List Int) (M k : Nat) (a : SA) (x : SG) (s : TS) (w : World) (i : Nat) (h0 : StAt w φ Bo c rs rs' by_ a x s) (hi : SInv c rs rs' M k s) (hc : c.ok = true) (hk : k ≤ 4398046511104) (hi1 : (i : Int) < c.shards) :
    Calls Tryz.prog 41 #[ptrV a.g, .int .i64 i] w (TaskEnd w φ Bo c rs rs' by_ a (s.owner i)) := by
  obtain ⟨φ0, hφ0⟩ : ∃ φ0 : Nat → Nat, φ0 = fun b => if b < w.heap.size then φ b else 50 := ⟨_, rfl⟩
  have hφ1 : ∀ b, b < w.heap.size → φ0 b = φ b := fun b hb => by rw [hφ0]; simp only [if_pos hb]
  have hφ2 : ∀ b, w.heap.size ≤ b → φ0 b = 50 := fun b hb => by rw [hφ0]; simp only [if_neg (show ¬ b < w.heap.size by omega)]
  have h : StAt w φ0 Bo c rs rs' by_ a x s := h0.relabel hφ1
  have Hφ1 := Lib.hid hφ1
  have Hφ2 := Lib.hid hφ2
  clear hφ0 hφ1 hφ2 h0
  have hL : 1 ≤ c.lanes ∧ c.lanes ≤ 16 ∧ 1 ≤ c.shards ∧ c.shards ≤ 16 := by simp [Cfg.ok, inB] at hc; omega
  obtain ⟨L, hL1⟩ : ∃ L : Nat, c.lanes = L := ⟨c.lanes.toNat, by omega⟩
  obtain ⟨S, hS1⟩ : ∃ S : Nat, c.shards = S := ⟨c.shards.toNat, by omega⟩
  have H := Lib.hid h
  have hst := h.st (fun h => h)
  unfold storyC SL.v ptrV at hst
  try simp only at hst
  rw [hL1, hS1] at hst hL
  simp only [Int.toNat_natCast] at hst
  rw [hS1] at hi1
  obtain ⟨hqb, hql⟩ := h.qb (fun h => h)
  have hsl : s.qs.length = S := by have := hi.ql; omega
  obtain ⟨q, hq⟩ : ∃ q, s.qs[i]? = some q := ⟨_, List.getElem?_eq_getElem (by omega)⟩
  obtain ⟨⟨Aq, nq, cq⟩, hl⟩ : ∃ l, x.QA[i]? = some l := ⟨_, List.getElem?_eq_getElem (by omega)⟩
  obtain ⟨hT, hA⟩ := h.qw i q _ hq hl (fun h => h)
  simp only at hT hA
  have hlen := hT.len
  have hqc : (x.QA.map SL.v).toArray[i]? = some (.slice Aq nq cq) := by simp [hl, SL.v]
  obtain ⟨W0, hW0⟩ : ∃ W0, W0 = w.alloc (.cells #[.int .i64 0, .int .u8 0, .int .i64 0, .int .i64 0, .int .i64 0, .int .i64 0] 51) := ⟨_, rfl⟩
  have hb0 : Below w.heap.size w W0 := hW0 ▸ (Below.refl _ _).alloc (Nat.le_refl _) _
  have hS0 := h.below hb0 (fun h => h) (fun h => h)
  have c13 : ∀ o, (w.alloc o).cell? ⟨a.g, 13, none⟩ = some (.slice (some ⟨a.qb, 0, none⟩) S S) := fun o => blk_cell ((Below.heap_alloc _ _ _ (blk_lt hst)).trans hst) 13
  have cq0 : ∀ o, (w.alloc o).cell? ⟨a.qb, i, none⟩ = some (.slice Aq nq cq) := fun o => (blk_cell ((Below.heap_alloc _ _ _ (blk_lt hqb)).trans hqb) i).trans hqc
  have hiL : (i : Int) < (S : Int) := by omega
  obtain ⟨R, hR⟩ : ∃ R, R = s.owner i := ⟨_, rfl⟩
  rw [← hR]
  unfold TS.owner at hR
  unfold ptrV
  rw [hq] at hR
  have HW0 := Lib.hid hW0
  have HS0 := Lib.hid hS0
  have HB0 := Lib.hid hb0
  have HI := Lib.hid hi
  have HT := Lib.hid hT
  have HA := Lib.hid hA
  have Hq := Lib.hid hq
  have Hl := Lib.hid hl
  have HL := Lib.hid (And.intro hL1 hS1)
  have Hst := Lib.hid hst
  have Hqb := Lib.hid hqb
  have hS0 := hS0.lo
  clear h hi hc hst hqb hql hsl hT hA hq hl hL1 hS1 hqc hb0 hS0
  cases q with
  | nil =>
    have hn0 : nq = 0 := by rw [← hlen]; rfl
    subst hn0
    have HR : Hid (R = ((0, ev0, false), s)) := Lib.hid hR
    clear hR
    go_enter Tryz.func41, Tryz.ntmps41
    go_wp2_with fail
    refine bodyPost_ret (v := .tuple #[.int .u8 0, ev0.v, .bool false]) (by simp [results, Tryz.results41, go_sem, Ev.v, ev0]) rfl ⟨φ0, _, by rw [HR.out], Hφ1.out, by rw [HR.out, ← HW0.out]; exact HS0.out, by rw [← HW0.out]; exact HB0.out.mono H.out.lo⟩
  | cons p r =>
    have hnq : nq = r.length + 1 := by rw [← hlen]; rfl
    subst hnq
    obtain ⟨b, off, y, rfl, hbl, hx, hc⟩ := HT.out.row.at_ (i := 0) (by omega)
    have hy : y = p := by simp at hx; exact hx.symm
    subst hy
    have x0 : ∀ o, (w.alloc o).cell? ⟨b, off, none⟩ = some (.int .i64 y.1) := fun o => by
      have := hc 0 _ rfl
      simp only [Nat.zero_mul, Nat.add_zero] at this
      exact (((Below.refl w.heap.size w).alloc (Nat.le_refl _) o).cell (p := ⟨b, off, none⟩) hbl).trans this
    have x1 : ∀ o, (w.alloc o).cell? ⟨b, off + 1, none⟩ = some (.int .i64 y.2) := fun o => by
      have := hc 1 _ rfl
      simp only [Nat.zero_mul, Nat.add_zero] at this
      exact (((Below.refl w.heap.size w).alloc (Nat.le_refl _) o).cell (p := ⟨b, off + 1, none⟩) hbl).trans this
    clear hx hc
    obtain ⟨y1, y2⟩ := y
    have HR0 := Lib.hid hR
    clear hR
    have hpop := HT.out.pop
    have HP := Lib.hid hpop
    have hcap := HT.out.le
    clear hpop
    obtain ⟨W1, hW1⟩ : ∃ W1, W1 = W0.alloc (.cells #[.int .i64 y1, .int .i64 y2] 131) := ⟨_, rfl⟩
    have hb1 : Below W0.heap.size W0 W1 := hW1 ▸ (Below.refl _ _).alloc (Nat.le_refl _) _
    have hz0 : W0.heap.size = w.heap.size + 1 := by rw [HW0.out]; simp
    have HE1 : Hid (W1.heap[w.heap.size]? = some evBox) := Lib.hid ((hb1.block _ (by omega)).trans (HW0.out ▸ blk_new _ _))
    have HA1 : Hid (W1.heap[w.heap.size + 1]? = some (.cells #[.int .i64 y1, .int .i64 y2] 131 (0, 0))) := Lib.hid (by rw [hW1, ← hz0]; exact blk_new _ _)
    have HS1 := Lib.hid (HS0.out.below hb1 (fun h => h) (fun h => h))
    have HB1 : Hid (Below Bo w W1) := Lib.hid ((HB0.out.mono H.out.lo).trans (hb1.mono HS0.out.lo))
    have d13 : W1.cell? ⟨a.g, 13, none⟩ = some (.slice (some ⟨a.qb, 0, none⟩) S S) := by
      have := HS1.out.st (fun h => h)
      unfold storyC at this
      rw [HL.out.1, HL.out.2] at this
      simp only [Int.toNat_natCast] at this
      exact blk_cell this 13
    have dq : W1.cell? ⟨a.qb, i, none⟩ = some (.slice (some ⟨b, off, none⟩) (r.length + 1) cq) := (blk_cell (HS1.out.qb (fun h => h)).1 i).trans (by simp [Hl.out, SL.v])
    have df : W1.frozen? ⟨a.qb, i, none⟩ = false := blk_frozen (HS1.out.qb (fun h => h)).1 i
    have hw1s : a.g < W1.heap.size ∧ a.qb < W1.heap.size := ⟨HS1.out.fst.2.2, HS1.out.fqb.2.2⟩
    have e13 : ∀ q : Ext W1, q.X.cell? ⟨a.g, 13, none⟩ = some (.slice (some ⟨a.qb, 0, none⟩) S S) := fun q => (q.h.cell (p := ⟨a.g, 13, none⟩) hw1s.1).trans d13
    have eq : ∀ q : Ext W1, q.X.cell? ⟨a.qb, i, none⟩ = some (.slice (some ⟨b, off, none⟩) (r.length + 1) cq) := fun q => (q.h.cell (p := ⟨a.qb, i, none⟩) hw1s.2).trans dq
    have HW1 := Lib.hid hW1
    rw [HW0.out] at hW1
    clear hb1 hz0
    go_enter Tryz.func41, Tryz.ntmps41
    go_wp2_with fail
    rw [← hW1]
    clear hW1 c13 cq0 x0 x1
    have hr1 : (1 : Int) ≤ (r.length : Int) + 1 := by omega
    by_cases hc1 : cq = 1
    · have hr0 : Hid (r = []) := Lib.hid (List.eq_nil_of_length_eq_zero (by omega))
      obtain ⟨A1, n1, c1, hA1, hn1, hcc⟩ : ∃ (A1 : Option Addr) (n1 c1 : Nat), A1 = some ⟨b, off, none⟩ ∧ n1 = r.length ∧ c1 = 0 := ⟨_, _, _, rfl, rfl, rfl⟩
      have HT1 : Hid (TkAt askC 2 131 w Bo A1 n1 c1 r) := Lib.hid (by rw [hA1, hn1, hcc]; have := HP.out; rw [if_pos hc1, hc1] at this; exact this)
      have HAq : Hid (At φ0 (100 + 2 * i) A1) := Lib.hid (by rw [hA1]; exact HA.out)
      have HX := Lib.hid (And.intro hA1 (And.intro hn1 hcc))
      clear hA1 hn1 hcc
      refine wp_region_ext_tail 14 (by kernel_rfl) (by kernel_rfl) ?_
      simp only [List.take_succ_cons, List.take_zero, List.drop_succ_cons, List.drop_zero]
      repeat (go_big_quiet_step (fail))
      refine Ext.tail fun X hX => ?_
      have hsl : Value.slice (some ⟨b, off, none⟩) r.length 0 = Value.slice A1 n1 c1 := by rw [HX.out.1, HX.out.2.1, HX.out.2.2]
      rw [hsl]
      have dX : X.cell? ⟨a.qb, i, none⟩ = some (.slice (some ⟨b, off, none⟩) (r.length + 1) cq) := (hX.cell (p := ⟨a.qb, i, none⟩) hw1s.2).trans dq
      have df : X.frozen? ⟨a.qb, i, none⟩ = false := blk_frozen ((hX.block _ hw1s.2).trans (HS1.out.qb (fun h => h)).1) i
      obtain ⟨W2, hW2⟩ : ∃ W2, W2 = X.setCell ⟨a.qb, i, none⟩ (.slice A1 n1 c1) := ⟨_, rfl⟩
      have hTw : TkAt askC 2 131 X Bo A1 n1 c1 r := by
        have h1 : TkAt askC 2 131 W1 Bo A1 n1 c1 r := by rw [HW1.out]; exact (HT1.out.below HB0.out).below ((Below.refl _ _).alloc (Nat.le_refl _) _)
        exact h1.below hX
      have HS2 := Lib.hid (show StAt W2 φ0 Bo c rs rs' by_ a { x with QA := x.QA.set i ⟨A1, n1, c1⟩ } { s with qs := s.qs.set i r } from hW2 ▸ (HS1.out.below hX (fun h => h) (fun h => h)).setQ (fun _ h => h.elim) hTw HAq.out)
      have hk2 : Kept W1 W2 (fun q => q = a.qb) := hW2 ▸ (Kept.of_below hX).trans ((Kept.refl X (fun q => q = a.qb)).setCell (p := ⟨a.qb, i, none⟩) (Or.inl rfl) _)
      clear e13 eq hX hsl
      have HB2 : Hid (Below Bo W1 W2) := Lib.hid (hk2.below HS1.out.lo (fun q e => by rw [e]; exact HS1.out.fqb.2.1))
      have HE2 : Hid (W2.heap[w.heap.size]? = some evBox) := Lib.hid (hk2.blk HE1.out (blk_lt HE1.out) (by have := H.out.fqb.2.2; omega))
      have HA2 : Hid (W2.heap[w.heap.size + 1]? = some (.cells #[.int .i64 y1, .int .i64 y2] 131 (0, 0))) := Lib.hid (hk2.blk HA1.out (blk_lt HA1.out) (by have := H.out.fqb.2.2; omega))
      have b0 : (X.setCell ⟨a.qb, i, none⟩ (.slice A1 n1 c1)).cell? ⟨w.heap.size + 1, 0, none⟩ = some (.int .i64 y1) := by rw [← hW2]; exact blk_cell HA2.out 0
      have hqw := (HI.out.qw _ (List.mem_of_getElem? Hq.out)).2 (y1, y2) (by simp)
      simp only [HL.out.1] at hqw
      clear hk2 hTw d13 dq
      by_cases hy : 0 < y1
      · have hyL : y1 ≤ (L : Int) := by rcases hqw with h | h; exact h.2; omega
        obtain ⟨j, hj⟩ : ∃ j : Nat, y1 = (j : Int) + 1 := ⟨(y1 - 1).toNat, by omega⟩
        subst hj
        have HR : Hid (R = ((7, ⟨0, 0, y2, i, 0, 0⟩, true), { s with qs := s.qs.set i r, lanes := s.lanes.modify j fun h => { h with ack := h.ack + 1 } })) := Lib.hid (by
          have := HR0.out
          simp only [if_pos hy] at this
          rw [this, show ((j : Int) + 1 - 1).toNat = j by omega])
        have hjL : (j : Int) < (L : Int) := by omega
        have hj0 : (0 : Int) ≤ (j : Int) := by omega
        have hll := HI.out.ll
        obtain ⟨hh, hhj⟩ : ∃ hh, s.lanes[j]? = some hh := ⟨_, List.getElem?_eq_getElem (by rw [HL.out.1] at hll; omega)⟩
        obtain ⟨ll, hlj⟩ : ∃ ll, x.LA[j]? = some ll := ⟨_, List.getElem?_eq_getElem (by have := (H.out.lw (fun h => h)).1; rw [HL.out.1] at hll; omega)⟩
        have hack := (HI.out.lw hh (List.mem_of_getElem? hhj)).2.2.1
        have d12 : W2.cell? ⟨a.g, 12, none⟩ = some (.slice (some ⟨a.ln, 0, none⟩) L L) := by
          have := HS2.out.st (fun h => h)
          unfold storyC at this
          rw [HL.out.1, HL.out.2] at this
          simp only [Int.toNat_natCast] at this
          exact blk_cell this 12
        have hlnb := HS2.out.ln (fun h => h)
        simp only at hlnb
        have dl : W2.cell? ⟨a.ln, j * 4 + 3, none⟩ = some (.int .i64 hh.ack) := (blk_cell hlnb _).trans (by simpa using lanes_get hhj hlj (j := 3) rfl)
        have df : W2.frozen? ⟨a.ln, j * 4 + 3, none⟩ = false := blk_frozen hlnb _
        have hw1 : IntKind.i64.wrap ((j : Int) + 1 - 1) = j := by rw [IntKind.wrap_i64]; omega
        have hw2 : IntKind.i64.wrap ((hh.ack : Int) + 1) = hh.ack + 1 := by rw [IntKind.wrap_i64]; omega
        have e12 : ∀ q : Ext W2, q.X.cell? ⟨a.g, 12, none⟩ = some (.slice (some ⟨a.ln, 0, none⟩) L L) := fun q => (q.h.cell (p := ⟨a.g, 12, none⟩) HS2.out.fst.2.2).trans d12
        have el : ∀ q : Ext W2, q.X.cell? ⟨a.ln, j * 4 + 3, none⟩ = some (.int .i64 hh.ack) := fun q => (q.h.cell (p := ⟨a.ln, j * 4 + 3, none⟩) HS2.out.fln.2.2).trans dl
        have eb : ∀ q : Ext W2, q.X.cell? ⟨w.heap.size + 1, 0, none⟩ = some (.int .i64 ((j : Int) + 1)) := fun q => (q.h.cell (p := ⟨w.heap.size + 1, 0, none⟩) (blk_lt HA2.out)).trans (blk_cell HA2.out 0)
        go_wp2_with fail
        rw [← hW2]
        clear hW2 b0
        refine wp_region_ext_tail 13 (by kernel_rfl) (by kernel_rfl) ?_
        simp only [List.take_succ_cons, List.take_zero, List.drop_succ_cons, List.drop_zero]
        repeat (go_big_quiet_step (fail))
        refine Ext.tail fun Y hY => ?_
        have dY : Y.cell? ⟨a.ln, j * 4 + 3, none⟩ = some (.int .i64 hh.ack) := el ⟨Y, hY⟩
        have fY : Y.frozen? ⟨a.ln, j * 4 + 3, none⟩ = false := blk_frozen ((hY.block _ HS2.out.fln.2.2).trans hlnb) _
        obtain ⟨W3, hW3⟩ : ∃ W3, W3 = Y.setCell ⟨a.ln, j * 4 + 3, none⟩ (.int .i64 ((hh.ack : Int) + 1)) := ⟨_, rfl⟩
        have hSY := HS2.out.below hY (fun h => h) (fun h => h)
        have hk3 : Kept Y W3 (fun q => q = a.ln) := hW3 ▸ (Kept.refl Y (fun q => q = a.ln)).setCell (p := ⟨a.ln, j * 4 + 3, none⟩) (Or.inl rfl) _
        have hmd : s.lanes.modify j (fun h => { h with ack := h.ack + 1 }) = s.lanes.set j { hh with ack := hh.ack + 1 } := modify_set hhj
        have HS3 := Lib.hid (hSY.setLane (i := j) (h' := { hh with ack := hh.ack + 1 }) (l' := ll) (hk3.mono fun q e => by rw [e]; exact H.out.fln.1) (by
          rw [hW3, blk_set ((hY.block _ HS2.out.fln.2.2).trans hlnb)]
          have := lanes_set hhj hlj (j := 3) (v := .int .i64 ((hh.ack : Int) + 1)) (h' := { hh with ack := hh.ack + 1 }) (l' := ll) (by omega) (by simp [laneC])
          rw [← this, List.setIfInBounds_toArray]) ((((hSY.lw (fun h => h)).2 j hh ll hhj hlj).1.kept hk3 (fun ad e e2 => by
            have h1 := ((hSY.lw (fun h => h)).2 j hh ll hhj hlj).2 ad e
            rw [e2, H.out.fln.1] at h1; omega))) ((hSY.lw (fun h => h)).2 j hh ll hhj hlj).2)
        have HB3 : Hid (Below Bo W2 W3) := Lib.hid ((hY.mono HS2.out.lo).trans (hk3.below (Nat.le_trans HS2.out.lo hY.size) (fun q e => by rw [e]; exact H.out.fln.2.1)))
        have hk4 : Kept W2 W3 (fun q => q = a.ln) := (Kept.of_below hY).trans hk3
        have HE3 : Hid (W3.heap[w.heap.size]? = some evBox) := Lib.hid (hk4.blk HE2.out (blk_lt HE2.out) (by have := H.out.fln.2.2; omega))
        have HA3 : Hid (W3.heap[w.heap.size + 1]? = some (.cells #[.int .i64 ((j : Int) + 1), .int .i64 y2] 131 (0, 0))) := Lib.hid (hk4.blk HA2.out (blk_lt HA2.out) (by have := H.out.fln.2.2; omega))
        rw [← hmd] at HS3
        clear hSY hk3 hk4 hmd e12 el eb hlnb d12 dl df
        go_wp2_with fail
        rw [← hW3]
        clear hW3
        have hE5 := HE3.out
        have g0 := blk_cell hE5 0
        have g1 := blk_cell hE5 1
        have g2 := blk_cell hE5 2
        have g3 := blk_cell hE5 3
        have g4 := blk_cell hE5 4
        have g5 := blk_cell hE5 5
        have k0 := blk_frozen hE5 0
        have k1 := blk_frozen hE5 1
        have k2 := blk_frozen hE5 2
        have k3 := blk_frozen hE5 3
        have k4 := blk_frozen hE5 4
        have k5 := blk_frozen hE5 5
        have a1 : W3.cell? ⟨w.heap.size + 1, 1, none⟩ = some (.int .i64 y2) := blk_cell HA3.out 1
        clear hE5
        go_region
        obtain ⟨X0, hX0⟩ : ∃ X0, X0 = (((((W3.setCell ⟨w.heap.size, 0, none⟩ (.int .i64 0)).setCell ⟨w.heap.size, 1, none⟩ (.int .u8 0)).setCell ⟨w.heap.size, 2, none⟩ (.int .i64 y2)).setCell ⟨w.heap.size, 3, none⟩ (.int .i64 i)).setCell ⟨w.heap.size, 4, none⟩ (.int .i64 0)).setCell ⟨w.heap.size, 5, none⟩ (.int .i64 0) := ⟨_, rfl⟩
        rw [← hX0]
        obtain ⟨hXk, r0, r1, r2, r3, r4, r5⟩ := ev_box HE3.out rfl _ _ _ _ _ _ hX0
        obtain ⟨X1, hX1⟩ : ∃ X1, X1 = X0.drew := ⟨_, rfl⟩
        rw [← hX1]
        replace hXk : Kept W3 X1 (fun q => q = w.heap.size) := hX1 ▸ hXk.trans (Kept.of_below (bel_drew (Below.refl _ _)))
        replace r0 : X1.cell? ⟨w.heap.size, 0, none⟩ = some (.int .i64 0) := hX1 ▸ r0
        replace r1 : X1.cell? ⟨w.heap.size, 1, none⟩ = some (.int .u8 0) := hX1 ▸ r1
        replace r2 : X1.cell? ⟨w.heap.size, 2, none⟩ = some (.int .i64 y2) := hX1 ▸ r2
        replace r3 : X1.cell? ⟨w.heap.size, 3, none⟩ = some (.int .i64 i) := hX1 ▸ r3
        replace r4 : X1.cell? ⟨w.heap.size, 4, none⟩ = some (.int .i64 0) := hX1 ▸ r4
        replace r5 : X1.cell? ⟨w.heap.size, 5, none⟩ = some (.int .i64 0) := hX1 ▸ r5
        have hBX : Below Bo w X1 := ((HB1.out.trans HB2.out).trans HB3.out).trans (hXk.below HS3.out.lo (fun q e => by rw [e]; exact H.out.lo))
        have hSX := HS3.out.junk (hXk.mono fun q e => by rw [e]; exact Hφ2.out _ (Nat.le_refl _))
        clear hX0 hX1
        go_wp2_with fail
        refine bodyPost_ret (v := .tuple #[.int .u8 7, .agg #[.int .i64 0, .int .u8 0, .int .i64 y2, .int .i64 i, .int .i64 0, .int .i64 0], .bool true]) (by simp [results, Tryz.results41, go_sem, r0, r1, r2, r3, r4, r5]) rfl ⟨φ0, _, by rw [HR.out]; rfl, Hφ1.out, by rw [HR.out]; exact hSX, hBX⟩
      · have hyn : y1 < 0 ∧ (mget s.calls y1).isSome = true := by rcases hqw with h | h; exact absurd h.1 hy; exact h
        obtain ⟨v, hv⟩ := Option.isSome_iff_exists.1 hyn.2
        obtain ⟨p, hp⟩ : ∃ p, mget x.m y1 = some p := by
          have := (HS2.out.cb (fun h => h)).2 y1
          cases hm : mget x.m y1 with
          | none => rw [(this.2 hm)] at hv; cases hv
          | some p => exact ⟨p, rfl⟩
        obtain ⟨hpb, hpl, hpB⟩ := HS2.out.cw y1 p v hp hv (fun h => h)
        have hvb := HI.out.cw y1 v hv
        have d14 : W2.cell? ⟨a.g, 14, none⟩ = some (.map (some a.cb)) := blk_cell (HS2.out.st (fun h => h)) 14
        have dp : W2.cell? ⟨p, 0, none⟩ = some (.int .i64 v.1) := blk_cell hpb 0
        have e14 : ∀ q : Ext W2, q.X.cell? ⟨a.g, 14, none⟩ = some (.map (some a.cb)) := fun q => (q.h.cell (p := ⟨a.g, 14, none⟩) HS2.out.fst.2.2).trans d14
        have ep : ∀ q : Ext W2, q.X.cell? ⟨p, 0, none⟩ = some (.int .i64 v.1) := fun q => (q.h.cell (p := ⟨p, 0, none⟩) (blk_lt hpb)).trans dp
        have eb : ∀ q : Ext W2, q.X.cell? ⟨w.heap.size + 1, 0, none⟩ = some (.int .i64 y1) := fun q => (q.h.cell (p := ⟨w.heap.size + 1, 0, none⟩) (blk_lt HA2.out)).trans (blk_cell HA2.out 0)
        have elk : ∀ q : Ext W2, (Instr.lookup 63 (.map (some a.cb)) (.int .i64 y1) false).run Tryz.prog q.X = .ok (.pointer (some ⟨p, 0, none⟩)) q.X := fun q => by
          have := ((HS2.out.cb (fun h => h)).1.of_block (q.h.block _ (HS2.out.fcb.2.2))).run_lookup kint Tryz.underlying63 (zcalled _) y1 false
          simp only [hp, Option.map_some, Option.getD_some, Bool.false_eq_true, if_false] at this
          exact this
        have hw1 : IntKind.i64.wrap (v.1 - 1) = v.1 - 1 := by rw [IntKind.wrap_i64]; omega
        have HR : Hid (R = ((7, ⟨0, 0, y2, i, 0, 0⟩, true), { s with qs := s.qs.set i r, calls := mput s.calls y1 (v.1 - 1, v.2) })) := Lib.hid (by
          have := HR0.out
          simp only [if_neg hy, hv] at this
          exact this)
        have Hv := Lib.hid hv
        have Hp := Lib.hid hp
        have Hpb := Lib.hid hpb
        have Hpl := Lib.hid hpl
        have HpB := Lib.hid hpB
        have hy0 : y1 < 0 := hyn.1
        clear hyn hv hp hpb hpl hpB hqw d14 dp
        go_wp2_with fail
        rw [← hW2]
        clear hW2 b0
        refine wp_region_ext_tail 13 (by kernel_rfl) (by kernel_rfl) ?_
        simp only [List.take_succ_cons, List.take_zero, List.drop_succ_cons, List.drop_zero]
        repeat (go_big_quiet_step (fail))
        refine Ext.tail fun Y hY => ?_
        have hYp := (hY.block _ (blk_lt Hpb.out)).trans Hpb.out
        have dY : Y.cell? ⟨p, 0, none⟩ = some (.int .i64 v.1) := blk_cell hYp 0
        have fY : Y.frozen? ⟨p, 0, none⟩ = false := blk_frozen hYp _
        obtain ⟨W3, hW3⟩ : ∃ W3, W3 = Y.setCell ⟨p, 0, none⟩ (.int .i64 (v.1 - 1)) := ⟨_, rfl⟩
        have hSY := HS2.out.below hY (fun h => h) (fun h => h)
        have hk3 : Kept Y W3 (fun q => q = p) := hW3 ▸ (Kept.refl Y (fun q => q = p)).setCell (p := ⟨p, 0, none⟩) (Or.inl rfl) _
        have HS3 := Lib.hid (hSY.setCalled (fun t v h => (HI.out.cw t v h).1) (v' := (v.1 - 1, v.2)) Hp.out Hv.out hk3 (by rw [hW3]; exact blk_set hYp 0 _))
        have HB3 : Hid (Below Bo W2 W3) := Lib.hid ((hY.mono HS2.out.lo).trans (hk3.below (Nat.le_trans HS2.out.lo hY.size) (fun q e => by rw [e]; exact HpB.out)))
        have hk4 : Kept W2 W3 (fun q => q = p) := (Kept.of_below hY).trans hk3
        have hp5 : ∀ n, φ0 n = 50 → n ≠ p := fun n hn e => by rw [e, Hpl.out] at hn; omega
        have HE3 : Hid (W3.heap[w.heap.size]? = some evBox) := Lib.hid (hk4.blk HE2.out (blk_lt HE2.out) (hp5 _ (Hφ2.out _ (Nat.le_refl _))))
        have HA3 : Hid (W3.heap[w.heap.size + 1]? = some (.cells #[.int .i64 y1, .int .i64 y2] 131 (0, 0))) := Lib.hid (hk4.blk HA2.out (blk_lt HA2.out) (hp5 _ (Hφ2.out _ (by omega))))
        clear hSY hk3 hk4 e14 ep eb elk hYp hp5
        go_wp2_with fail
        rw [← hW3]
        clear hW3
        have hE5 := HE3.out
        have g0 := blk_cell hE5 0
        have g1 := blk_cell hE5 1
        have g2 := blk_cell hE5 2
        have g3 := blk_cell hE5 3
        have g4 := blk_cell hE5 4
        have g5 := blk_cell hE5 5
        have k0 := blk_frozen hE5 0
        have k1 := blk_frozen hE5 1
        have k2 := blk_frozen hE5 2
        have k3 := blk_frozen hE5 3
        have k4 := blk_frozen hE5 4
        have k5 := blk_frozen hE5 5
        have a1 : W3.cell? ⟨w.heap.size + 1, 1, none⟩ = some (.int .i64 y2) := blk_cell HA3.out 1
        clear hE5
        go_region
        obtain ⟨X0, hX0⟩ : ∃ X0, X0 = (((((W3.setCell ⟨w.heap.size, 0, none⟩ (.int .i64 0)).setCell ⟨w.heap.size, 1, none⟩ (.int .u8 0)).setCell ⟨w.heap.size, 2, none⟩ (.int .i64 y2)).setCell ⟨w.heap.size, 3, none⟩ (.int .i64 i)).setCell ⟨w.heap.size, 4, none⟩ (.int .i64 0)).setCell ⟨w.heap.size, 5, none⟩ (.int .i64 0) := ⟨_, rfl⟩
        rw [← hX0]
        obtain ⟨hXk, r0, r1, r2, r3, r4, r5⟩ := ev_box HE3.out rfl _ _ _ _ _ _ hX0
        obtain ⟨X1, hX1⟩ : ∃ X1, X1 = X0.drew := ⟨_, rfl⟩
        rw [← hX1]
        replace hXk : Kept W3 X1 (fun q => q = w.heap.size) := hX1 ▸ hXk.trans (Kept.of_below (bel_drew (Below.refl _ _)))
        replace r0 : X1.cell? ⟨w.heap.size, 0, none⟩ = some (.int .i64 0) := hX1 ▸ r0
        replace r1 : X1.cell? ⟨w.heap.size, 1, none⟩ = some (.int .u8 0) := hX1 ▸ r1
        replace r2 : X1.cell? ⟨w.heap.size, 2, none⟩ = some (.int .i64 y2) := hX1 ▸ r2
        replace r3 : X1.cell? ⟨w.heap.size, 3, none⟩ = some (.int .i64 i) := hX1 ▸ r3
        replace r4 : X1.cell? ⟨w.heap.size, 4, none⟩ = some (.int .i64 0) := hX1 ▸ r4
        replace r5 : X1.cell? ⟨w.heap.size, 5, none⟩ = some (.int .i64 0) := hX1 ▸ r5
        have hBX : Below Bo w X1 := ((HB1.out.trans HB2.out).trans HB3.out).trans (hXk.below HS3.out.lo (fun q e => by rw [e]; exact H.out.lo))
        have hSX := HS3.out.junk (hXk.mono fun q e => by rw [e]; exact Hφ2.out _ (Nat.le_refl _))
        clear hX0 hX1
        go_wp2_with fail
        refine bodyPost_ret (v := .tuple #[.int .u8 7, .agg #[.int .i64 0, .int .u8 0, .int .i64 y2, .int .i64 i, .int .i64 0, .int .i64 0], .bool true]) (by simp [results, Tryz.results41, go_sem, r0, r1, r2, r3, r4, r5]) rfl ⟨φ0, _, by rw [HR.out]; rfl, Hφ1.out, by rw [HR.out]; exact hSX, hBX⟩
    · obtain ⟨A1, n1, c1, hA1, hn1, hcc⟩ : ∃ (A1 : Option Addr) (n1 c1 : Nat), A1 = some ⟨b, off + 2, none⟩ ∧ n1 = r.length ∧ c1 = cq - 1 := ⟨_, _, _, rfl, rfl, rfl⟩
      have HT1 : Hid (TkAt askC 2 131 w Bo A1 n1 c1 r) := Lib.hid (by rw [hA1, hn1, hcc]; have := HP.out; rw [if_neg hc1] at this; simpa [Addr.add_lit] using this)
      have HAq : Hid (At φ0 (100 + 2 * i) A1) := Lib.hid (by rw [hA1]; intro q e; injection e with e; subst e; have := HA.out ⟨b, off, none⟩ rfl; exact this)
      have HX := Lib.hid (And.intro hA1 (And.intro hn1 hcc))
      clear hA1 hn1 hcc
      refine wp_region_ext_tail 14 (by kernel_rfl) (by kernel_rfl) ?_
      simp only [List.take_succ_cons, List.take_zero, List.drop_succ_cons, List.drop_zero]
      repeat (go_big_quiet_step (fail))
      refine Ext.tail fun X hX => ?_
      have hsl : Value.slice (some ⟨b, off + 2, none⟩) r.length (cq - 1) = Value.slice A1 n1 c1 := by rw [HX.out.1, HX.out.2.1, HX.out.2.2]
      rw [hsl]
      have dX : X.cell? ⟨a.qb, i, none⟩ = some (.slice (some ⟨b, off, none⟩) (r.length + 1) cq) := (hX.cell (p := ⟨a.qb, i, none⟩) hw1s.2).trans dq
      have df : X.frozen? ⟨a.qb, i, none⟩ = false := blk_frozen ((hX.block _ hw1s.2).trans (HS1.out.qb (fun h => h)).1) i
      obtain ⟨W2, hW2⟩ : ∃ W2, W2 = X.setCell ⟨a.qb, i, none⟩ (.slice A1 n1 c1) := ⟨_, rfl⟩
      have hTw : TkAt askC 2 131 X Bo A1 n1 c1 r := by
        have h1 : TkAt askC 2 131 W1 Bo A1 n1 c1 r := by rw [HW1.out]; exact (HT1.out.below HB0.out).below ((Below.refl _ _).alloc (Nat.le_refl _) _)
        exact h1.below hX
      have HS2 := Lib.hid (show StAt W2 φ0 Bo c rs rs' by_ a { x with QA := x.QA.set i ⟨A1, n1, c1⟩ } { s with qs := s.qs.set i r } from hW2 ▸ (HS1.out.below hX (fun h => h) (fun h => h)).setQ (fun _ h => h.elim) hTw HAq.out)
      have hk2 : Kept W1 W2 (fun q => q = a.qb) := hW2 ▸ (Kept.of_below hX).trans ((Kept.refl X (fun q => q = a.qb)).setCell (p := ⟨a.qb, i, none⟩) (Or.inl rfl) _)
      clear e13 eq hX hsl
      have HB2 : Hid (Below Bo W1 W2) := Lib.hid (hk2.below HS1.out.lo (fun q e => by rw [e]; exact HS1.out.fqb.2.1))
      have HE2 : Hid (W2.heap[w.heap.size]? = some evBox) := Lib.hid (hk2.blk HE1.out (blk_lt HE1.out) (by have := H.out.fqb.2.2; omega))
      have HA2 : Hid (W2.heap[w.heap.size + 1]? = some (.cells #[.int .i64 y1, .int .i64 y2] 131 (0, 0))) := Lib.hid (hk2.blk HA1.out (blk_lt HA1.out) (by have := H.out.fqb.2.2; omega))
      have b0 : (X.setCell ⟨a.qb, i, none⟩ (.slice A1 n1 c1)).cell? ⟨w.heap.size + 1, 0, none⟩ = some (.int .i64 y1) := by rw [← hW2]; exact blk_cell HA2.out 0
      have hqw := (HI.out.qw _ (List.mem_of_getElem? Hq.out)).2 (y1, y2) (by simp)
      simp only [HL.out.1] at hqw
      clear hk2 hTw d13 dq
      by_cases hy : 0 < y1
      · have hyL : y1 ≤ (L : Int) := by rcases hqw with h | h; exact h.2; omega
        obtain ⟨j, hj⟩ : ∃ j : Nat, y1 = (j : Int) + 1 := ⟨(y1 - 1).toNat, by omega⟩
        subst hj
        have HR : Hid (R = ((7, ⟨0, 0, y2, i, 0, 0⟩, true), { s with qs := s.qs.set i r, lanes := s.lanes.modify j fun h => { h with ack := h.ack + 1 } })) := Lib.hid (by
          have := HR0.out
          simp only [if_pos hy] at this
          rw [this, show ((j : Int) + 1 - 1).toNat = j by omega])
        have hjL : (j : Int) < (L : Int) := by omega
        have hj0 : (0 : Int) ≤ (j : Int) := by omega
        have hll := HI.out.ll
        obtain ⟨hh, hhj⟩ : ∃ hh, s.lanes[j]? = some hh := ⟨_, List.getElem?_eq_getElem (by rw [HL.out.1] at hll; omega)⟩
        obtain ⟨ll, hlj⟩ : ∃ ll, x.LA[j]? = some ll := ⟨_, List.getElem?_eq_getElem (by have := (H.out.lw (fun h => h)).1; rw [HL.out.1] at hll; omega)⟩
        have hack := (HI.out.lw hh (List.mem_of_getElem? hhj)).2.2.1
        have d12 : W2.cell? ⟨a.g, 12, none⟩ = some (.slice (some ⟨a.ln, 0, none⟩) L L) := by
          have := HS2.out.st (fun h => h)
          unfold storyC at this
          rw [HL.out.1, HL.out.2] at this
          simp only [Int.toNat_natCast] at this
          exact blk_cell this 12
        have hlnb := HS2.out.ln (fun h => h)
        simp only at hlnb
        have dl : W2.cell? ⟨a.ln, j * 4 + 3, none⟩ = some (.int .i64 hh.ack) := (blk_cell hlnb _).trans (by simpa using lanes_get hhj hlj (j := 3) rfl)
        have df : W2.frozen? ⟨a.ln, j * 4 + 3, none⟩ = false := blk_frozen hlnb _
        have hw1 : IntKind.i64.wrap ((j : Int) + 1 - 1) = j := by rw [IntKind.wrap_i64]; omega
        have hw2 : IntKind.i64.wrap ((hh.ack : Int) + 1) = hh.ack + 1 := by rw [IntKind.wrap_i64]; omega
        have e12 : ∀ q : Ext W2, q.X.cell? ⟨a.g, 12, none⟩ = some (.slice (some ⟨a.ln, 0, none⟩) L L) := fun q => (q.h.cell (p := ⟨a.g, 12, none⟩) HS2.out.fst.2.2).trans d12
        have el : ∀ q : Ext W2, q.X.cell? ⟨a.ln, j * 4 + 3, none⟩ = some (.int .i64 hh.ack) := fun q => (q.h.cell (p := ⟨a.ln, j * 4 + 3, none⟩) HS2.out.fln.2.2).trans dl
        have eb : ∀ q : Ext W2, q.X.cell? ⟨w.heap.size + 1, 0, none⟩ = some (.int .i64 ((j : Int) + 1)) := fun q => (q.h.cell (p := ⟨w.heap.size + 1, 0, none⟩) (blk_lt HA2.out)).trans (blk_cell HA2.out 0)
        go_wp2_with fail
        rw [← hW2]
        clear hW2 b0
        refine wp_region_ext_tail 13 (by kernel_rfl) (by kernel_rfl) ?_
        simp only [List.take_succ_cons, List.take_zero, List.drop_succ_cons, List.drop_zero]
        repeat (go_big_quiet_step (fail))
        refine Ext.tail fun Y hY => ?_
        have dY : Y.cell? ⟨a.ln, j * 4 + 3, none⟩ = some (.int .i64 hh.ack) := el ⟨Y, hY⟩
        have fY : Y.frozen? ⟨a.ln, j * 4 + 3, none⟩ = false := blk_frozen ((hY.block _ HS2.out.fln.2.2).trans hlnb) _
        obtain ⟨W3, hW3⟩ : ∃ W3, W3 = Y.setCell ⟨a.ln, j * 4 + 3, none⟩ (.int .i64 ((hh.ack : Int) + 1)) := ⟨_, rfl⟩
        have hSY := HS2.out.below hY (fun h => h) (fun h => h)
        have hk3 : Kept Y W3 (fun q => q = a.ln) := hW3 ▸ (Kept.refl Y (fun q => q = a.ln)).setCell (p := ⟨a.ln, j * 4 + 3, none⟩) (Or.inl rfl) _
        have hmd : s.lanes.modify j (fun h => { h with ack := h.ack + 1 }) = s.lanes.set j { hh with ack := hh.ack + 1 } := modify_set hhj
        have HS3 := Lib.hid (hSY.setLane (i := j) (h' := { hh with ack := hh.ack + 1 }) (l' := ll) (hk3.mono fun q e => by rw [e]; exact H.out.fln.1) (by
          rw [hW3, blk_set ((hY.block _ HS2.out.fln.2.2).trans hlnb)]
          have := lanes_set hhj hlj (j := 3) (v := .int .i64 ((hh.ack : Int) + 1)) (h' := { hh with ack := hh.ack + 1 }) (l' := ll) (by omega) (by simp [laneC])
          rw [← this, List.setIfInBounds_toArray]) ((((hSY.lw (fun h => h)).2 j hh ll hhj hlj).1.kept hk3 (fun ad e e2 => by
            have h1 := ((hSY.lw (fun h => h)).2 j hh ll hhj hlj).2 ad e
            rw [e2, H.out.fln.1] at h1; omega))) ((hSY.lw (fun h => h)).2 j hh ll hhj hlj).2)
        have HB3 : Hid (Below Bo W2 W3) := Lib.hid ((hY.mono HS2.out.lo).trans (hk3.below (Nat.le_trans HS2.out.lo hY.size) (fun q e => by rw [e]; exact H.out.fln.2.1)))
        have hk4 : Kept W2 W3 (fun q => q = a.ln) := (Kept.of_below hY).trans hk3
        have HE3 : Hid (W3.heap[w.heap.size]? = some evBox) := Lib.hid (hk4.blk HE2.out (blk_lt HE2.out) (by have := H.out.fln.2.2; omega))
        have HA3 : Hid (W3.heap[w.heap.size + 1]? = some (.cells #[.int .i64 ((j : Int) + 1), .int .i64 y2] 131 (0, 0))) := Lib.hid (hk4.blk HA2.out (blk_lt HA2.out) (by have := H.out.fln.2.2; omega))
        rw [← hmd] at HS3
        clear hSY hk3 hk4 hmd e12 el eb hlnb d12 dl df
        go_wp2_with fail
        rw [← hW3]
        clear hW3
        have hE5 := HE3.out
        have g0 := blk_cell hE5 0
        have g1 := blk_cell hE5 1
        have g2 := blk_cell hE5 2
        have g3 := blk_cell hE5 3
        have g4 := blk_cell hE5 4
        have g5 := blk_cell hE5 5
        have k0 := blk_frozen hE5 0
        have k1 := blk_frozen hE5 1
        have k2 := blk_frozen hE5 2
        have k3 := blk_frozen hE5 3
        have k4 := blk_frozen hE5 4
        have k5 := blk_frozen hE5 5
        have a1 : W3.cell? ⟨w.heap.size + 1, 1, none⟩ = some (.int .i64 y2) := blk_cell HA3.out 1
        clear hE5
        go_region
        obtain ⟨X0, hX0⟩ : ∃ X0, X0 = (((((W3.setCell ⟨w.heap.size, 0, none⟩ (.int .i64 0)).setCell ⟨w.heap.size, 1, none⟩ (.int .u8 0)).setCell ⟨w.heap.size, 2, none⟩ (.int .i64 y2)).setCell ⟨w.heap.size, 3, none⟩ (.int .i64 i)).setCell ⟨w.heap.size, 4, none⟩ (.int .i64 0)).setCell ⟨w.heap.size, 5, none⟩ (.int .i64 0) := ⟨_, rfl⟩
        rw [← hX0]
        obtain ⟨hXk, r0, r1, r2, r3, r4, r5⟩ := ev_box HE3.out rfl _ _ _ _ _ _ hX0
        obtain ⟨X1, hX1⟩ : ∃ X1, X1 = X0.drew := ⟨_, rfl⟩
        rw [← hX1]
        replace hXk : Kept W3 X1 (fun q => q = w.heap.size) := hX1 ▸ hXk.trans (Kept.of_below (bel_drew (Below.refl _ _)))
        replace r0 : X1.cell? ⟨w.heap.size, 0, none⟩ = some (.int .i64 0) := hX1 ▸ r0
        replace r1 : X1.cell? ⟨w.heap.size, 1, none⟩ = some (.int .u8 0) := hX1 ▸ r1
        replace r2 : X1.cell? ⟨w.heap.size, 2, none⟩ = some (.int .i64 y2) := hX1 ▸ r2
        replace r3 : X1.cell? ⟨w.heap.size, 3, none⟩ = some (.int .i64 i) := hX1 ▸ r3
        replace r4 : X1.cell? ⟨w.heap.size, 4, none⟩ = some (.int .i64 0) := hX1 ▸ r4
        replace r5 : X1.cell? ⟨w.heap.size, 5, none⟩ = some (.int .i64 0) := hX1 ▸ r5
        have hBX : Below Bo w X1 := ((HB1.out.trans HB2.out).trans HB3.out).trans (hXk.below HS3.out.lo (fun q e => by rw [e]; exact H.out.lo))
        have hSX := HS3.out.junk (hXk.mono fun q e => by rw [e]; exact Hφ2.out _ (Nat.le_refl _))
        clear hX0 hX1
        go_wp2_with fail
        refine bodyPost_ret (v := .tuple #[.int .u8 7, .agg #[.int .i64 0, .int .u8 0, .int .i64 y2, .int .i64 i, .int .i64 0, .int .i64 0], .bool true]) (by simp [results, Tryz.results41, go_sem, r0, r1, r2, r3, r4, r5]) rfl ⟨φ0, _, by rw [HR.out]; rfl, Hφ1.out, by rw [HR.out]; exact hSX, hBX⟩
      · have hyn : y1 < 0 ∧ (mget s.calls y1).isSome = true := by rcases hqw with h | h; exact absurd h.1 hy; exact h
        obtain ⟨v, hv⟩ := Option.isSome_iff_exists.1 hyn.2
        obtain ⟨p, hp⟩ : ∃ p, mget x.m y1 = some p := by
          have := (HS2.out.cb (fun h => h)).2 y1
          cases hm : mget x.m y1 with
          | none => rw [(this.2 hm)] at hv; cases hv
          | some p => exact ⟨p, rfl⟩
        obtain ⟨hpb, hpl, hpB⟩ := HS2.out.cw y1 p v hp hv (fun h => h)
        have hvb := HI.out.cw y1 v hv
        have d14 : W2.cell? ⟨a.g, 14, none⟩ = some (.map (some a.cb)) := blk_cell (HS2.out.st (fun h => h)) 14
        have dp : W2.cell? ⟨p, 0, none⟩ = some (.int .i64 v.1) := blk_cell hpb 0
        have e14 : ∀ q : Ext W2, q.X.cell? ⟨a.g, 14, none⟩ = some (.map (some a.cb)) := fun q => (q.h.cell (p := ⟨a.g, 14, none⟩) HS2.out.fst.2.2).trans d14
        have ep : ∀ q : Ext W2, q.X.cell? ⟨p, 0, none⟩ = some (.int .i64 v.1) := fun q => (q.h.cell (p := ⟨p, 0, none⟩) (blk_lt hpb)).trans dp
        have eb : ∀ q : Ext W2, q.X.cell? ⟨w.heap.size + 1, 0, none⟩ = some (.int .i64 y1) := fun q => (q.h.cell (p := ⟨w.heap.size + 1, 0, none⟩) (blk_lt HA2.out)).trans (blk_cell HA2.out 0)
        have elk : ∀ q : Ext W2, (Instr.lookup 63 (.map (some a.cb)) (.int .i64 y1) false).run Tryz.prog q.X = .ok (.pointer (some ⟨p, 0, none⟩)) q.X := fun q => by
          have := ((HS2.out.cb (fun h => h)).1.of_block (q.h.block _ (HS2.out.fcb.2.2))).run_lookup kint Tryz.underlying63 (zcalled _) y1 false
          simp only [hp, Option.map_some, Option.getD_some, Bool.false_eq_true, if_false] at this
          exact this
        have hw1 : IntKind.i64.wrap (v.1 - 1) = v.1 - 1 := by rw [IntKind.wrap_i64]; omega
        have HR : Hid (R = ((7, ⟨0, 0, y2, i, 0, 0⟩, true), { s with qs := s.qs.set i r, calls := mput s.calls y1 (v.1 - 1, v.2) })) := Lib.hid (by
          have := HR0.out
          simp only [if_neg hy, hv] at this
          exact this)
        have Hv := Lib.hid hv
        have Hp := Lib.hid hp
        have Hpb := Lib.hid hpb
        have Hpl := Lib.hid hpl
        have HpB := Lib.hid hpB
        have hy0 : y1 < 0 := hyn.1
        clear hyn hv hp hpb hpl hpB hqw d14 dp
        go_wp2_with fail
        rw [← hW2]
        clear hW2 b0
        refine wp_region_ext_tail 13 (by kernel_rfl) (by kernel_rfl) ?_
        simp only [List.take_succ_cons, List.take_zero, List.drop_succ_cons, List.drop_zero]
        repeat (go_big_quiet_step (fail))
        refine Ext.tail fun Y hY => ?_
        have hYp := (hY.block _ (blk_lt Hpb.out)).trans Hpb.out
        have dY : Y.cell? ⟨p, 0, none⟩ = some (.int .i64 v.1) := blk_cell hYp 0
        have fY : Y.frozen? ⟨p, 0, none⟩ = false := blk_frozen hYp _
        obtain ⟨W3, hW3⟩ : ∃ W3, W3 = Y.setCell ⟨p, 0, none⟩ (.int .i64 (v.1 - 1)) := ⟨_, rfl⟩
        have hSY := HS2.out.below hY (fun h => h) (fun h => h)
        have hk3 : Kept Y W3 (fun q => q = p) := hW3 ▸ (Kept.refl Y (fun q => q = p)).setCell (p := ⟨p, 0, none⟩) (Or.inl rfl) _
        have HS3 := Lib.hid (hSY.setCalled (fun t v h => (HI.out.cw t v h).1) (v' := (v.1 - 1, v.2)) Hp.out Hv.out hk3 (by rw [hW3]; exact blk_set hYp 0 _))
        have HB3 : Hid (Below Bo W2 W3) := Lib.hid ((hY.mono HS2.out.lo).trans (hk3.below (Nat.le_trans HS2.out.lo hY.size) (fun q e => by rw [e]; exact HpB.out)))
        have hk4 : Kept W2 W3 (fun q => q = p) := (Kept.of_below hY).trans hk3
        have hp5 : ∀ n, φ0 n = 50 → n ≠ p := fun n hn e => by rw [e, Hpl.out] at hn; omega
        have HE3 : Hid (W3.heap[w.heap.size]? = some evBox) := Lib.hid (hk4.blk HE2.out (blk_lt HE2.out) (hp5 _ (Hφ2.out _ (Nat.le_refl _))))
        have HA3 : Hid (W3.heap[w.heap.size + 1]? = some (.cells #[.int .i64 y1, .int .i64 y2] 131 (0, 0))) := Lib.hid (hk4.blk HA2.out (blk_lt HA2.out) (hp5 _ (Hφ2.out _ (by omega))))
        clear hSY hk3 hk4 e14 ep eb elk hYp hp5
        go_wp2_with fail
        rw [← hW3]
        clear hW3
        have hE5 := HE3.out
        have g0 := blk_cell hE5 0
        have g1 := blk_cell hE5 1
        have g2 := blk_cell hE5 2
        have g3 := blk_cell hE5 3
        have g4 := blk_cell hE5 4
        have g5 := blk_cell hE5 5
        have k0 := blk_frozen hE5 0
        have k1 := blk_frozen hE5 1
        have k2 := blk_frozen hE5 2
        have k3 := blk_frozen hE5 3
        have k4 := blk_frozen hE5 4
        have k5 := blk_frozen hE5 5
        have a1 : W3.cell? ⟨w.heap.size + 1, 1, none⟩ = some (.int .i64 y2) := blk_cell HA3.out 1
        clear hE5
        go_region
        obtain ⟨X0, hX0⟩ : ∃ X0, X0 = (((((W3.setCell ⟨w.heap.size, 0, none⟩ (.int .i64 0)).setCell ⟨w.heap.size, 1, none⟩ (.int .u8 0)).setCell ⟨w.heap.size, 2, none⟩ (.int .i64 y2)).setCell ⟨w.heap.size, 3, none⟩ (.int .i64 i)).setCell ⟨w.heap.size, 4, none⟩ (.int .i64 0)).setCell ⟨w.heap.size, 5, none⟩ (.int .i64 0) := ⟨_, rfl⟩
        rw [← hX0]
        obtain ⟨hXk, r0, r1, r2, r3, r4, r5⟩ := ev_box HE3.out rfl _ _ _ _ _ _ hX0
        obtain ⟨X1, hX1⟩ : ∃ X1, X1 = X0.drew := ⟨_, rfl⟩
        rw [← hX1]
        replace hXk : Kept W3 X1 (fun q => q = w.heap.size) := hX1 ▸ hXk.trans (Kept.of_below (bel_drew (Below.refl _ _)))
        replace r0 : X1.cell? ⟨w.heap.size, 0, none⟩ = some (.int .i64 0) := hX1 ▸ r0
        replace r1 : X1.cell? ⟨w.heap.size, 1, none⟩ = some (.int .u8 0) := hX1 ▸ r1
        replace r2 : X1.cell? ⟨w.heap.size, 2, none⟩ = some (.int .i64 y2) := hX1 ▸ r2
        replace r3 : X1.cell? ⟨w.heap.size, 3, none⟩ = some (.int .i64 i) := hX1 ▸ r3
        replace r4 : X1.cell? ⟨w.heap.size, 4, none⟩ = some (.int .i64 0) := hX1 ▸ r4
        replace r5 : X1.cell? ⟨w.heap.size, 5, none⟩ = some (.int .i64 0) := hX1 ▸ r5
        have hBX : Below Bo w X1 := ((HB1.out.trans HB2.out).trans HB3.out).trans (hXk.below HS3.out.lo (fun q e => by rw [e]; exact H.out.lo))
        have hSX := HS3.out.junk (hXk.mono fun q e => by rw [e]; exact Hφ2.out _ (Nat.le_refl _))
        clear hX0 hX1
        go_wp2_with fail
        refine bodyPost_ret (v := .tuple #[.int .u8 7, .agg #[.int .i64 0, .int .u8 0, .int .i64 y2, .int .i64 i, .int .i64 0, .int .i64 0], .bool true]) (by simp [results, Tryz.results41, go_sem, r0, r1, r2, r3, r4, r5]) rfl ⟨φ0, _, by rw [HR.out]; rfl, Hφ1.out, by rw [HR.out]; exact hSX, hBX⟩
end Go.Proofs.YtcjmppjppmiggaaGreat

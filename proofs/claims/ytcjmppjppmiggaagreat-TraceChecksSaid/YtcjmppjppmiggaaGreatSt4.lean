/- A trace's story: the reader's step. -/
import Derived.Test.YtcjmppjppmiggaaGreatSt3
namespace Go.Proofs.YtcjmppjppmiggaaGreat
open Go.RowKit
set_option linter.unusedVariables false
set_option linter.unusedSimpArgs false

open Go.Maps
set_option maxRecDepth 100000
set_option maxHeartbeats 4000000 in
theorem feed_any (φ : Nat → Nat) (Bo : Nat) (c : Cfg) (rs rs' : List RTx) (by_ : List Int) (M k : Nat) (a : SA) (x : SG) (s : TS) (w : World) (h0 : StAt w φ Bo c rs rs' by_ a x s) (hi : SInv c rs rs' M k s) (hc : c.ok = true) (hrl : rs.length ≤ 65536)
    (hlog : ∀ (i : Nat) (r : RTx), rs[i]? = some r → txB r.number r.ws = true ∧ r.number = (i : Int) + 1) (hmask : rs' = maskL M by_ rs) (hbl : a.B.n ≤ 65536) :
    Calls Tryz.prog 37 #[ptrV a.g] w (TaskEnd w φ Bo c rs rs' by_ a (s.feed c rs rs' by_)) := by
  obtain ⟨φ0, hφ0⟩ : ∃ φ0 : Nat → Nat, φ0 = fun b => if b < w.heap.size then φ b else if b = w.heap.size then 50 else 10 := ⟨_, rfl⟩
  have hφ1 : ∀ b, b < w.heap.size → φ0 b = φ b := fun b hb => by rw [hφ0]; simp only [if_pos hb]
  have h : StAt w φ0 Bo c rs rs' by_ a x s := h0.relabel hφ1
  have Hφ1 := Lib.hid hφ1
  have hφ2 : φ0 w.heap.size = 50 := by rw [hφ0]; simp
  have hφ3 : ∀ b, w.heap.size < b → φ0 b = 10 := fun b hb => by rw [hφ0]; simp only [if_neg (show ¬ b < w.heap.size by omega), if_neg (show ¬ b = w.heap.size by omega)]
  have Hφ2 := Lib.hid hφ2
  have Hφ3 := Lib.hid hφ3
  clear hφ2 hφ3
  clear hφ0 hφ1 h0
  have H := Lib.hid h
  have HI := Lib.hid hi
  obtain ⟨W0, hW0⟩ : ∃ W0, W0 = w.alloc (.cells #[.int .i64 0, .int .u8 0, .int .i64 0, .int .i64 0, .int .i64 0, .int .i64 0] 51) := ⟨_, rfl⟩
  have hb0 : Below w.heap.size w W0 := hW0 ▸ (Below.refl _ _).alloc (Nat.le_refl _) _
  have hz0 : W0.heap.size = w.heap.size + 1 := by rw [hW0]; simp
  have HE0 : Hid (W0.heap[w.heap.size]? = some evBox) := Lib.hid (hW0 ▸ blk_new _ _)
  have HS0 := Lib.hid (h.below hb0 (fun h => h) (fun h => h))
  have HB0 : Hid (Below Bo w W0) := Lib.hid (hb0.mono h.lo)
  have HZ0 := Lib.hid hz0
  clear h hi hb0 hz0
  obtain ⟨R, hR⟩ : ∃ R, R = s.feed c rs rs' by_ := ⟨_, rfl⟩
  rw [← hR]
  unfold TS.feed at hR
  unfold ptrV
  have Hmask := Lib.hid hmask
  clear hmask
  by_cases hh : s.holds = false
  · skip
    have d5 : W0.cell? ⟨a.g, 5, none⟩ = some (.int .i64 s.at_) := blk_cell (HS0.out.st (fun h => h)) 5
    have d4 : W0.cell? ⟨a.g, 4, none⟩ = some (.slice a.A a.n a.cap) := blk_cell (HS0.out.st (fun h => h)) 4
    have g6 : ∀ o, (w.alloc o).cell? ⟨a.g, 6, none⟩ = some (.bool s.holds) := fun o => blk_cell ((Below.heap_alloc _ _ _ H.out.fst.2.2).trans (H.out.st (fun h => h))) 6
    have e5 : ∀ q : Ext W0, q.X.cell? ⟨a.g, 5, none⟩ = some (.int .i64 s.at_) := fun q => (q.h.cell (p := ⟨a.g, 5, none⟩) HS0.out.fst.2.2).trans d5
    have e4 : ∀ q : Ext W0, q.X.cell? ⟨a.g, 4, none⟩ = some (.slice a.A a.n a.cap) := fun q => (q.h.cell (p := ⟨a.g, 4, none⟩) HS0.out.fst.2.2).trans d4
    rw [hh] at g6
    have hlen : rs.length = a.n := H.out.log.1.len
    have HW0 := Lib.hid hW0
    clear hW0 d5 d4
    go_enter Tryz.func37, Tryz.ntmps37
    go_wp2_with fail
    rw [← HW0.out]
    clear g6
    refine wp_region_ext (by kernel_rfl) (by kernel_rfl) ?_
    repeat (go_big_quiet_step ((fail)))
    refine Ext.end_ fun X hX => ?_
    have HSX := Lib.hid (HS0.out.below hX (fun h => h) (fun h => h))
    have HEX : Hid (X.heap[w.heap.size]? = some evBox) := Lib.hid ((hX.block _ (blk_lt HE0.out)).trans HE0.out)
    have HBX : Hid (Below Bo w X) := Lib.hid (HB0.out.trans (hX.mono HS0.out.lo))
    by_cases hl : rs.length ≤ s.at_
    · have HR : Hid (R = ((0, ev0, false), s)) := Lib.hid (by rw [hR, if_pos hh, if_pos hl])
      have hge : (a.n : Int) ≤ (s.at_ : Int) := by omega
      clear hR hlen hl e5 e4 hX
      have hE5 := HEX.out
      have g0 := blk_cell hE5 0
      have g1 := blk_cell hE5 1
      have g2 := blk_cell hE5 2
      have g3 := blk_cell hE5 3
      have g4 := blk_cell hE5 4
      have g5 := blk_cell hE5 5
      have k0 := blk_frozen hE5 0
      have k1 := blk_frozen hE5 1
      have k2 := blk_frozen hE5 2
      have k3 := blk_frozen hE5 3
      have k4 := blk_frozen hE5 4
      have k5 := blk_frozen hE5 5
      clear hE5
      go_wp2_with fail
      obtain ⟨X0, hX0⟩ : ∃ X0, X0 = ((((((X.setCell ⟨w.heap.size, 0, none⟩ (.int .i64 0)).setCell ⟨w.heap.size, 1, none⟩ (.int .u8 0)).setCell ⟨w.heap.size, 2, none⟩ (.int .i64 0)).setCell ⟨w.heap.size, 3, none⟩ (.int .i64 0)).setCell ⟨w.heap.size, 4, none⟩ (.int .i64 0)).setCell ⟨w.heap.size, 5, none⟩ (.int .i64 0)) := ⟨_, rfl⟩
      rw [← hX0]
      obtain ⟨hXk, r0, r1, r2, r3, r4, r5⟩ := ev_box HEX.out rfl _ _ _ _ _ _ hX0
      have hBX : Below Bo w X0 := HBX.out.trans (hXk.below HSX.out.lo (fun q e => by rw [e]; exact H.out.lo))
      have hSX := HSX.out.junk (hXk.mono fun q e => by rw [e]; exact Hφ2.out)
      clear hX0
      refine bodyPost_ret (v := .tuple #[.int .u8 0, .agg #[.int .i64 0, .int .u8 0, .int .i64 0, .int .i64 0, .int .i64 0, .int .i64 0], .bool false]) (by simp [results, Tryz.results37, go_sem, r0, r1, r2, r3, r4, r5]) rfl ⟨φ0, _, by rw [HR.out]; rfl, Hφ1.out, by rw [HR.out]; exact hSX, hBX⟩
    · have HR : Hid (R = ((1, ⟨0, 0, (s.at_ : Int) + 1, 0, 0, 0⟩, true), { s with at_ := s.at_ + 1, holds := true })) := Lib.hid (by rw [hR, if_pos hh, if_neg hl])
      have hge : ¬ (a.n : Int) ≤ (s.at_ : Int) := by omega
      have hat : s.at_ ≤ 65536 := by omega
      have hw1 : IntKind.i64.wrap ((s.at_ : Int) + 1) = (s.at_ : Int) + 1 := by rw [IntKind.wrap_i64]; omega
      obtain ⟨W2, hW2⟩ : ∃ W2, W2 = (X.setCell ⟨a.g, 5, none⟩ (.int .i64 ((s.at_ : Int) + 1))).setCell ⟨a.g, 6, none⟩ (.bool true) := ⟨_, rfl⟩
      have hb1 := blk_set (HSX.out.st (fun h => h)) 5 (.int .i64 ((s.at_ : Int) + 1))
      have hb2 := blk_set hb1 6 (.bool true)
      have hk2 : Kept X W2 (fun q => q = a.g) := hW2 ▸ ((Kept.refl X (fun q => q = a.g)).setCell (p := ⟨a.g, 5, none⟩) (Or.inl rfl) _).setCell (p := ⟨a.g, 6, none⟩) (Or.inl rfl) _
      have hm0 : TS.m s = s.at_ := by unfold TS.m; rw [hh]; rfl
      have HS2 := Lib.hid (show StAt W2 φ0 Bo c rs rs' by_ a { x with d := x.d } { s with at_ := s.at_ + 1, holds := true } from (HSX.out.setAH (n := s.at_ + 1) (b := true) (E' := s.E) (hk2.mono fun q e => by rw [e]; exact H.out.fst.1) (by rw [hW2]; exact hb2)).fill8 (fun _ h => h) ((HSX.out.tb (fun h => h)).1.kept hk2 (fun b hb e => by
        have h1 := (HSX.out.ftb b hb).1
        rw [e, H.out.fst.1] at h1; omega)) (by
        have := (HSX.out.tb (fun h => h)).2
        rw [hm0] at this
        simpa [TS.m] using this))
      have HB2 : Hid (Below Bo w W2) := Lib.hid (HBX.out.trans (hk2.below HSX.out.lo (fun q e => by rw [e]; exact H.out.fst.2.1)))
      have HE2 : Hid (W2.heap[w.heap.size]? = some evBox) := Lib.hid (hk2.blk HEX.out (blk_lt HEX.out) (by have := H.out.fst.2.2; omega))
      have u5 : W2.cell? ⟨a.g, 5, none⟩ = some (.int .i64 ((s.at_ : Int) + 1)) := blk_cell (HS2.out.st (fun h => h)) 5
      have d5 : X.cell? ⟨a.g, 5, none⟩ = some (.int .i64 s.at_) := blk_cell (HSX.out.st (fun h => h)) 5
      have f5 : X.frozen? ⟨a.g, 5, none⟩ = false := blk_frozen (HSX.out.st (fun h => h)) 5
      have d6 : (X.setCell ⟨a.g, 5, none⟩ (.int .i64 ((s.at_ : Int) + 1))).cell? ⟨a.g, 6, none⟩ = some (.bool s.holds) := blk_cell hb1 6
      have f6 : (X.setCell ⟨a.g, 5, none⟩ (.int .i64 ((s.at_ : Int) + 1))).frozen? ⟨a.g, 6, none⟩ = false := blk_frozen hb1 6
      clear hR hlen hl hb1 hb2 hk2 hm0 e5 e4 hX
      go_wp2_with fail
      rw [← hW2]
      clear hW2 d5 f5 d6 f6
      have hE5 := HE2.out
      have g0 := blk_cell hE5 0
      have g1 := blk_cell hE5 1
      have g2 := blk_cell hE5 2
      have g3 := blk_cell hE5 3
      have g4 := blk_cell hE5 4
      have g5 := blk_cell hE5 5
      have k0 := blk_frozen hE5 0
      have k1 := blk_frozen hE5 1
      have k2 := blk_frozen hE5 2
      have k3 := blk_frozen hE5 3
      have k4 := blk_frozen hE5 4
      have k5 := blk_frozen hE5 5
      clear hE5
      go_region
      obtain ⟨X0, hX0⟩ : ∃ X0, X0 = ((((((W2.setCell ⟨w.heap.size, 0, none⟩ (.int .i64 0)).setCell ⟨w.heap.size, 1, none⟩ (.int .u8 0)).setCell ⟨w.heap.size, 2, none⟩ (.int .i64 ((s.at_ : Int) + 1))).setCell ⟨w.heap.size, 3, none⟩ (.int .i64 0)).setCell ⟨w.heap.size, 4, none⟩ (.int .i64 0)).setCell ⟨w.heap.size, 5, none⟩ (.int .i64 0)) := ⟨_, rfl⟩
      rw [← hX0]
      obtain ⟨hXk, r0, r1, r2, r3, r4, r5⟩ := ev_box HE2.out rfl _ _ _ _ _ _ hX0
      obtain ⟨X1, hX1⟩ : ∃ X1, X1 = X0.drew := ⟨_, rfl⟩
      rw [← hX1]
      replace hXk : Kept W2 X1 (fun q => q = w.heap.size) := hX1 ▸ hXk.trans (Kept.of_below (bel_drew (Below.refl _ _)))
      replace r0 : X1.cell? ⟨w.heap.size, 0, none⟩ = some (.int .i64 0) := hX1 ▸ r0
      replace r1 : X1.cell? ⟨w.heap.size, 1, none⟩ = some (.int .u8 0) := hX1 ▸ r1
      replace r2 : X1.cell? ⟨w.heap.size, 2, none⟩ = some (.int .i64 ((s.at_ : Int) + 1)) := hX1 ▸ r2
      replace r3 : X1.cell? ⟨w.heap.size, 3, none⟩ = some (.int .i64 0) := hX1 ▸ r3
      replace r4 : X1.cell? ⟨w.heap.size, 4, none⟩ = some (.int .i64 0) := hX1 ▸ r4
      replace r5 : X1.cell? ⟨w.heap.size, 5, none⟩ = some (.int .i64 0) := hX1 ▸ r5
      have hBX : Below Bo w X1 := HB2.out.trans (hXk.below HS2.out.lo (fun q e => by rw [e]; exact H.out.lo))
      have hSX := HS2.out.junk (hXk.mono fun q e => by rw [e]; exact Hφ2.out)
      clear hX0 hX1
      go_wp2_with fail
      refine bodyPost_ret (v := .tuple #[.int .u8 1, .agg #[.int .i64 0, .int .u8 0, .int .i64 ((s.at_ : Int) + 1), .int .i64 0, .int .i64 0, .int .i64 0], .bool true]) (by simp [results, Tryz.results37, go_sem, r0, r1, r2, r3, r4, r5]) rfl ⟨φ0, _, by rw [HR.out]; rfl, Hφ1.out, by rw [HR.out]; exact hSX, hBX⟩
  · skip
    have hh2 : s.holds = true := by simpa using hh
    have hat := HI.out.hat hh2
    have hatl := HI.out.atl
    obtain ⟨n, hn⟩ : ∃ n, s.at_ = n + 1 := ⟨s.at_ - 1, by omega⟩
    have Hm0 : Hid (TS.m s = n) := Lib.hid (by unfold TS.m; rw [hh2, hn]; simp)
    have d5 : W0.cell? ⟨a.g, 5, none⟩ = some (.int .i64 ((n : Int) + 1)) := (blk_cell (HS0.out.st (fun h => h)) 5).trans (by simp [storyC, hn])
    have d7 : W0.cell? ⟨a.g, 7, none⟩ = some (.slice a.B.A a.B.n a.B.c) := blk_cell (HS0.out.st (fun h => h)) 7
    have g6 : ∀ o, (w.alloc o).cell? ⟨a.g, 6, none⟩ = some (.bool s.holds) := fun o => blk_cell ((Below.heap_alloc _ _ _ H.out.fst.2.2).trans (H.out.st (fun h => h))) 6
    have e5 : ∀ q : Ext W0, q.X.cell? ⟨a.g, 5, none⟩ = some (.int .i64 ((n : Int) + 1)) := fun q => (q.h.cell (p := ⟨a.g, 5, none⟩) HS0.out.fst.2.2).trans d5
    have e7 : ∀ q : Ext W0, q.X.cell? ⟨a.g, 7, none⟩ = some (.slice a.B.A a.B.n a.B.c) := fun q => (q.h.cell (p := ⟨a.g, 7, none⟩) HS0.out.fst.2.2).trans d7
    rw [hh2] at g6
    have hlen : rs.length = a.n := H.out.log.1.len
    have HN := Lib.hid (fun q : Ext W0 => Ext.same2 (contains_any a.B.A a.B.n a.B.c by_ ((n : Int) + 1) q.X ((HS0.out.below q.h (fun h => h) (fun h => h)).bey.1.row) (by omega)))
    obtain ⟨bc, hbc⟩ : ∃ bc, bc = by_.contains ((n : Int) + 1) := ⟨_, rfl⟩
    have Hbc := Lib.hid hbc
    rw [← hbc] at HN
    have HW0 := Lib.hid hW0
    clear hW0 d5 d7 hbc
    go_enter Tryz.func37, Tryz.ntmps37
    go_wp2_with fail
    rw [← HW0.out]
    clear g6
    refine wp_region_ext (by kernel_rfl) (by kernel_rfl) ?_
    repeat (go_big_quiet_step ((go_at_call 59; exact HN.out _)))
    refine Ext.end_ fun X hX => ?_
    have HSX := Lib.hid (HS0.out.below hX (fun h => h) (fun h => h))
    have HEX : Hid (X.heap[w.heap.size]? = some evBox) := Lib.hid ((hX.block _ (blk_lt HE0.out)).trans HE0.out)
    have HBX : Hid (Below Bo w X) := Lib.hid (HB0.out.trans (hX.mono HS0.out.lo))
    clear e5 e7 HN
    by_cases hb : by_.contains (s.at_ : Int) = true
    · have hbt : bc = true := by rw [Hbc.out]; rw [hn] at hb; push_cast at hb; exact hb
      subst hbt
      have HR : Hid (R = ((2, ⟨0, 0, ((n : Int) + 1), 0, 0, 0⟩, true), { s with holds := false, E := E1 s.E s.at_ })) := Lib.hid (by rw [hR, if_neg hh, if_pos hb, hn]; rfl)
      obtain ⟨W2, hW2⟩ : ∃ W2, W2 = X.setCell ⟨a.g, 6, none⟩ (.bool false) := ⟨_, rfl⟩
      have hb1 := blk_set (HSX.out.st (fun h => h)) 6 (.bool false)
      have hk2 : Kept X W2 (fun q => q = a.g) := hW2 ▸ (Kept.refl X (fun q => q = a.g)).setCell (p := ⟨a.g, 6, none⟩) (Or.inl rfl) _
      have HS2 := Lib.hid (show StAt W2 φ0 Bo c rs rs' by_ a { x with d := x.d } { s with holds := false, E := E1 s.E s.at_ } from (HSX.out.setAH (n := s.at_) (b := false) (E' := E1 s.E s.at_) (hk2.mono fun q e => by rw [e]; exact H.out.fst.1) (by rw [hW2]; exact hb1)).fill8 (fun _ h => h) ((HSX.out.tb (fun h => h)).1.kept hk2 (fun b hb e => by
          have h1 := (HSX.out.ftb b hb).1
          rw [e, H.out.fst.1] at h1; omega)) (by
          have := (HSX.out.tb (fun h => h)).2
          rw [Hm0.out] at this
          rw [hn]
          have h2 := this.skip (by rw [Hmask.out]; exact maskL_ws (Or.inr (by rw [hn] at hb; push_cast at hb; exact hb)))
          simpa [TS.m, hn] using h2))
      have HB2 : Hid (Below Bo w W2) := Lib.hid (HBX.out.trans (hk2.below HSX.out.lo (fun q e => by rw [e]; exact H.out.fst.2.1)))
      have HE2 : Hid (W2.heap[w.heap.size]? = some evBox) := Lib.hid (hk2.blk HEX.out (blk_lt HEX.out) (by have := H.out.fst.2.2; omega))
      have u5 : W2.cell? ⟨a.g, 5, none⟩ = some (.int .i64 ((n : Int) + 1)) := (blk_cell (HS2.out.st (fun h => h)) 5).trans (by simp [storyC, hn])
      have d6 : X.cell? ⟨a.g, 6, none⟩ = some (.bool s.holds) := blk_cell (HSX.out.st (fun h => h)) 6
      have f6 : X.frozen? ⟨a.g, 6, none⟩ = false := blk_frozen (HSX.out.st (fun h => h)) 6
      clear hR hb hb1 hk2 hX
      go_wp2_with fail
      rw [← hW2]
      clear hW2 d6 f6
      have hE5 := HE2.out
      have g0 := blk_cell hE5 0
      have g1 := blk_cell hE5 1
      have g2 := blk_cell hE5 2
      have g3 := blk_cell hE5 3
      have g4 := blk_cell hE5 4
      have g5 := blk_cell hE5 5
      have k0 := blk_frozen hE5 0
      have k1 := blk_frozen hE5 1
      have k2 := blk_frozen hE5 2
      have k3 := blk_frozen hE5 3
      have k4 := blk_frozen hE5 4
      have k5 := blk_frozen hE5 5
      clear hE5
      go_region
      obtain ⟨X0, hX0⟩ : ∃ X0, X0 = ((((((W2.setCell ⟨w.heap.size, 0, none⟩ (.int .i64 0)).setCell ⟨w.heap.size, 1, none⟩ (.int .u8 0)).setCell ⟨w.heap.size, 2, none⟩ (.int .i64 ((n : Int) + 1))).setCell ⟨w.heap.size, 3, none⟩ (.int .i64 0)).setCell ⟨w.heap.size, 4, none⟩ (.int .i64 0)).setCell ⟨w.heap.size, 5, none⟩ (.int .i64 0)) := ⟨_, rfl⟩
      rw [← hX0]
      obtain ⟨hXk, r0, r1, r2, r3, r4, r5⟩ := ev_box HE2.out rfl _ _ _ _ _ _ hX0
      obtain ⟨X1, hX1⟩ : ∃ X1, X1 = X0.drew := ⟨_, rfl⟩
      rw [← hX1]
      replace hXk : Kept W2 X1 (fun q => q = w.heap.size) := hX1 ▸ hXk.trans (Kept.of_below (bel_drew (Below.refl _ _)))
      replace r0 : X1.cell? ⟨w.heap.size, 0, none⟩ = some (.int .i64 0) := hX1 ▸ r0
      replace r1 : X1.cell? ⟨w.heap.size, 1, none⟩ = some (.int .u8 0) := hX1 ▸ r1
      replace r2 : X1.cell? ⟨w.heap.size, 2, none⟩ = some (.int .i64 ((n : Int) + 1)) := hX1 ▸ r2
      replace r3 : X1.cell? ⟨w.heap.size, 3, none⟩ = some (.int .i64 0) := hX1 ▸ r3
      replace r4 : X1.cell? ⟨w.heap.size, 4, none⟩ = some (.int .i64 0) := hX1 ▸ r4
      replace r5 : X1.cell? ⟨w.heap.size, 5, none⟩ = some (.int .i64 0) := hX1 ▸ r5
      have hBX : Below Bo w X1 := HB2.out.trans (hXk.below HS2.out.lo (fun q e => by rw [e]; exact H.out.lo))
      have hSX := HS2.out.junk (hXk.mono fun q e => by rw [e]; exact Hφ2.out)
      clear hX0 hX1
      go_wp2_with fail
      refine bodyPost_ret (v := .tuple #[.int .u8 2, .agg #[.int .i64 0, .int .u8 0, .int .i64 ((n : Int) + 1), .int .i64 0, .int .i64 0, .int .i64 0], .bool true]) (by simp [results, Tryz.results37, go_sem, r0, r1, r2, r3, r4, r5]) rfl ⟨φ0, _, by rw [HR.out]; rfl, Hφ1.out, by rw [HR.out]; exact hSX, hBX⟩
    · have hbt : bc = false := by rw [Hbc.out]; rw [hn] at hb; push_cast at hb; simpa using hb
      subst hbt
      have hnb : ¬ by_.contains ((n : Int) + 1) = true := by rw [← Hbc.out]; simp
      have d5 : X.cell? ⟨a.g, 5, none⟩ = some (.int .i64 s.at_) := blk_cell (HSX.out.st (fun h => h)) 5
      have d9 : X.cell? ⟨a.g, 9, none⟩ = some (.pointer (some ⟨a.gt, 0, none⟩)) := blk_cell (HSX.out.st (fun h => h)) 9
      have d2 : X.cell? ⟨a.g, 2, none⟩ = some (.int .i64 c.window) := blk_cell (HSX.out.st (fun h => h)) 2
      rw [hn] at d5
      have d5' : X.cell? ⟨a.g, 5, none⟩ = some (.int .i64 ((n : Int) + 1)) := d5
      have e5 : ∀ q : Ext X, q.X.cell? ⟨a.g, 5, none⟩ = some (.int .i64 ((n : Int) + 1)) := fun q => (q.h.cell (p := ⟨a.g, 5, none⟩) HSX.out.fst.2.2).trans d5'
      have e9 : ∀ q : Ext X, q.X.cell? ⟨a.g, 9, none⟩ = some (.pointer (some ⟨a.gt, 0, none⟩)) := fun q => (q.h.cell (p := ⟨a.g, 9, none⟩) HSX.out.fst.2.2).trans d9
      have e2 : ∀ q : Ext X, q.X.cell? ⟨a.g, 2, none⟩ = some (.int .i64 c.window) := fun q => (q.h.cell (p := ⟨a.g, 2, none⟩) HSX.out.fst.2.2).trans d2
      have hmk : s.G.mark ≤ 65536 := HI.out.ok.mark
      have hn6 : n + 1 ≤ 65536 := by omega
      have hw2 : IntKind.i64.wrap ((n : Int) + 1 - s.G.mark) = (n : Int) + 1 - s.G.mark := by rw [IntKind.wrap_i64]; omega
      have HN := Lib.hid (fun q : Ext X => Ext.same2 (gmark_any a.gt s.G q.X ((HSX.out.below q.h (fun h => h) (fun h => h)).gt (fun h => h))))
      clear d5 d9 d2 d5'
      go_wp2_with fail
      refine wp_region_ext (by kernel_rfl) (by kernel_rfl) ?_
      repeat (go_big_quiet_step ((go_at_call 23; exact HN.out _)))
      refine Ext.end_ fun Y hY => ?_
      have HSY := Lib.hid (HSX.out.below hY (fun h => h) (fun h => h))
      have HEY : Hid (Y.heap[w.heap.size]? = some evBox) := Lib.hid ((hY.block _ (blk_lt HEX.out)).trans HEX.out)
      have HBY : Hid (Below Bo w Y) := Lib.hid (HBX.out.trans (hY.mono HSX.out.lo))
      clear e5 e9 e2 HN hw2
      by_cases hwd : c.window < (s.at_ : Int) - s.G.mark
      · have HR : Hid (R = ((0, ev0, false), s)) := Lib.hid (by rw [hR, if_neg hh, if_neg (by rw [hn]; push_cast; exact hnb), if_pos hwd])
        have hlt : c.window < (n : Int) + 1 - s.G.mark := by rw [hn] at hwd; push_cast at hwd; exact hwd
        clear hR hwd hY hX
        have hE5 := HEY.out
        have g0 := blk_cell hE5 0
        have g1 := blk_cell hE5 1
        have g2 := blk_cell hE5 2
        have g3 := blk_cell hE5 3
        have g4 := blk_cell hE5 4
        have g5 := blk_cell hE5 5
        have k0 := blk_frozen hE5 0
        have k1 := blk_frozen hE5 1
        have k2 := blk_frozen hE5 2
        have k3 := blk_frozen hE5 3
        have k4 := blk_frozen hE5 4
        have k5 := blk_frozen hE5 5
        clear hE5
        go_wp2_with fail
        obtain ⟨X0, hX0⟩ : ∃ X0, X0 = ((((((Y.setCell ⟨w.heap.size, 0, none⟩ (.int .i64 0)).setCell ⟨w.heap.size, 1, none⟩ (.int .u8 0)).setCell ⟨w.heap.size, 2, none⟩ (.int .i64 0)).setCell ⟨w.heap.size, 3, none⟩ (.int .i64 0)).setCell ⟨w.heap.size, 4, none⟩ (.int .i64 0)).setCell ⟨w.heap.size, 5, none⟩ (.int .i64 0)) := ⟨_, rfl⟩
        rw [← hX0]
        obtain ⟨hXk, r0, r1, r2, r3, r4, r5⟩ := ev_box HEY.out rfl _ _ _ _ _ _ hX0
        have hBX : Below Bo w X0 := HBY.out.trans (hXk.below HSY.out.lo (fun q e => by rw [e]; exact H.out.lo))
        have hSX := HSY.out.junk (hXk.mono fun q e => by rw [e]; exact Hφ2.out)
        clear hX0
        refine bodyPost_ret (v := .tuple #[.int .u8 0, .agg #[.int .i64 0, .int .u8 0, .int .i64 0, .int .i64 0, .int .i64 0, .int .i64 0], .bool false]) (by simp [results, Tryz.results37, go_sem, r0, r1, r2, r3, r4, r5]) rfl ⟨φ0, _, by rw [HR.out]; rfl, Hφ1.out, by rw [HR.out]; exact hSX, hBX⟩
      · have hlt : ¬ c.window < (n : Int) + 1 - s.G.mark := by rw [hn] at hwd; push_cast at hwd; exact hwd
        obtain ⟨D, hD⟩ : ∃ D : Nat, D = (depL rs' s.E s.at_).length := ⟨_, rfl⟩
        have HR : Hid (R = ((3, ⟨0, 0, ((n : Int) + 1), 0, D, 0⟩, true), { s with holds := false, line := if D = 0 then s.line ++ [n + 1] else s.line })) := Lib.hid (by rw [hR, if_neg hh, if_neg (by rw [hn]; push_cast; exact hnb), if_neg hwd, hD, hn]; rfl)
        obtain ⟨W2, hW2⟩ : ∃ W2, W2 = Y.setCell ⟨a.g, 6, none⟩ (.bool false) := ⟨_, rfl⟩
        have hb1 := blk_set (HSY.out.st (fun h => h)) 6 (.bool false)
        have hk2 : Kept Y W2 (fun q => q = a.g) := hW2 ▸ (Kept.refl Y (fun q => q = a.g)).setCell (p := ⟨a.g, 6, none⟩) (Or.inl rfl) _
        have HS2 : Hid (StH W2 φ0 Bo (fun j => j = 8) c rs rs' by_ a x { s with holds := false }) := Lib.hid (HSY.out.setAH (n := s.at_) (b := false) (E' := s.E) (hk2.mono fun q e => by rw [e]; exact H.out.fst.1) (by rw [hW2]; exact hb1))
        have htb2 : TabAt W2 a.t x.d := (HSY.out.tb (fun h => h)).1.kept hk2 (fun b hb e => by
          have h1 := (HSY.out.ftb b hb).1
          rw [e, H.out.fst.1] at h1; omega)
        have Htb2 := Lib.hid htb2
        have htig := (H.out.tb (fun h => h)).2
        rw [Hm0.out] at htig
        obtain ⟨b, off, r, hA, hbl, hx, y0, y1, hws, hrl2⟩ := HS2.out.log.cell2 (i := n) (by omega)
        obtain ⟨htx, hrn⟩ := hlog n r hx
        rw [hrn] at y0
        have hrm : rs'[n]? = some r := by
          rw [Hmask.out]; exact maskL_at (fun h => by
            rcases h with h | h
            · have := HI.out.hM; rw [Hm0.out] at this; omega
            · exact hnb h) hx
        obtain ⟨htig2, hcnt⟩ := htig.add hn6 hrm
        have hcnt2 : (addWs x.d ((n : Int) + 1) r.ws r.ws.length).2 = D := by rw [hcnt, hD, hn]
        have HTig2 := Lib.hid htig2
        have htop : x.d.top < (n : Int) + 1 := by have := htig.2; omega
        have Hlb := Lib.hid htig.1.lastb
        have HB2 : Hid (Below Bo w W2) := Lib.hid (HBY.out.trans (hk2.below HSY.out.lo (fun q e => by rw [e]; exact H.out.fst.2.1)))
        have HE2 : Hid (W2.heap[w.heap.size]? = some evBox) := Lib.hid (hk2.blk HEY.out (blk_lt HEY.out) (by have := H.out.fst.2.2; omega))
        have hst2 := HS2.out.st (show ¬ ((fun j : Nat => j = 8) 1) by simp)
        have u5 : W2.cell? ⟨a.g, 5, none⟩ = some (.int .i64 ((n : Int) + 1)) := (blk_cell hst2 5).trans (by simp [storyC, hn])
        have u4 : W2.cell? ⟨a.g, 4, none⟩ = some (.slice (some ⟨b, off, none⟩) a.n a.cap) := (blk_cell hst2 4).trans (by rw [← hA]; rfl)
        have u8 : W2.cell? ⟨a.g, 8, none⟩ = some (.pointer (some ⟨a.t.g, 0, none⟩)) := blk_cell hst2 8
        have hgl := HS2.out.fst.2.2
        have hbl2 : b < W2.heap.size := Nat.lt_of_lt_of_le hbl HS2.out.lo
        have hga : ¬ a.t.has a.g := fun hx => by have := (H.out.ftb _ hx).1; rw [H.out.fst.1] at this; omega
        have hba : ¬ a.t.has b := fun hx => by have := (H.out.ftb _ hx).2.1; omega
        have HKS : Hid (∀ X : World, Kept W2 X a.t.has → X.cell? ⟨a.g, 8, none⟩ = some (.pointer (some ⟨a.t.g, 0, none⟩)) ∧ X.cell? ⟨a.g, 4, none⟩ = some (.slice (some ⟨b, off, none⟩) a.n a.cap) ∧ X.cell? ⟨a.g, 5, none⟩ = some (.int .i64 ((n : Int) + 1)) ∧ X.cell? ⟨b, off + n * 2, none⟩ = some (.int .i64 ((n : Int) + 1)) ∧ X.cell? ⟨b, off + n * 2 + 1, none⟩ = some (.slice r.A r.len r.cap)) := Lib.hid (fun X k => ⟨(k.cell hgl hga).trans u8, (k.cell hgl hga).trans u4, (k.cell hgl hga).trans u5, (k.cell hbl2 hba).trans y0, (k.cell hbl2 hba).trans y1⟩)
        have hw3 : IntKind.i64.wrap ((n : Int) + 1 - 1) = n := by rw [IntKind.wrap_i64]; omega
        have hn0 : (0 : Int) ≤ (n : Int) := by omega
        have hw4 : IntKind.i64.wrap (n : Int) = n := by rw [IntKind.wrap_i64]; omega
        have hna : (n : Int) < (a.n : Int) := by omega
        have hnat : n < a.n := by omega
        have dn1 : decide ((n : Int) < (a.n : Int)) = true := decide_eq_true hna
        have dn2 : decide (n < a.n) = true := decide_eq_true hnat
        have dn3 : decide (0 ≤ (n : Int)) = true := decide_eq_true hn0
        have Hws := Lib.hid hws
        have Htx := Lib.hid htx
        rw [hrn] at Htx
        have Hcnt2 := Lib.hid hcnt2
        have HD := Lib.hid hD
        have d6 : Y.cell? ⟨a.g, 6, none⟩ = some (.bool s.holds) := blk_cell (HSY.out.st (fun h => h)) 6
        have f6 : Y.frozen? ⟨a.g, 6, none⟩ = false := blk_frozen (HSY.out.st (fun h => h)) 6
        clear hR hwd hb1 hk2 hX hY htb2 htig hA hx hws hrl2 htx hrn hrm htig2 hcnt hcnt2 hst2 hbl hD hga hba
        go_wp2_with fail
        rw [← hW2]
        clear hW2 d6 f6
        have hb0 : Below W2.heap.size W2 W2.drew := bel_drew (Below.refl _ _)
        have HSZ := Lib.hid (HS2.out.below hb0 (by simp) (by simp))
        have hadd := tadd_any a.t x.d ((n : Int) + 1) r.A r.len r.cap r.ws W2.drew (Htb2.out.below hb0) (fun V hV => by
          have hbv : Below Bo W2.drew V := hV.below HSZ.out.lo (fun b hb => (H.out.ftb b hb).2.1)
          exact ((Hws.out.below (hb0.mono HS2.out.lo)).below hbv).more (Nat.le_trans HSZ.out.lo hV.size)) Htx.out htop Hlb.out
        have HEZ : Hid (W2.drew.heap[w.heap.size]? = some evBox) := HE2
        have HBZ : Hid (Below Bo w W2.drew) := Lib.hid (HB2.out.trans (hb0.mono HS2.out.lo))
        have Hadd := Lib.hid hadd
        clear hadd hb0
        go_region_held3 (fun X => X.cell? ⟨a.g, 8, none⟩ = some (.pointer (some ⟨a.t.g, 0, none⟩)) ∧ X.cell? ⟨a.g, 4, none⟩ = some (.slice (some ⟨b, off, none⟩) a.n a.cap) ∧ X.cell? ⟨a.g, 5, none⟩ = some (.int .i64 ((n : Int) + 1)) ∧ X.cell? ⟨b, off + n * 2, none⟩ = some (.int .i64 ((n : Int) + 1)) ∧ X.cell? ⟨b, off + n * 2 + 1, none⟩ = some (.slice r.A r.len r.cap))
          (first | (refine HKS.out _ ?_; (first | exact Kept.of_below (bel_drew (Below.refl _ _)) | exact HK3.out)))
          (first | (go_at_call 60; refine Hadd.out.mono ?_; rintro e w3 ⟨rfl, htb3, hk3⟩; rw [Hcnt2.out]; have HK3 : Hid (Kept W2 w3 a.t.has) := Lib.hid ((Kept.of_below (bel_drew (Below.refl _ _))).trans hk3); have Htb3 := Lib.hid htb3; have Hk3 := Lib.hid hk3; clear htb3 hk3))
        have htb3 := Htb3.out
        have hk3 := Hk3.out
        have hk3' : Kept W2.drew w3 (fun b => (fun j : Nat => j = 8) (φ0 b)) := hk3.mono fun b hb => (H.out.ftb b hb).1
        have HS3 := Lib.hid ((HSZ.out.kept (I := fun j => j = 8) hk3' (by simp) (by simp) (fun _ h => h)).fill8 (fun _ h => h) htb3 (by
          have h1 : TS.m { s with holds := false } = n + 1 := by simp [TS.m, hn]
          rw [h1]; exact HTig2.out))
        have HB3 : Hid (Below Bo w w3) := Lib.hid (HBZ.out.trans (hk3.below HSZ.out.lo (fun b hb => (H.out.ftb b hb).2.1)))
        have HE3 : Hid (w3.heap[w.heap.size]? = some evBox) := Lib.hid (hk3.blk HEZ.out (blk_lt HEZ.out) (fun hx => by have := (H.out.ftb _ hx).2.2; omega))
        have u5 : w3.cell? ⟨a.g, 5, none⟩ = some (.int .i64 ((n : Int) + 1)) := (blk_cell (HS3.out.st (fun h => h)) 5).trans (by simp [storyC, hn])
        clear htb3 hk3 hk3' Hadd HSZ Htb3 Hk3 HK3 HKS
        by_cases hD0 : D = 0
        · subst hD0
          have HR1 := HR.out
          rw [if_pos rfl] at HR1
          have HR := Lib.hid HR1
          clear HR1
          obtain ⟨i0, hi0, hz0, hz1, hz2⟩ := info_parts info_int
          have HL3 := Lib.hid (HS3.out.line (fun h => h))
          have u10 : w3.cell? ⟨a.g, 10, none⟩ = some (.slice x.line.A x.line.n x.line.c) := blk_cell (HS3.out.st (fun h => h)) 10
          have e10 : ∀ q : Ext w3, q.X.cell? ⟨a.g, 10, none⟩ = some (.slice x.line.A x.line.n x.line.c) := fun q => (q.h.cell (p := ⟨a.g, 10, none⟩) HS3.out.fst.2.2).trans u10
          have e5 : ∀ q : Ext w3, q.X.cell? ⟨a.g, 5, none⟩ = some (.int .i64 ((n : Int) + 1)) := fun q => (q.h.cell (p := ⟨a.g, 5, none⟩) HS3.out.fst.2.2).trans u5
          have hll : x.line.n ≤ 65537 := by
            have h1 := HI.out.line_len
            have h2 := HL3.out.1.len
            rw [Hm0.out] at h1
            simp only at h2
            omega
          obtain ⟨V1, hV1⟩ : ∃ V1, V1 = w3.drew.alloc (.cells #[.int .i64 ((n : Int) + 1)] 3) := ⟨_, rfl⟩
          have hb1 : Below w3.heap.size w3 V1 := hV1 ▸ bel_alloc (bel_drew (Below.refl _ _)) _
          have HSV1 := Lib.hid (HS3.out.below hb1 (fun h => h) (fun h => h))
          have HEV1 : Hid (V1.heap[w.heap.size]? = some evBox) := Lib.hid ((hb1.block _ (blk_lt HE3.out)).trans HE3.out)
          have HBV1 : Hid (Below Bo w V1) := Lib.hid (HB3.out.trans (hb1.mono HS3.out.lo))
          have hcells : ∀ (j : Nat) (u : Value), (natC (n + 1))[j]? = some u → V1.cell? ((⟨w3.heap.size, 0, none⟩ : Addr).add j) = some u := fun j u hu => by
            rw [hV1]
            have e : natC (n + 1) = [.int .i64 ((n : Int) + 1)] := by simp [natC]
            rw [e] at hu
            exact cells_new w3.drew [.int .i64 ((n : Int) + 1)] 3 j u hu
          have HT1 : Hid (TkAt natC 1 3 V1 Bo x.line.A x.line.n x.line.c s.line) := Lib.hid (HSV1.out.line (fun h => h)).1
          have hAl := (HSV1.out.line (fun h => h)).2
          simp only at hAl
          have HAl := Lib.hid hAl
          have HLo1 : Hid (Bo ≤ V1.heap.size) := Lib.hid HSV1.out.lo
          have HAll : Hid (∀ w4, Kept V1 w4 (fun b => ∃ a, x.line.A = some a ∧ b = a.block) → w4.cell? ⟨a.g, 10, none⟩ = some (.slice x.line.A x.line.n x.line.c) ∧ w4.frozen? ⟨a.g, 10, none⟩ = false) := Lib.hid (fun w4 k => by
            have hst4 := (HSV1.out.hole10 k).st (by omega)
            exact ⟨blk_cell hst4 10, blk_frozen hst4 10⟩)
          have HV1 := Lib.hid hV1
          rw [hV1] at HT1 HLo1 hcells HAll
          have Hcells := Lib.hid hcells
          clear hV1 hb1 hAl hcells e5 e10
          have hgl3 : a.g < w3.heap.size := HS3.out.fst.2.2
          go_wp2_with fail
          go_region_law (first | (refine step_push rfl (.tmp 100) (.tmp 105) 25 rfl 3 i0 _ 1 8 Tryz.underlying25 hi0 hz0 hz1 hz2 rfl (by decide) (fun _ => rfl) one_natC Bo x.line.A x.line.n x.line.c s.line rfl HT1.out HLo1.out (n + 1) ⟨w3.heap.size, 0, none⟩ 1 rfl Hcells.out (by simp only [maxLen]; omega) (by omega) ?_; intro A3 c3 w4 h1 h2 h3; obtain ⟨d10, f10⟩ := HAll.out w4 h2; have H1 := Lib.hid h1; have H2 := Lib.hid h2; have H3 := Lib.hid h3; clear h1 h2 h3))
          all_goals
            have h1 := H1.out
            have h2 : Kept V1 w4 (fun b => ∃ a, x.line.A = some a ∧ b = a.block) := by rw [HV1.out]; exact H2.out
            have h3 : FromA V1 x.line.A A3 := by rw [HV1.out]; exact H3.out
            clear H1 H2 H3
            have hA3 : At φ0 10 A3 := fun q e => by
              rcases h3 q e with ⟨c', e1, e2⟩ | h4
              · rw [e2]; exact HAl.out c' e1
              · exact Hφ3.out _ (by have := blk_lt HEV1.out; omega)
            have HH := Lib.hid (HSV1.out.hole10 h2)
            have HEW : Hid (w4.heap[w.heap.size]? = some evBox) := Lib.hid (h2.blk HEV1.out (blk_lt HEV1.out) (fun ⟨ad', e, e2⟩ => by
              have := HAl.out ad' e
              rw [← e2, Hφ2.out] at this; omega))
            have HBW : Hid (Below Bo w w4) := Lib.hid (HBV1.out.trans (h2.below HSV1.out.lo (fun q ⟨ad', e, e2⟩ => by rw [e2]; exact (HT1.out.lt e).1)))
            obtain ⟨n3, hn3⟩ : ∃ n3, n3 = x.line.n + 1 := ⟨_, rfl⟩
            rw [← hn3] at h1 ⊢
            obtain ⟨W5, hW5⟩ : ∃ W5, W5 = w4.setCell ⟨a.g, 10, none⟩ (.slice A3 n3 c3) := ⟨_, rfl⟩
            have HS5 := Lib.hid (hW5 ▸ HH.out.setLine (fun i h => h) h1 hA3)
            have hk5 : Kept w4 W5 (fun q => q = a.g) := hW5 ▸ (Kept.refl w4 (fun q => q = a.g)).setCell (p := ⟨a.g, 10, none⟩) (Or.inl rfl) _
            have HB5 : Hid (Below Bo w W5) := Lib.hid (HBW.out.trans (hk5.below HH.out.lo (fun q e => by rw [e]; exact H.out.fst.2.1)))
            have HE5 : Hid (W5.heap[w.heap.size]? = some evBox) := Lib.hid (hk5.blk HEW.out (blk_lt HEW.out) (by have := H.out.fst.2.2; omega))
            have u5 : W5.cell? ⟨a.g, 5, none⟩ = some (.int .i64 ((n : Int) + 1)) := (blk_cell (HS5.out.st (fun h => h)) 5).trans (by simp [storyC, hn])
            clear h1 h2 h3 hk5 hn3
            rw [← hW5]
            clear hW5 d10 f10
            go_wp2_with fail
            have hE5 := HE5.out
            have g0 := blk_cell hE5 0
            have g1 := blk_cell hE5 1
            have g2 := blk_cell hE5 2
            have g3 := blk_cell hE5 3
            have g4 := blk_cell hE5 4
            have g5 := blk_cell hE5 5
            have k0 := blk_frozen hE5 0
            have k1 := blk_frozen hE5 1
            have k2 := blk_frozen hE5 2
            have k3 := blk_frozen hE5 3
            have k4 := blk_frozen hE5 4
            have k5 := blk_frozen hE5 5
            clear hE5
            go_region
            obtain ⟨X0, hX0⟩ : ∃ X0, X0 = ((((((W5.setCell ⟨w.heap.size, 0, none⟩ (.int .i64 0)).setCell ⟨w.heap.size, 1, none⟩ (.int .u8 0)).setCell ⟨w.heap.size, 2, none⟩ (.int .i64 ((n : Int) + 1))).setCell ⟨w.heap.size, 3, none⟩ (.int .i64 0)).setCell ⟨w.heap.size, 4, none⟩ (.int .i64 0)).setCell ⟨w.heap.size, 5, none⟩ (.int .i64 0)) := ⟨_, rfl⟩
            rw [← hX0]
            obtain ⟨hXk, r0, r1, r2, r3, r4, r5⟩ := ev_box HE5.out rfl _ _ _ _ _ _ hX0
            obtain ⟨X1, hX1⟩ : ∃ X1, X1 = X0.drew := ⟨_, rfl⟩
            rw [← hX1]
            replace hXk : Kept W5 X1 (fun q => q = w.heap.size) := hX1 ▸ hXk.trans (Kept.of_below (bel_drew (Below.refl _ _)))
            replace r0 : X1.cell? ⟨w.heap.size, 0, none⟩ = some (.int .i64 0) := hX1 ▸ r0
            replace r1 : X1.cell? ⟨w.heap.size, 1, none⟩ = some (.int .u8 0) := hX1 ▸ r1
            replace r2 : X1.cell? ⟨w.heap.size, 2, none⟩ = some (.int .i64 ((n : Int) + 1)) := hX1 ▸ r2
            replace r3 : X1.cell? ⟨w.heap.size, 3, none⟩ = some (.int .i64 0) := hX1 ▸ r3
            replace r4 : X1.cell? ⟨w.heap.size, 4, none⟩ = some (.int .i64 0) := hX1 ▸ r4
            replace r5 : X1.cell? ⟨w.heap.size, 5, none⟩ = some (.int .i64 0) := hX1 ▸ r5
            have hBX : Below Bo w X1 := HB5.out.trans (hXk.below HS5.out.lo (fun q e => by rw [e]; exact H.out.lo))
            have hSX := HS5.out.junk (hXk.mono fun q e => by rw [e]; exact Hφ2.out)
            clear hX0 hX1
            go_wp2_with fail
            refine bodyPost_ret (v := .tuple #[.int .u8 3, .agg #[.int .i64 0, .int .u8 0, .int .i64 ((n : Int) + 1), .int .i64 0, .int .i64 0, .int .i64 0], .bool true]) (by simp [results, Tryz.results37, go_sem, r0, r1, r2, r3, r4, r5]) rfl ⟨φ0, _, by rw [HR.out]; rfl, Hφ1.out, by rw [HR.out]; exact hSX, hBX⟩
        · have hD1 : ¬ (D : Int) = 0 := by omega
          have HR1 := HR.out
          rw [if_neg hD0] at HR1
          have HR := Lib.hid HR1
          clear HR1
          go_wp2_with fail
          have hE5 := HE3.out
          have g0 := blk_cell hE5 0
          have g1 := blk_cell hE5 1
          have g2 := blk_cell hE5 2
          have g3 := blk_cell hE5 3
          have g4 := blk_cell hE5 4
          have g5 := blk_cell hE5 5
          have k0 := blk_frozen hE5 0
          have k1 := blk_frozen hE5 1
          have k2 := blk_frozen hE5 2
          have k3 := blk_frozen hE5 3
          have k4 := blk_frozen hE5 4
          have k5 := blk_frozen hE5 5
          clear hE5
          go_region
          obtain ⟨X0, hX0⟩ : ∃ X0, X0 = ((((((w3.setCell ⟨w.heap.size, 0, none⟩ (.int .i64 0)).setCell ⟨w.heap.size, 1, none⟩ (.int .u8 0)).setCell ⟨w.heap.size, 2, none⟩ (.int .i64 ((n : Int) + 1))).setCell ⟨w.heap.size, 3, none⟩ (.int .i64 0)).setCell ⟨w.heap.size, 4, none⟩ (.int .i64 D)).setCell ⟨w.heap.size, 5, none⟩ (.int .i64 0)) := ⟨_, rfl⟩
          rw [← hX0]
          obtain ⟨hXk, r0, r1, r2, r3, r4, r5⟩ := ev_box HE3.out rfl _ _ _ _ _ _ hX0
          obtain ⟨X1, hX1⟩ : ∃ X1, X1 = X0.drew := ⟨_, rfl⟩
          rw [← hX1]
          replace hXk : Kept w3 X1 (fun q => q = w.heap.size) := hX1 ▸ hXk.trans (Kept.of_below (bel_drew (Below.refl _ _)))
          replace r0 : X1.cell? ⟨w.heap.size, 0, none⟩ = some (.int .i64 0) := hX1 ▸ r0
          replace r1 : X1.cell? ⟨w.heap.size, 1, none⟩ = some (.int .u8 0) := hX1 ▸ r1
          replace r2 : X1.cell? ⟨w.heap.size, 2, none⟩ = some (.int .i64 ((n : Int) + 1)) := hX1 ▸ r2
          replace r3 : X1.cell? ⟨w.heap.size, 3, none⟩ = some (.int .i64 0) := hX1 ▸ r3
          replace r4 : X1.cell? ⟨w.heap.size, 4, none⟩ = some (.int .i64 D) := hX1 ▸ r4
          replace r5 : X1.cell? ⟨w.heap.size, 5, none⟩ = some (.int .i64 0) := hX1 ▸ r5
          have hBX : Below Bo w X1 := HB3.out.trans (hXk.below HS3.out.lo (fun q e => by rw [e]; exact H.out.lo))
          have hSX := HS3.out.junk (hXk.mono fun q e => by rw [e]; exact Hφ2.out)
          clear hX0 hX1
          go_wp2_with fail
          refine bodyPost_ret (v := .tuple #[.int .u8 3, .agg #[.int .i64 0, .int .u8 0, .int .i64 ((n : Int) + 1), .int .i64 0, .int .i64 D, .int .i64 0], .bool true]) (by simp [results, Tryz.results37, go_sem, r0, r1, r2, r3, r4, r5]) rfl ⟨φ0, _, by rw [HR.out]; rfl, Hφ1.out, by rw [HR.out]; exact hSX, hBX⟩
end Go.Proofs.YtcjmppjppmiggaaGreat

/- Lemmas and contracts of functions that statements of this seat stand on, many texts in one; each holds under the premises typed in its head. -/
import Derived.Test.YtfpcgfgofemhoaaGreatPC
import Derived.Test.YtfpcgfgofemhoaaGreatExt
import Derived.Test.YtfpcgfgofemhoaaGreatPB
import Derived.Deep.DeepCutAuto
import Derived.Test.YtfpcgfgofemhoaaGreatShA
/- towpathref08: May, Check, newest, At. -/
namespace Go.Proofs.YtfpcgfgofemhoaaGreat
open Go.RowKit
set_option linter.unusedVariables false
set_option linter.unusedSimpArgs false

set_option maxRecDepth 100000
theorem r8may_any (x : Ver) (w : World) : Calls Tryz.prog 98 #[.agg #[.int .i64 x.num, .string x.val, .bool x.drop]] w fun e w' => e = .returned (.bool (verB x)) ∧ Below w.heap.size w w' := by
  obtain ⟨num, val, drop⟩ := x
  simp only
  go_enter Tryz.func98, Tryz.ntmps98
  go_wp2
  all_goals go_ret
  all_goals exact ⟨ret_bool (by simp only [verB, valB]; grind), bel_alloc (Below.refl _ _) _⟩
set_option maxHeartbeats 8000000 in
theorem r8chk_any (A : Option Addr) (len cap : Nat) (vs : List Ver) (w : World) (hw : VsAt w w.heap.size A len vs) (hl : len ≤ 4398046511104) :
    Calls Tryz.prog 89 #[.slice A len cap] w fun e w' => e = .returned (.int .i64 (errOf (chkB vs))) ∧ Below w.heap.size w w' := by
  have hfin : ∀ (b : Bool) (w' : World), b = chkB vs → Below w.heap.size w w' → (Ending.returned (.int .i64 (errOf b)) = .returned (.int .i64 (errOf (chkB vs))) ∧ Below w.heap.size w w') := fun b w' h h' => ⟨by rw [h], h'⟩
  have Hf := Lib.hid hfin
  have hlen := Lib.hid hw.len
  clear hfin
  go_enter Tryz.func89, Tryz.ntmps89
  go_wp2_with fail
  go_loopw [3] (fun i wr => ∃ k : Nat, k ≤ len ∧ i = .int .i64 k ∧ Hid (chkB (vs.take k) = true) ∧ Below w.heap.size w wr) (fun i _ => len - (RowKit.intOf i).toNat)
  case atStart => exact ⟨0, Nat.zero_le _, rfl, Lib.hid rfl, Below.refl _ _⟩
  case round =>
    obtain ⟨k, hk, rfl, Hall, hb⟩ := hrel
    have hr := hw.below hb
    have Hb := Lib.hid hb
    have hs := hb.size
    clear hb
    by_cases hlt : k < len
    · obtain ⟨b, off, x, rfl, hbl, hx, x0, x1, x2⟩ := VsAt.cell3 hr hlt
      have hst : chkB (vs.take (k + 1)) = (chkB (vs.take k) && (verB x && preB vs k x)) := chkB_step hx
      have hno : chkB (vs.take (k + 1)) = false → chkB vs = false := fun h => by
        cases hc : chkB vs
        · rfl
        · rw [chkB_take _ hc] at h; cases h
      have Hst := Lib.hid hst
      have Hno := Lib.hid hno
      have Hmay := Lib.hid (fun X => r8may_any x X)
      obtain ⟨num, val, drop⟩ := x
      simp only at x0 x1 x2 Hmay
      have hbw : b < wr.heap.size := by omega
      have k0 : ∀ n : Ext wr, n.X.cell? ⟨b, off + k * 3, none⟩ = some (.int .i64 num) := fun n => (n.h.cell (p := ⟨b, off + k * 3, none⟩) hbw).trans x0
      have k1 : ∀ n : Ext wr, n.X.cell? ⟨b, off + k * 3 + 1, none⟩ = some (.string val) := fun n => (n.h.cell (p := ⟨b, off + k * 3 + 1, none⟩) hbw).trans x1
      have k2 : ∀ n : Ext wr, n.X.cell? ⟨b, off + k * 3 + 2, none⟩ = some (.bool drop) := fun n => (n.h.cell (p := ⟨b, off + k * 3 + 2, none⟩) hbw).trans x2
      have e1 : (0 : Int) ≤ (k : Int) := by omega
      have e2 : (k : Int) < (len : Int) := by omega
      clear hst hno x0 x1 x2
      cases hvb : verB ⟨num, val, drop⟩
      · have Hbad : Hid ((verB ⟨num, val, drop⟩ && preB vs k ⟨num, val, drop⟩) = false) := Lib.hid (by rw [hvb]; rfl)
        rw [hvb] at Hmay
        clear hx hvb
        have hN := Lib.hid (fun n : Ext wr => Ext.call (Hmay.out n.X))
        go_upto_region 4 with fail
        refine wp_region_ext (by kernel_rfl) (by kernel_rfl) ?_
        repeat (go_big_quiet_step ((go_at_call 98; exact hN.out _)))
        refine Ext.end_ fun X hX => ?_
        have HX := Lib.hid (Hb.out.trans (hX.mono hs))
        clear hX
        go_wp2_with fail
        go_ret
        exact Hf.out false _ (Hno.out (by rw [Hst.out, Hbad.out, Bool.and_false])).symm HX.out
      · have Hvb := Lib.hid hvb
        rw [hvb] at Hmay
        clear hvb
        rcases Nat.eq_zero_or_pos k with h0 | h0
        · have Hgd : Hid ((verB ⟨num, val, drop⟩ && preB vs k ⟨num, val, drop⟩) = true) := Lib.hid (by rw [Hvb.out]; simp [preB, h0])
          have hk5 : decide ((0 : Int) < (k : Int)) = false := by simp; omega
          have hk6 : decide (0 < k) = false := by simp; omega
          clear h0 hx
          have hN := Lib.hid (fun n : Ext wr => Ext.call (Hmay.out n.X))
          go_upto_region 4 with fail
          refine wp_region_ext (by kernel_rfl) (by kernel_rfl) ?_
          repeat (go_big_quiet_step ((go_at_call 98; exact hN.out _)))
          refine Ext.end_ fun X hX => ?_
          have HX := Lib.hid (Hb.out.trans (hX.mono hs))
          clear hX
          go_wp2_with fail
          exact ⟨⟨k + 1, by omega, by go_num, Lib.hid (by rw [Hst.out, Hall.out, Hgd.out]; rfl), HX.out⟩, by simp [RowKit.intOf]; omega⟩
        · obtain ⟨b', off', y, he, hbl', hy, y0, -, -⟩ := VsAt.cell3 hr (i := k - 1) (by omega)
          injection he with he; injection he with he1 he2; subst he1 he2
          have hpr : preB vs k ⟨num, val, drop⟩ = decide (y.num < num) := by unfold preB; rw [hy]; simp; omega
          have Hpr := Lib.hid hpr
          have k3 : ∀ n : Ext wr, n.X.cell? ⟨b, off + (k - 1) * 3, none⟩ = some (.int .i64 y.num) := fun n => (n.h.cell (p := ⟨b, off + (k - 1) * 3, none⟩) hbw).trans y0
          have hk1 : ((k : Int) - 1).toNat = k - 1 := by omega
          have hk2 : (0 : Int) ≤ (k : Int) - 1 := by omega
          have hk7 : IntKind.i64.wrap ((k : Int) - 1) = (k : Int) - 1 := IntWalk.i64_in _ (by omega)
          have hk3 : (1 : Int) ≤ (k : Int) := by omega
          have hk4 : (k : Int) - 1 < (len : Int) := by omega
          have hk5 : decide ((0 : Int) < (k : Int)) = true := by simp; omega
          have hk6 : decide (0 < k) = true := by simp; omega
          obtain ⟨ynum, yval, ydrop⟩ := y
          simp only at k3 hpr Hpr
          clear hy hpr y0 hx
          by_cases h6 : ynum < num
          · have hd1 : decide (num ≤ ynum) = false := by simp; omega
            have Hgd : Hid ((verB ⟨num, val, drop⟩ && preB vs k ⟨num, val, drop⟩) = true) := Lib.hid (by rw [Hvb.out, Hpr.out]; simpa using h6)
            have hN := Lib.hid (fun n : Ext wr => Ext.call (Hmay.out n.X))
            go_upto_region 4 with fail
            refine wp_region_ext (by kernel_rfl) (by kernel_rfl) ?_
            repeat (go_big_quiet_step ((go_at_call 98; exact hN.out _)))
            refine Ext.end_ fun X hX => ?_
            have HX := Lib.hid (Hb.out.trans (hX.mono hs))
            clear hX
            go_wp2_with fail
            exact ⟨⟨k + 1, by omega, by go_num, Lib.hid (by rw [Hst.out, Hall.out, Hgd.out]; rfl), HX.out⟩, by simp [RowKit.intOf]; omega⟩
          · have hd1 : decide (num ≤ ynum) = true := by simp; omega
            have Hbad : Hid ((verB ⟨num, val, drop⟩ && preB vs k ⟨num, val, drop⟩) = false) := Lib.hid (by rw [Hvb.out, Hpr.out]; simpa using h6)
            have hN := Lib.hid (fun n : Ext wr => Ext.call (Hmay.out n.X))
            go_upto_region 4 with fail
            refine wp_region_ext (by kernel_rfl) (by kernel_rfl) ?_
            repeat (go_big_quiet_step ((go_at_call 98; exact hN.out _)))
            refine Ext.end_ fun X hX => ?_
            have HX := Lib.hid (Hb.out.trans (hX.mono hs))
            clear hX
            go_wp2_with fail
            go_ret
            exact Hf.out false _ (Hno.out (by rw [Hst.out, Hbad.out, Bool.and_false])).symm HX.out
    · obtain rfl : k = len := by omega
      go_wp2_with fail
      go_ret
      exact Hf.out true _ (by have := Hall.out; rw [List.take_of_length_le (by rw [hlen.out]; exact Nat.le_refl _)] at this; exact this.symm) Hb.out
theorem r8ok (A : Option Addr) (len cap : Nat) (vs : List Ver) (w : World) (hw : VsAt w w.heap.size A len vs) (hl : len ≤ 4398046511104) (hc : chkB vs = true) :
    Calls Tryz.prog 89 #[.slice A len cap] w fun e w' => e = .returned (.int .i64 0) ∧ Below w.heap.size w w' := by
  have := r8chk_any A len cap vs w hw hl
  rw [hc] at this
  exact this
theorem upto_take {l : List Ver} (m : Int) (h : Asc l) {i : Nat} {x : Ver} (hx : l[i]? = some x) : upto (l.take (i + 1)) m = if x.num ≤ m then i + 1 else upto (l.take i) m := by
  have h1 : upto (l.take (i + 1)) m = upto (l.take i) m + if x.num ≤ m then 1 else 0 := by
    unfold upto
    rw [List.take_add_one, hx, List.countP_append]
    simp [List.countP_cons]
  rw [h1]
  split
  · have h2 : upto (l.take i) m = i := by
      have hlen : (l.take i).length = i := by have := (List.getElem?_eq_some_iff.1 hx).1; simp; omega
      have h3 : upto (l.take i) m = (l.take i).length := by
        unfold upto
        rw [List.countP_eq_length]
        intro y hy
        obtain ⟨k, hk⟩ := List.getElem?_of_mem hy
        have hk2 : k < i := by have := (List.getElem?_eq_some_iff.1 hk).1; simp at this; omega
        rw [List.getElem?_take_of_lt hk2] at hk
        have := asc_mono h hk hx hk2
        simp; omega
      omega
    omega
  · omega
set_option maxHeartbeats 2000000 in
theorem r8new_any (A : Option Addr) (len cap : Nat) (vs : List Ver) (m : Int) (w : World) (hw : VsAt w w.heap.size A len vs) (hl : len ≤ 4398046511104) (hasc : Asc vs) :
    Calls Tryz.prog 100 #[.slice A len cap, .int .i64 m] w fun e w' => e = .returned (.int .i64 (((upto vs m : Nat) : Int) - 1)) ∧ Below w.heap.size w w' := by
  have hlen := Lib.hid hw.len
  have Hasc := Lib.hid hasc
  clear hasc
  go_enter Tryz.func100, Tryz.ntmps100
  go_wp2_with fail
  go_loopw [5, 6] (fun k i wr => ∃ j : Nat, j ≤ len ∧ i = .int .i64 j ∧ k = .int .i64 (((upto (vs.take j) m : Nat) : Int) - 1) ∧ Below w.heap.size w wr) (fun _ i _ => len - (RowKit.intOf i).toNat)
  case atStart => exact ⟨0, Nat.zero_le _, rfl, by simp [upto], Below.refl _ _⟩
  case round =>
    obtain ⟨j, hj, rfl, rfl, hb⟩ := hrel
    have hr := hw.below hb
    have Hb := Lib.hid hb
    clear hb
    by_cases hlt : j < len
    · obtain ⟨b, off, x, rfl, hbl, hx, x0, -, -⟩ := VsAt.cell3 hr hlt
      have Hut := Lib.hid (upto_take m Hasc.out hx)
      clear hx
      by_cases h1 : x.num ≤ m
      · go_wp2_with fail
        exact ⟨⟨j + 1, by omega, by go_num, by rw [Hut.out, if_pos h1]; congr 1; omega, Hb.out⟩, by simp [RowKit.intOf]; omega⟩
      · go_wp2_with fail
        exact ⟨⟨j + 1, by omega, by go_num, by rw [Hut.out, if_neg (by omega)], Hb.out⟩, by simp [RowKit.intOf]; omega⟩
    · obtain rfl : j = len := by omega
      rw [List.take_of_length_le (by rw [hlen.out]; exact Nat.le_refl _)]
      go_wp2_with fail
      go_ret
      exact ⟨rfl, Hb.out⟩
set_option maxHeartbeats 2000000 in
theorem r8at_any (A : Option Addr) (len cap : Nat) (vs : List Ver) (m : Int) (w : World) (hw : VsAt w w.heap.size A len vs) (hl : len ≤ 4398046511104) (hc : chkB vs = true) :
    Calls Tryz.prog 99 #[.slice A len cap, .int .i64 m] w (AtEnd w vs m) := by
  have hasc := (chkB_iff.1 hc).2
  have hlen := Lib.hid hw.len
  have hlow : ∀ X, Below w.heap.size w X → VsAt X X.heap.size A len vs := fun X h => (hw.below h).more h.size
  have Hlow := Lib.hid hlow
  have Hw := Lib.hid hw
  have hul := upto_le vs m
  have hpost : ∀ (v : Ver) (b : Bool) (X : World), atA vs m = v → (atV vs m).isSome = b → Below w.heap.size w X → AtEnd w vs m (.returned (.tuple #[.agg #[.int .i64 v.num, .string v.val, .bool v.drop], .bool b, .int .i64 0])) X := fun v b X h1 h2 h3 => by
    subst h1 h2; exact ⟨rfl, h3⟩
  have Hpost := Lib.hid hpost
  have Hc := Lib.hid hc
  have Hasc := Lib.hid hasc
  have hun : atV vs m = if upto vs m = 0 then none else vs[upto vs m - 1]? := rfl
  have Hun := Lib.hid hun
  have Hul := Lib.hid hul
  clear hlow hpost hasc hc hw hun hul
  go_enter Tryz.func99, Tryz.ntmps99
  go_wp2_with fail
  refine (r8ok A len cap vs _ (Hlow.out _ (bel_alloc (Below.refl _ _) _)) hl Hc.out).mono ?_
  rintro e w1 ⟨rfl, hb1⟩
  have hz1 : w.heap.size < w1.heap.size := by have := hb1.size; simp at this; omega
  have hblk1 := (hb1.block w.heap.size (by simp)).trans (blk_new w _)
  have Hblk1 := Lib.hid hblk1
  have Hb1 := Lib.hid (below_box (hb1.mono (by simp)))
  clear hb1 hblk1
  go_wp2_with fail
  refine (r8new_any A len cap vs m _ (Hlow.out _ Hb1.out) hl Hasc.out).mono ?_
  rintro e w2 ⟨rfl, hb2⟩
  have hz2 : w.heap.size < w2.heap.size := by have := hb2.size; omega
  have hblk2 := (hb2.block w.heap.size hz1).trans Hblk1.out
  have Hb2 := Lib.hid (Hb1.out.trans (hb2.mono (by omega)))
  have c0 := blk_cell hblk2 0
  have c1 := blk_cell hblk2 1
  have c2 := blk_cell hblk2 2
  simp only [List.getElem?_toArray, List.getElem?_cons_zero, List.getElem?_cons_succ] at c0 c1 c2
  have f0 := blk_frozen hblk2 0
  have f1 := blk_frozen hblk2 1
  have f2 := blk_frozen hblk2 2
  have Hset := Lib.hid fun a b c => set3 (a := a) (b := b) (c := c) hblk2
  have Hbel := Lib.hid fun (a b c : Value) => bel_set (bel_set (bel_set Hb2.out (b := w.heap.size) (i := 0) (Nat.le_refl _) a) (b := w.heap.size) (i := 1) (Nat.le_refl _) b) (b := w.heap.size) (i := 2) (Nat.le_refl _) c
  clear hblk2 hb2
  rcases Nat.eq_zero_or_pos (upto vs m) with h0 | h0
  · have Ha : Hid (atV vs m = none) := Lib.hid (by rw [Hun.out, if_pos h0])
    rw [h0]
    go_wp2_with fail
    refine bodyPost_ret (v := .tuple #[.agg #[.int .i64 0, .string ⟨#[]⟩, .bool false], .bool false, .int .i64 0]) (by have d := Hset.out (.int .i64 0) (.string ⟨#[]⟩) (.bool false); have d0 := blk_cell d 0; have d1 := blk_cell d 1; have d2 := blk_cell d 2; simp only [List.getElem?_toArray, List.getElem?_cons_zero, List.getElem?_cons_succ] at d0 d1 d2; simp [results, Tryz.results99, go_sem, d0, d1, d2]) rfl (Hpost.out ⟨0, ⟨#[]⟩, false⟩ false _ (by unfold atA; rw [Ha.out]; rfl) (by rw [Ha.out]; rfl) (Hbel.out _ _ _))
  · have hlt : upto vs m - 1 < len := by have := hlen.out; have := Hul.out; omega
    obtain ⟨b, off, x, rfl, hbl, hx, x0, x1, x2⟩ := VsAt.cell3 (Hlow.out _ Hb2.out) hlt
    have Ha : Hid (atV vs m = some x) := Lib.hid (by rw [Hun.out, if_neg (by omega)]; exact hx)
    have hu1 : (0 : Int) ≤ ((upto vs m : Nat) : Int) - 1 := by omega
    have hu2 : (((upto vs m : Nat) : Int) - 1).toNat = upto vs m - 1 := by omega
    have hu3 : ((upto vs m : Nat) : Int) - 1 < (len : Int) := by omega
    have hu4 : ((upto vs m : Nat) : Int) ≤ (len : Int) := by have := hlen.out; have := Hul.out; omega
    have hu5 : ¬ (((upto vs m : Nat) : Int) = 0) := by omega
    generalize upto vs m = u at h0 hlt x0 x1 x2 hu1 hu2 hu3 hu4 hu5 ⊢
    obtain ⟨num, val, drop⟩ := x
    simp only at x0 x1 x2
    clear hx
    go_wp2_with fail
    refine bodyPost_ret (v := .tuple #[.agg #[.int .i64 num, .string val, .bool drop], .bool true, .int .i64 0]) (by have d := Hset.out (.int .i64 num) (.string val) (.bool drop); have d0 := blk_cell d 0; have d1 := blk_cell d 1; have d2 := blk_cell d 2; simp only [List.getElem?_toArray, List.getElem?_cons_zero, List.getElem?_cons_succ] at d0 d1 d2; simp [results, Tryz.results99, go_sem, d0, d1, d2]) rfl (Hpost.out ⟨num, val, drop⟩ true _ (by unfold atA; rw [Ha.out]; rfl) (by rw [Ha.out]; rfl) (Hbel.out _ _ _))
end Go.Proofs.YtfpcgfgofemhoaaGreat

/- towpathref08: Put, Collect. -/
namespace Go.Proofs.YtfpcgfgofemhoaaGreat
open Go.RowKit
set_option linter.unusedVariables false
set_option linter.unusedSimpArgs false

set_option maxRecDepth 100000
/-- What the document's Put has behind so many. -/
def r8st (vs : List Ver) (x : Ver) (k : Nat) : List Ver := if upto vs x.num < k then vs.take (upto vs x.num) ++ x :: (vs.take k).drop (upto vs x.num) else vs.take k
section
variable {vs : List Ver} {x y : Ver} {k : Nat}
theorem r8st_zero : r8st vs x 0 = [] := by simp [r8st]
theorem r8st_lt (hy : vs[k]? = some y) (h : k < upto vs x.num) : r8st vs x (k + 1) = r8st vs x k ++ [y] := by
  unfold r8st
  rw [if_neg (by omega), if_neg (by omega), List.take_add_one, hy]; rfl
theorem r8st_gt (hy : vs[k]? = some y) (h : upto vs x.num < k) : r8st vs x (k + 1) = r8st vs x k ++ [y] := by
  have hk := (List.getElem?_eq_some_iff.1 hy).1
  unfold r8st
  rw [if_pos (by omega), if_pos h, List.take_add_one, hy]
  have h1 : upto vs x.num ≤ (vs.take k).length := by rw [List.length_take]; omega
  simp [List.drop_append_of_le_length h1]
theorem r8st_eq (hy : vs[k]? = some y) (h : upto vs x.num = k) : r8st vs x (k + 1) = r8st vs x k ++ [x] ++ [y] := by
  have hk := (List.getElem?_eq_some_iff.1 hy).1
  unfold r8st
  rw [if_pos (by omega), if_neg (by omega), List.take_add_one, hy, h]
  have h1 : (vs.take k).length = k := by rw [List.length_take]; omega
  simp [List.drop_append_of_le_length (Nat.le_of_eq h1.symm), h1]
theorem r8st_all (h : upto vs x.num < vs.length) : r8st vs x vs.length = putV vs x := by
  unfold r8st putV; rw [if_pos h, List.take_length]
theorem r8st_last (h : upto vs x.num = vs.length) : r8st vs x vs.length ++ [x] = putV vs x := by
  unfold r8st putV; rw [if_neg (by omega), h, List.take_length, List.drop_length]
theorem r8st_len (k : Nat) : (r8st vs x k).length ≤ k + 1 := by
  unfold r8st
  split
  · rename_i h
    simp only [List.length_append, List.length_cons, List.length_drop, List.length_take]
    omega
  · rw [List.length_take]; omega
end
theorem hasV_at_ {vs : List Ver} {n : Int} {k : Nat} {y : Ver} (hy : vs[k]? = some y) (h : y.num = n) : hasV vs n = true := hasV_iff.2 ⟨y, List.mem_of_getElem? hy, h⟩
theorem hasV_step {vs : List Ver} {n : Int} {k : Nat} {y : Ver} (hy : vs[k]? = some y) (h : y.num ≠ n) (h0 : hasV (vs.take k) n = false) : hasV (vs.take (k + 1)) n = false := by
  rw [List.take_add_one, hy]
  simp only [hasV, List.any_append, Option.toList_some] at h0 ⊢
  rw [h0]; simp [h]
/-- What the document's Put answers. -/
def R8Put (w : World) (A : Option Addr) (len cap : Nat) (vs : List Ver) (x : Ver) (e : Ending) (w' : World) : Prop :=
  Below w.heap.size w w' ∧ if hasV vs x.num then e = .returned (.tuple #[.slice A len cap, .bool false, .int .i64 0]) else ∃ v, e = .returned (.tuple #[v, .bool true, .int .i64 0]) ∧ OwnV w' w.heap.size v (putV vs x)
set_option maxHeartbeats 8000000 in
theorem r8put_any (A : Option Addr) (len cap : Nat) (vs : List Ver) (x : Ver) (w : World) (hw : VsAt w w.heap.size A len vs) (hl : len ≤ 65536) (hc : chkB vs = true) (hx : verB x = true) :
    Calls Tryz.prog 74 #[.slice A len cap, .agg #[.int .i64 x.num, .string x.val, .bool x.drop]] w (R8Put w A len cap vs x) := by
  have hasc := (chkB_iff.1 hc).2
  have hlen := Lib.hid hw.len
  have hlow : ∀ X, Below w.heap.size w X → VsAt X X.heap.size A len vs := fun X h => (hw.below h).more h.size
  have Hlow := Lib.hid hlow
  have Hw := Lib.hid hw
  have hul := upto_le vs x.num
  rw [hw.len] at hul
  have Hmay := Lib.hid (r8may_any x)
  rw [hx] at Hmay
  obtain ⟨i0, hi, hz0, hz1, hz2⟩ := info_parts info_ver
  have Hx := Lib.hid (show x = ⟨x.num, x.val, x.drop⟩ from rfl)
  have Hno : Hid (∀ (v : Value) (X : World), Below w.heap.size w X → hasV vs x.num = false → OwnV X w.heap.size v (putV vs x) → R8Put w A len cap vs x (.returned (.tuple #[v, .bool true, .int .i64 0])) X) := Lib.hid (fun v X h1 h2 h3 => ⟨h1, by rw [if_neg (by rw [h2]; simp)]; exact ⟨v, rfl, h3⟩⟩)
  have Hyes : Hid (∀ (X : World), Below w.heap.size w X → hasV vs x.num = true → R8Put w A len cap vs x (.returned (.tuple #[.slice A len cap, .bool false, .int .i64 0])) X) := Lib.hid (fun X h1 h2 => ⟨h1, by rw [if_pos h2]⟩)
  have Hlo : Hid (∀ (k : Nat) (y : Ver), vs[k]? = some y → (k < upto vs x.num ↔ y.num ≤ x.num)) := Lib.hid (fun k y h => upto_low hasc h)
  have Hc := Lib.hid hc
  generalize hst : r8st vs x = st at *
  generalize hu : upto vs x.num = u at *
  have Hst0 : Hid (st 0 = []) := Lib.hid (by rw [← hst]; exact r8st_zero)
  have Hstl : Hid (∀ k y, vs[k]? = some y → k < u → st (k + 1) = st k ++ [y]) := Lib.hid (fun k y h1 h2 => by rw [← hst]; exact r8st_lt h1 (by omega))
  have Hstg : Hid (∀ k y, vs[k]? = some y → u < k → st (k + 1) = st k ++ [y]) := Lib.hid (fun k y h1 h2 => by rw [← hst]; exact r8st_gt h1 (by omega))
  have Hste : Hid (∀ k y, vs[k]? = some y → u = k → st (k + 1) = st k ++ [x] ++ [y]) := Lib.hid (fun k y h1 h2 => by rw [← hst]; exact r8st_eq h1 (by omega))
  have Hsta : Hid (u < len → st len = putV vs x) := Lib.hid (fun h => by rw [← hst, ← hw.len]; exact r8st_all (by rw [hu, hw.len]; exact h))
  have Hstz : Hid (u = len → st len ++ [x] = putV vs x) := Lib.hid (fun h => by rw [← hst, ← hw.len]; exact r8st_last (by rw [hu, hw.len]; exact h))
  have Hstn : Hid (∀ k, (st k).length ≤ k + 1) := Lib.hid (fun k => by rw [← hst]; exact r8st_len k)
  have Hhas : Hid (hasV (vs.take len) x.num = hasV vs x.num) := Lib.hid (by rw [List.take_of_length_le (by rw [hw.len]; exact Nat.le_refl _)])
  clear hlow hasc hc hw hst hu hx
  obtain ⟨num, val, drop⟩ := x
  simp only at Hmay Hno Hyes Hlo Hste Hsta Hstz Hhas ⊢
  go_enter Tryz.func74, Tryz.ntmps74
  go_wp2_with fail
  refine (r8ok A len cap vs _ (Hlow.out _ (bel_alloc (Below.refl _ _) _)) (by omega) Hc.out).mono ?_
  rintro e w1 ⟨rfl, hb1⟩
  have hy1z : w.heap.size < w1.heap.size := by have := hb1.size; simp at this; omega
  have hblk1 := (hb1.block w.heap.size (by simp)).trans (blk_new w _)
  have Hblk1 := Lib.hid hblk1
  have Hb1 := Lib.hid (below_box (hb1.mono (by simp)))
  have c0 := blk_cell hblk1 0
  have c1 := blk_cell hblk1 1
  have c2 := blk_cell hblk1 2
  simp only [List.getElem?_toArray, List.getElem?_cons_zero, List.getElem?_cons_succ] at c0 c1 c2
  clear hb1 hblk1
  go_wp2_with fail
  refine (Hmay.out _).mono ?_
  rintro e w2 ⟨rfl, hb2⟩
  have hy2z : w.heap.size < w2.heap.size := by have := hb2.size; omega
  have hblk2 := (hb2.block w.heap.size hy1z).trans Hblk1.out
  have Hblk2 := Lib.hid hblk2
  have Hb2 := Lib.hid (Hb1.out.trans (hb2.mono (by omega)))
  have hs2 := Hb2.out.size
  have hnilE : ∀ X : World, X.ownsRow w2.heap.size 104 3 (.slice none 0 0) 0 [] := fun X => World.ownsRow_nil _ _ _ _
  have HnilE := Lib.hid hnilE
  clear hblk2 hb2 c0 c1 c2 hnilE
  go_wp2_with fail
  go_loopw [7, 8, 9] (fun v p i wr => ∃ k : Nat, k ≤ len ∧ i = .int .i64 k ∧ p = .bool (decide (u < k)) ∧ Hid (OwnV wr w2.heap.size v (st k)) ∧ Hid (hasV (vs.take k) num = false) ∧ Hid (Below w2.heap.size w2 wr)) (fun _ _ i _ => len - (RowKit.intOf i).toNat)
  case atStart => exact ⟨0, Nat.zero_le _, rfl, by simp, Lib.hid (by rw [Hst0.out]; exact HnilE.out _), Lib.hid rfl, Lib.hid (Below.refl _ _)⟩
  case round =>
    obtain ⟨k, hk, rfl, rfl, HO, HN, HB⟩ := hrel
    have hbx := (HB.out.block w.heap.size hy2z).trans Hblk2.out
    have c0 := blk_cell hbx 0
    have c1 := blk_cell hbx 1
    have c2 := blk_cell hbx 2
    simp only [List.getElem?_toArray, List.getElem?_cons_zero, List.getElem?_cons_succ] at c0 c1 c2
    clear hbx
    by_cases hlt : k < len
    · obtain ⟨b, off, y, rfl, hbl, hy, y0, y1, y2⟩ := VsAt.cell3 (Hlow.out _ (Hb2.out.trans (HB.out.mono hs2))) hlt
      by_cases he : y.num = num
      · have Hh := Lib.hid (hasV_at_ hy he)
        have HBq : Hid (∀ n, Below w.heap.size w (wr.drewN n)) := Lib.hid (fun n => below_drewN (Hb2.out.trans (HB.out.mono hs2)) n)
        clear hy
        go_upto_region 8 with fail
        go_quiet (fail)
        go_wp2_with fail
        go_ret3
        exact Hyes.out _ (HBq.out _) Hh.out
      · have HN2 := Lib.hid (hasV_step hy he HN.out)
        have HOq : Hid (∀ n, OwnV (wr.drewN n) w2.heap.size _ (st k)) := Lib.hid (fun n => HO.out)
        have HBq : Hid (∀ n, Below w2.heap.size w2 (wr.drewN n)) := Lib.hid (fun n => below_drewN HB.out n)
        have Hlo2 := Hlo.out k y hy
        have Hyk := Lib.hid hy
        have hx3 : Ver.cells y = [.int .i64 y.num, .string y.val, .bool y.drop] := rfl
        have hsl := Hstn.out k
        rcases (show k < u ∨ k = u ∨ u < k by omega) with h1 | h1 | h1
        · have hy1 : y.num < num := by omega
          have Hs := Lib.hid (Hstl.out k y hy h1)
          have hd : decide (u < k) = false := by simp; omega
          have hd2 : decide (num < y.num) = false := by simp; omega
          have hf : decide (u < k + 1) = false := by simp; omega
          rw [hd]
          clear hy Hlo2
          go_upto_region 8 with fail
          go_quiet (fail)
          go_upto_region 10 with fail
          generalize hW : wr.drewN nq = wq
          have c0' : wq.cell? ⟨w.heap.size, 0, none⟩ = some (.int .i64 num) := by rw [← hW]; exact c0
          have c1' : wq.cell? ⟨w.heap.size, 1, none⟩ = some (.string val) := by rw [← hW]; exact c1
          have c2' : wq.cell? ⟨w.heap.size, 2, none⟩ = some (.bool drop) := by rw [← hW]; exact c2
          have y0' : wq.cell? ⟨b, off + k * 3, none⟩ = some (.int .i64 y.num) := by rw [← hW]; exact y0
          have y1' : wq.cell? ⟨b, off + k * 3 + 1, none⟩ = some (.string y.val) := by rw [← hW]; exact y1
          have y2' : wq.cell? ⟨b, off + k * 3 + 2, none⟩ = some (.bool y.drop) := by rw [← hW]; exact y2
          have HOp : Hid (∀ n, OwnV (wq.drewN n) w2.heap.size _ (st k)) := Lib.hid (fun n => by rw [← hW]; exact HOq.out nq)
          have HBp : Hid (∀ n, Below w2.heap.size w2 (wq.drewN n)) := Lib.hid (fun n => by rw [← hW]; exact below_drewN (HBq.out nq) n)
          clear c0 c1 c2 y0 y1 y2 HOq HBq HO HB hW
          go_quiet (fail)
          generalize hV : wq.drewN nq = wv
          have c0 : wv.cell? ⟨w.heap.size, 0, none⟩ = some (.int .i64 num) := by rw [← hV]; exact c0'
          have c1 : wv.cell? ⟨w.heap.size, 1, none⟩ = some (.string val) := by rw [← hV]; exact c1'
          have c2 : wv.cell? ⟨w.heap.size, 2, none⟩ = some (.bool drop) := by rw [← hV]; exact c2'
          have y0 : wv.cell? ⟨b, off + k * 3, none⟩ = some (.int .i64 y.num) := by rw [← hV]; exact y0'
          have y1 : wv.cell? ⟨b, off + k * 3 + 1, none⟩ = some (.string y.val) := by rw [← hV]; exact y1'
          have y2 : wv.cell? ⟨b, off + k * 3 + 2, none⟩ = some (.bool y.drop) := by rw [← hV]; exact y2'
          have HO : Hid (OwnV wv w2.heap.size _ (st k)) := Lib.hid (by rw [← hV]; exact HOp.out nq)
          have HB : Hid (Below w2.heap.size w2 wv) := Lib.hid (by rw [← hV]; exact HBp.out nq)
          clear c0' c1' c2' y0' y1' y2' HOp HBp hV
          have hsr := HB.out.size
          have hbk := blk_new wv (.cells #[.int .i64 y.num, .string y.val, .bool y.drop] 104)
          have HBk := Lib.hid hbk
          have HO2 : Hid (OwnV (wv.alloc (.cells #[.int .i64 y.num, .string y.val, .bool y.drop] 104)) w2.heap.size _ (st k)) := Lib.hid (HO.out.alloc _)
          have HBa : Hid (Below w2.heap.size w2 (wv.alloc (.cells #[.int .i64 y.num, .string y.val, .bool y.drop] 104))) := Lib.hid (HB.out.alloc hsr _)
          clear hbk
          go_wp2_with (at_builtin; refine wpList_append_row (cells := Ver.cells) rfl _ _ 68 rfl w2.heap.size 104 i0 (.agg #[.int .i64 0, .string ⟨#[]⟩, .bool false]) 3 32 Tryz.underlying68 hi hz0 hz1 hz2 rfl (by decide) _ _ _ rfl HO2.out (some ⟨wv.heap.size, 0, none⟩) 1 1 (wv.heap.size + 1) [y] rfl (rowAt_block [y] (len_ver _) HBk.out (by omega) (fun j u hu => by simpa [Ver.cells] using hu)) (fun h => by cases h) (fun _ _ => rfl) (fun y u hu => one_ver y u hu) (by unfold maxLen; omega) (by omega) (by simp; omega) ?_)
          intro v' w7 hown7 hg7
          have HO7 := Lib.hid hown7
          have HB7 : Hid (Below w2.heap.size w2 w7) := Lib.hid (HBa.out.trans (below_grown_own HO2.out hg7 (by simp; omega)))
          clear hown7 hg7
          go_wp2_with fail
          exact ⟨⟨k + 1, by omega, by go_num, by rw [hf], Lib.hid (by rw [Hs.out]; have := HO7.out; simpa [OwnV, Ver.cells] using this), HN2, HB7⟩, by simp [RowKit.intOf]; omega⟩
        · have hy1 : num < y.num := by omega
          have Hs := Lib.hid (Hste.out k y hy h1.symm)
          have hd : decide (u < k) = false := by simp; omega
          have hd2 : decide (num < y.num) = true := by simp; omega
          have hf : decide (u < k + 1) = true := by simp; omega
          clear h1
          rw [hd]
          clear hy Hlo2
          go_upto_region 8 with fail
          go_quiet (fail)
          go_upto_region 10 with fail
          generalize hW : wr.drewN nq = wq
          have c0' : wq.cell? ⟨w.heap.size, 0, none⟩ = some (.int .i64 num) := by rw [← hW]; exact c0
          have c1' : wq.cell? ⟨w.heap.size, 1, none⟩ = some (.string val) := by rw [← hW]; exact c1
          have c2' : wq.cell? ⟨w.heap.size, 2, none⟩ = some (.bool drop) := by rw [← hW]; exact c2
          have y0' : wq.cell? ⟨b, off + k * 3, none⟩ = some (.int .i64 y.num) := by rw [← hW]; exact y0
          have y1' : wq.cell? ⟨b, off + k * 3 + 1, none⟩ = some (.string y.val) := by rw [← hW]; exact y1
          have y2' : wq.cell? ⟨b, off + k * 3 + 2, none⟩ = some (.bool y.drop) := by rw [← hW]; exact y2
          have HOp : Hid (∀ n, OwnV (wq.drewN n) w2.heap.size _ (st k)) := Lib.hid (fun n => by rw [← hW]; exact HOq.out nq)
          have HBp : Hid (∀ n, Below w2.heap.size w2 (wq.drewN n)) := Lib.hid (fun n => by rw [← hW]; exact below_drewN (HBq.out nq) n)
          clear c0 c1 c2 y0 y1 y2 HOq HBq HO HB hW
          go_quiet (fail)
          generalize hV : wq.drewN nq = wv
          have c0 : wv.cell? ⟨w.heap.size, 0, none⟩ = some (.int .i64 num) := by rw [← hV]; exact c0'
          have c1 : wv.cell? ⟨w.heap.size, 1, none⟩ = some (.string val) := by rw [← hV]; exact c1'
          have c2 : wv.cell? ⟨w.heap.size, 2, none⟩ = some (.bool drop) := by rw [← hV]; exact c2'
          have y0 : wv.cell? ⟨b, off + k * 3, none⟩ = some (.int .i64 y.num) := by rw [← hV]; exact y0'
          have y1 : wv.cell? ⟨b, off + k * 3 + 1, none⟩ = some (.string y.val) := by rw [← hV]; exact y1'
          have y2 : wv.cell? ⟨b, off + k * 3 + 2, none⟩ = some (.bool y.drop) := by rw [← hV]; exact y2'
          have HO : Hid (OwnV wv w2.heap.size _ (st k)) := Lib.hid (by rw [← hV]; exact HOp.out nq)
          have HB : Hid (Below w2.heap.size w2 wv) := Lib.hid (by rw [← hV]; exact HBp.out nq)
          clear c0' c1' c2' y0' y1' y2' HOp HBp hV
          have hsr := HB.out.size
          have hbk := blk_new wv (.cells #[.int .i64 num, .string val, .bool drop] 104)
          have HBk := Lib.hid hbk
          have HO2 : Hid (OwnV (wv.alloc (.cells #[.int .i64 num, .string val, .bool drop] 104)) w2.heap.size _ (st k)) := Lib.hid (HO.out.alloc _)
          have HBa : Hid (Below w2.heap.size w2 (wv.alloc (.cells #[.int .i64 num, .string val, .bool drop] 104))) := Lib.hid (HB.out.alloc hsr _)
          have hyl : ∀ X, Below w2.heap.size w2 X → VsAt X X.heap.size (some ⟨b, off, none⟩) len vs := fun X hX => Hlow.out X (Hb2.out.trans (hX.mono hs2))
          have Hyl := Lib.hid hyl
          clear hbk hyl
          go_wp2_with (at_builtin; refine wpList_append_row (cells := Ver.cells) rfl _ _ 68 rfl w2.heap.size 104 i0 (.agg #[.int .i64 0, .string ⟨#[]⟩, .bool false]) 3 32 Tryz.underlying68 hi hz0 hz1 hz2 rfl (by decide) _ _ _ rfl HO2.out (some ⟨wv.heap.size, 0, none⟩) 1 1 (wv.heap.size + 1) [⟨num, val, drop⟩] rfl (rowAt_block [⟨num, val, drop⟩] (len_ver _) HBk.out (by omega) (fun j u hu => by simpa [Ver.cells] using hu)) (fun h => by cases h) (fun _ _ => rfl) (fun y u hu => one_ver y u hu) (by unfold maxLen; omega) (by omega) (by simp; omega) ?_)
          intro v' w7 hown7 hg7
          have HB7 : Hid (Below w2.heap.size w2 w7) := Lib.hid (HBa.out.trans (below_grown_own HO2.out hg7 (by simp; omega)))
          have hsr7 := HB7.out.size
          have HO7 : Hid (OwnV w7 w2.heap.size v' (st k ++ [Ver.mk num val drop])) := Lib.hid (by simpa [OwnV, Ver.cells] using hown7)
          clear hown7 hg7 c0 c1 c2 y0 y1 y2
          obtain ⟨b2, off2, y2, he2, -, hy2, y0, y1, y2'⟩ := VsAt.cell3 (Hyl.out _ HB7.out) hlt
          injection he2 with he2; injection he2 with he3 he4; subst he3 he4
          rw [Hyk.out] at hy2
          injection hy2 with hy2
          subst hy2
          have hbk8 := blk_new w7 (.cells #[.int .i64 y.num, .string y.val, .bool y.drop] 104)
          have HBk8 := Lib.hid hbk8
          have HO8 : Hid (OwnV (w7.alloc (.cells #[.int .i64 y.num, .string y.val, .bool y.drop] 104)) w2.heap.size _ (st k ++ [Ver.mk num val drop])) := Lib.hid (HO7.out.alloc _)
          have HBa8 : Hid (Below w2.heap.size w2 (w7.alloc (.cells #[.int .i64 y.num, .string y.val, .bool y.drop] 104))) := Lib.hid (HB7.out.alloc hsr7 _)
          have hsl2 : (st k ++ [Ver.mk num val drop]).length ≤ k + 2 := by simp; omega
          clear hbk8
          go_wp2_with (at_builtin; refine wpList_append_row (cells := Ver.cells) rfl _ _ 68 rfl w2.heap.size 104 i0 (.agg #[.int .i64 0, .string ⟨#[]⟩, .bool false]) 3 32 Tryz.underlying68 hi hz0 hz1 hz2 rfl (by decide) _ (st k ++ [Ver.mk num val drop]).length _ (by first | rfl | simp) HO8.out (some ⟨w7.heap.size, 0, none⟩) 1 1 (w7.heap.size + 1) [y] rfl (rowAt_block [y] (len_ver _) HBk8.out (by omega) (fun j u hu => by simpa [Ver.cells] using hu)) (fun h => by cases h) (fun _ _ => rfl) (fun y u hu => one_ver y u hu) (by unfold maxLen; omega) (by omega) (by simp; omega) ?_)
          intro v9 w9 hown9 hg9
          have HO9 := Lib.hid hown9
          have HB9 : Hid (Below w2.heap.size w2 w9) := Lib.hid (HBa8.out.trans (below_grown_own HO8.out hg9 (by simp; omega)))
          clear hown9 hg9
          go_wp2_with fail
          exact ⟨⟨k + 1, by omega, by go_num, by rw [hf], Lib.hid (by rw [Hs.out]; have := HO9.out; simpa [OwnV, Ver.cells] using this), HN2, HB9⟩, by simp [RowKit.intOf]; omega⟩
        · have Hs := Lib.hid (Hstg.out k y hy h1)
          have hd : decide (u < k) = true := by simp; omega
          have hf : decide (u < k + 1) = true := by simp; omega
          rw [hd]
          clear hy Hlo2
          go_upto_region 8 with fail
          go_quiet (fail)
          go_upto_region 10 with fail
          generalize hW : wr.drewN nq = wq
          have c0' : wq.cell? ⟨w.heap.size, 0, none⟩ = some (.int .i64 num) := by rw [← hW]; exact c0
          have c1' : wq.cell? ⟨w.heap.size, 1, none⟩ = some (.string val) := by rw [← hW]; exact c1
          have c2' : wq.cell? ⟨w.heap.size, 2, none⟩ = some (.bool drop) := by rw [← hW]; exact c2
          have y0' : wq.cell? ⟨b, off + k * 3, none⟩ = some (.int .i64 y.num) := by rw [← hW]; exact y0
          have y1' : wq.cell? ⟨b, off + k * 3 + 1, none⟩ = some (.string y.val) := by rw [← hW]; exact y1
          have y2' : wq.cell? ⟨b, off + k * 3 + 2, none⟩ = some (.bool y.drop) := by rw [← hW]; exact y2
          have HOp : Hid (∀ n, OwnV (wq.drewN n) w2.heap.size _ (st k)) := Lib.hid (fun n => by rw [← hW]; exact HOq.out nq)
          have HBp : Hid (∀ n, Below w2.heap.size w2 (wq.drewN n)) := Lib.hid (fun n => by rw [← hW]; exact below_drewN (HBq.out nq) n)
          clear c0 c1 c2 y0 y1 y2 HOq HBq HO HB hW
          go_quiet (fail)
          generalize hV : wq.drewN nq = wv
          have c0 : wv.cell? ⟨w.heap.size, 0, none⟩ = some (.int .i64 num) := by rw [← hV]; exact c0'
          have c1 : wv.cell? ⟨w.heap.size, 1, none⟩ = some (.string val) := by rw [← hV]; exact c1'
          have c2 : wv.cell? ⟨w.heap.size, 2, none⟩ = some (.bool drop) := by rw [← hV]; exact c2'
          have y0 : wv.cell? ⟨b, off + k * 3, none⟩ = some (.int .i64 y.num) := by rw [← hV]; exact y0'
          have y1 : wv.cell? ⟨b, off + k * 3 + 1, none⟩ = some (.string y.val) := by rw [← hV]; exact y1'
          have y2 : wv.cell? ⟨b, off + k * 3 + 2, none⟩ = some (.bool y.drop) := by rw [← hV]; exact y2'
          have HO : Hid (OwnV wv w2.heap.size _ (st k)) := Lib.hid (by rw [← hV]; exact HOp.out nq)
          have HB : Hid (Below w2.heap.size w2 wv) := Lib.hid (by rw [← hV]; exact HBp.out nq)
          clear c0' c1' c2' y0' y1' y2' HOp HBp hV
          have hsr := HB.out.size
          have hbk := blk_new wv (.cells #[.int .i64 y.num, .string y.val, .bool y.drop] 104)
          have HBk := Lib.hid hbk
          have HO2 : Hid (OwnV (wv.alloc (.cells #[.int .i64 y.num, .string y.val, .bool y.drop] 104)) w2.heap.size _ (st k)) := Lib.hid (HO.out.alloc _)
          have HBa : Hid (Below w2.heap.size w2 (wv.alloc (.cells #[.int .i64 y.num, .string y.val, .bool y.drop] 104))) := Lib.hid (HB.out.alloc hsr _)
          clear hbk
          go_wp2_with (at_builtin; refine wpList_append_row (cells := Ver.cells) rfl _ _ 68 rfl w2.heap.size 104 i0 (.agg #[.int .i64 0, .string ⟨#[]⟩, .bool false]) 3 32 Tryz.underlying68 hi hz0 hz1 hz2 rfl (by decide) _ _ _ rfl HO2.out (some ⟨wv.heap.size, 0, none⟩) 1 1 (wv.heap.size + 1) [y] rfl (rowAt_block [y] (len_ver _) HBk.out (by omega) (fun j u hu => by simpa [Ver.cells] using hu)) (fun h => by cases h) (fun _ _ => rfl) (fun y u hu => one_ver y u hu) (by unfold maxLen; omega) (by omega) (by simp; omega) ?_)
          intro v' w7 hown7 hg7
          have HO7 := Lib.hid hown7
          have HB7 : Hid (Below w2.heap.size w2 w7) := Lib.hid (HBa.out.trans (below_grown_own HO2.out hg7 (by simp; omega)))
          clear hown7 hg7
          go_wp2_with fail
          exact ⟨⟨k + 1, by omega, by go_num, by rw [hf], Lib.hid (by rw [Hs.out]; have := HO7.out; simpa [OwnV, Ver.cells] using this), HN2, HB7⟩, by simp [RowKit.intOf]; omega⟩
    · obtain rfl : k = len := by omega
      have hsl := Hstn.out k
      rcases (show u = k ∨ u < k by omega) with h1 | h1
      · have Hs := Lib.hid (Hstz.out h1)
        have hd : decide (u < k) = false := by simp; omega
        rw [hd]
        have hbk := blk_new wr (.cells #[.int .i64 num, .string val, .bool drop] 104)
        have HBk := Lib.hid hbk
        have HO2 : Hid (OwnV (wr.alloc (.cells #[.int .i64 num, .string val, .bool drop] 104)) w2.heap.size _ (st k)) := Lib.hid (HO.out.alloc _)
        have hsr := HB.out.size
        have HBa : Hid (Below w2.heap.size w2 (wr.alloc (.cells #[.int .i64 num, .string val, .bool drop] 104))) := Lib.hid (HB.out.alloc hsr _)
        clear hbk
        go_wp2_with (at_builtin; refine wpList_append_row (cells := Ver.cells) rfl _ _ 68 rfl w2.heap.size 104 i0 (.agg #[.int .i64 0, .string ⟨#[]⟩, .bool false]) 3 32 Tryz.underlying68 hi hz0 hz1 hz2 rfl (by decide) _ _ _ rfl HO2.out (some ⟨wr.heap.size, 0, none⟩) 1 1 (wr.heap.size + 1) [⟨num, val, drop⟩] rfl (rowAt_block [⟨num, val, drop⟩] (len_ver _) HBk.out (by omega) (fun j u hu => by simpa [Ver.cells] using hu)) (fun h => by cases h) (fun _ _ => rfl) (fun y u hu => one_ver y u hu) (by unfold maxLen; omega) (by omega) (by simp; omega) ?_)
        intro v' w7 hown7 hg7
        have HO7 := Lib.hid hown7
        have HB7 : Hid (Below w2.heap.size w2 w7) := Lib.hid (HBa.out.trans (below_grown_own HO2.out hg7 (by simp; omega)))
        clear hown7 hg7
        go_wp2_with fail
        go_ret3
        refine Hno.out _ _ (Hb2.out.trans (HB7.out.mono hs2)) (by rw [← Hhas.out]; exact HN.out) (ownsRow_base_a ?_ hs2)
        rw [← Hs.out]
        have := HO7.out
        simpa [OwnV, Ver.cells] using this
      · have Hs := Lib.hid (Hsta.out h1)
        have hd : decide (u < k) = true := by simp; omega
        rw [hd]
        go_wp2_with fail
        go_ret3
        exact Hno.out _ _ (Hb2.out.trans (HB.out.mono hs2)) (by rw [← Hhas.out]; exact HN.out) (by rw [← Hs.out]; exact ownsRow_base_a HO.out hs2)
set_option maxHeartbeats 2000000 in
theorem r8coll_any (A : Option Addr) (len cap : Nat) (vs : List Ver) (m : Int) (w : World) (hw : VsAt w w.heap.size A len vs) (hcap : len ≤ cap) (hl : len ≤ 65536) (hc : chkB vs = true) :
    Calls Tryz.prog 77 #[.slice A len cap, .int .i64 m] w fun e w' => Below w.heap.size w w' ∧ e = .returned (.tuple #[.slice (if cap = upto vs m - 1 then A else A.map (·.add ((upto vs m - 1) * 3))) (len - (upto vs m - 1)) (cap - (upto vs m - 1)), .int .i64 (upto vs m - 1 : Nat), .int .i64 0]) := by
  have hasc := (chkB_iff.1 hc).2
  have hlow : ∀ X, Below w.heap.size w X → VsAt X X.heap.size A len vs := fun X h => (hw.below h).more h.size
  have Hlow := Lib.hid hlow
  have hul := upto_le vs m
  rw [hw.len] at hul
  have hnew := r8new_any A len cap vs m
  generalize upto vs m = u at *
  have Hc := Lib.hid hc
  have Hasc := Lib.hid hasc
  have Hnew := Lib.hid hnew
  clear hlow hasc hc hw hnew
  go_enter Tryz.func77, Tryz.ntmps77
  go_wp2_with fail
  refine (r8ok A len cap vs _ (Hlow.out _ (Below.refl _ _)) (by omega) Hc.out).mono ?_
  rintro e w1 ⟨rfl, hb1⟩
  have Hb1 := Lib.hid hb1
  clear hb1
  go_wp2_with fail
  refine (Hnew.out _ (Hlow.out _ Hb1.out) (by omega) Hasc.out).mono ?_
  rintro e w2 ⟨rfl, hb2⟩
  have Hb2 := Lib.hid (Hb1.out.trans (hb2.mono Hb1.out.size))
  clear hb2
  rcases Nat.eq_zero_or_pos u with h0 | h0
  · subst h0
    rw [show ((0 : Nat) : Int) - 1 = -1 from rfl]
    go_wp2_with fail
    all_goals go_ret3
    all_goals refine ⟨Hb2.out, ?_⟩
    all_goals cases A <;> simp [Addr.add]
  · obtain ⟨q, rfl⟩ : ∃ q, u = q + 1 := ⟨u - 1, by omega⟩
    have hq1 : (((q + 1 : Nat) : Int) - 1) = (q : Int) := by omega
    rw [hq1]
    have hq2 : (0 : Int) ≤ (q : Int) := by omega
    have hq3 : (q : Int) ≤ (cap : Int) := by omega
    have hq4 : (q : Int) ≤ (len : Int) := by omega
    go_wp2_with fail
    go_ret3
    refine ⟨Hb2.out, ?_⟩
    rfl
end Go.Proofs.YtfpcgfgofemhoaaGreat

/- towpathref08: Dump. -/
namespace Go.Proofs.YtfpcgfgofemhoaaGreat
open Go.RowKit
set_option linter.unusedVariables false
set_option linter.unusedSimpArgs false

set_option maxRecDepth 100000
theorem contains_step {bs : List Int} {z n : Int} {m : Nat} (h : bs[m]? = some z) (hn : z ≠ n) (h0 : (bs.take m).contains n = false) : (bs.take (m + 1)).contains n = false := by
  rw [List.take_add_one, h]
  simp only [Option.toList_some, List.contains_eq_mem, List.mem_append, List.mem_singleton, decide_eq_false_iff_not] at h0 ⊢
  exact fun hx => hx.elim h0 (fun e => hn e.symm)
theorem contains_at {bs : List Int} {n : Int} {m : Nat} (h : bs[m]? = some n) : bs.contains n = true := by
  simp only [List.contains_eq_mem, decide_eq_true_eq]; exact List.mem_of_getElem? h
set_option maxHeartbeats 8000000 in
theorem r8dump_any (A : Option Addr) (len cap : Nat) (vs : List Ver) (mark : Int) (Ab : Option Addr) (lb cb : Nat) (bs : List Int) (w : World) (hw : VsAt w w.heap.size A len vs) (hcap : len ≤ cap) (hl : len ≤ 65536) (hc : chkB vs = true)
    (hwb : RowAt Icell 1 w w.heap.size Ab lb bs) (hlb : lb ≤ 17592186044416) :
    Calls Tryz.prog 78 #[.slice A len cap, .int .i64 mark, .slice Ab lb cb] w (DumpCEnd w (dumpV vs mark bs)) := by
  have hasc := (chkB_iff.1 hc).2
  have hlen := Lib.hid hw.len
  have hlow : ∀ X, Below w.heap.size w X → VsAt X X.heap.size A len vs := fun X h => (hw.below h).more h.size
  have Hlow := Lib.hid hlow
  have hlowb : ∀ X, Below w.heap.size w X → RowAt Icell 1 X X.heap.size Ab lb bs := fun X h => (hwb.below h).more h.size
  have Hlowb := Lib.hid hlowb
  have Hlenb := Lib.hid hwb.len
  have hul := upto_le vs mark
  rw [hw.len] at hul
  have Hc := Lib.hid hc
  have Hasc := Lib.hid hasc
  have hup := r8new_any A len cap vs mark
  have hat : atV vs mark = if upto vs mark = 0 then none else vs[upto vs mark - 1]? := rfl
  have hdv : dumpV vs mark bs = (match atV vs mark with | some v => if v.drop then [] else [v] | none => []) ++ (vs.drop (upto vs mark)).filter fun v => bs.contains v.num := rfl
  obtain ⟨i0, hi, hz0, hz1, hz2⟩ := info_parts info_ver
  generalize hu : upto vs mark = u at *
  have Hup := Lib.hid hup
  have Hat := Lib.hid hat
  have Hdv := Lib.hid hdv
  clear hlow hasc hc hw hup hat hdv hu hlowb hwb
  go_enter Tryz.func78, Tryz.ntmps78
  go_wp2_with fail
  refine (r8ok A len cap vs _ (Hlow.out _ (Below.refl _ _)) (by omega) Hc.out).mono ?_
  rintro e w1 ⟨rfl, hb1⟩
  have Hb1 := Lib.hid hb1
  clear hb1
  go_wp2_with fail
  refine (Hup.out _ (Hlow.out _ Hb1.out) (by omega) Hasc.out).mono ?_
  rintro e w2 ⟨rfl, hb2⟩
  have Hb2 := Lib.hid (Hb1.out.trans (hb2.mono Hb1.out.size))
  have hs2 := Hb2.out.size
  clear hb2
  obtain ⟨pre, hpre⟩ : ∃ pre : List Ver, pre = (match atV vs mark with | some v => if v.drop then [] else [v] | none => []) := ⟨_, rfl⟩
  have Hdv2 : Hid (dumpV vs mark bs = pre ++ (vs.drop u).filter fun v => bs.contains v.num) := Lib.hid (by rw [hpre]; exact Hdv.out)
  have Hpre := Lib.hid hpre
  have hprel : pre.length ≤ 1 := by
    rw [hpre]
    split
    · split <;> simp
    · simp
  clear hpre Hdv
  have hnilE : ∀ X : World, X.ownsRow w2.heap.size 104 3 (.slice none 0 0) 0 [] := fun X => World.ownsRow_nil _ _ _ _
  have HnilE := Lib.hid hnilE
  clear hnilE
  rcases Nat.eq_zero_or_pos u with h0 | h0
  · have hp : pre = [] := by rw [Hpre.out, Hat.out, if_pos h0]
    have HO3 : Hid (OwnV w2 w2.heap.size (.slice none 0 0) pre) := Lib.hid (by rw [hp]; exact HnilE.out _)
    have HB3 : Hid (Below w2.heap.size w2 w2) := Lib.hid (Below.refl _ _)
    clear hp
    rw [show ((u : Nat) : Int) - 1 = -1 from by omega]
    have HI : Hid (Value.int .i64 0 = .int .i64 ((u + 0 : Nat) : Int)) := Lib.hid (by rw [h0]; rfl)
    clear h0
    go_wp2_with fail
    go_loopw [8, 10] (fun v0 i wr => ∃ (j : Nat) (v : Value), v = v0 ∧ j ≤ len - u ∧ i = .int .i64 ((u + j : Nat) : Int) ∧ Hid (OwnV wr w2.heap.size v (pre ++ ((vs.drop u).take j).filter fun v => bs.contains v.num)) ∧ Hid (Below w2.heap.size w2 wr)) (fun _ i _ => len - (RowKit.intOf i).toNat)
    case atStart => exact ⟨0, _, rfl, Nat.zero_le _, by first | exact HI.out | exact HI2.out | rfl, Lib.hid (by simpa using HO3.out), HB3⟩
    case round =>
      obtain ⟨j, v, rfl, hj, rfl, HO, HB⟩ := hrel
      have hsr := HB.out.size
      by_cases hlt : j < len - u
      · obtain ⟨b3, off3, x, hAx, hbl3, hx, x0, x1, x2⟩ := VsAt.cell3 (Hlow.out _ (Hb2.out.trans (HB.out.mono hs2))) (show u + j < len from by omega)
        have hxx := hx
        first | (injection hAx with hAx; injection hAx with e1 e2; have e1' := e1.symm; have e2' := e2.symm; subst e1' e2'; clear e1 e2) | subst hAx
        have hst := dump_take (beyond := bs) (vs := vs) (u := u) (k := j) (x := x) (by rw [List.getElem?_drop]; exact hx)
        have Hst := Lib.hid hst
        have hfl : (((vs.drop u).take j).filter fun v => bs.contains v.num).length ≤ len := Nat.le_trans (List.length_filter_le _ _) (by rw [List.length_take]; omega)
        have hple : (pre ++ ((vs.drop u).take j).filter fun v => bs.contains v.num).length ≤ len + 1 := by rw [List.length_append]; omega
        generalize hS : pre ++ ((vs.drop u).take j).filter (fun v => bs.contains v.num) = S at *
        have Hst2 : Hid (pre ++ ((vs.drop u).take (j + 1)).filter (fun v => bs.contains v.num) = S ++ if bs.contains x.num then [x] else []) := Lib.hid (by rw [hst, ← hS, List.append_assoc])
        clear hst Hst hS hx hfl
        obtain ⟨num, val, drop⟩ := x
        simp only at x0 x1 x2 Hst2
        have hlt2 : ((u + j : Nat) : Int) < (len : Int) := by omega
        have h02 : (0 : Int) ≤ ((u + j : Nat) : Int) := by omega
        have htn : (((u + j : Nat) : Int)).toNat = u + j := by omega
        have Hxx := Lib.hid hxx
        clear x0 x1 x2 hxx
        go_wp2_with fail
        go_loopw [8, 11] (fun v2 n wr2 => ∃ m : Nat, m ≤ lb ∧ n = .int .i64 m ∧ v2 = v ∧ Hid ((bs.take m).contains num = false) ∧ Hid (OwnV wr2 w2.heap.size v S) ∧ Hid (Below w2.heap.size w2 wr2)) (fun _ n _ => lb - (RowKit.intOf n).toNat)
        case atStart => exact ⟨0, Nat.zero_le _, rfl, rfl, Lib.hid (by simp), HO, HB⟩
        case round =>
          clear HO HB
          obtain ⟨m, hm, rfl, rfl, HN, HO, HB⟩ := hrel
          have hsr := HB.out.size
          by_cases hlm : m < lb
          · obtain ⟨b2, off2, x2, he, hbl2, hx2, x0, x1, x2c⟩ := VsAt.cell3 (Hlow.out _ (Hb2.out.trans (HB.out.mono hs2))) (show u + j < len from by omega)
            injection he with he; injection he with he1 he2; subst he1 he2
            rw [Hxx.out] at hx2
            injection hx2 with hx2
            subst hx2
            simp only at x0 x1 x2c
            obtain ⟨bb, ob, z, rfl, hblb, hz, hcz⟩ := (Hlowb.out _ (Hb2.out.trans (HB.out.mono hs2))).at_ hlm
            have z0 := hcz 0 _ rfl
            rw [Nat.add_zero, Nat.mul_one] at z0
            have Hz := Lib.hid hz
            have hm1 : (m : Int) < (lb : Int) := by omega
            have hm0 : (0 : Int) ≤ (m : Int) := by omega
            clear hcz hz
            by_cases hzn : z = num
            · have HC3 : Hid (bs.contains num = true) := Lib.hid (contains_at (by rw [Hz.out, hzn]))
              clear Hz
              go_upto_region 13 with fail
              go_quiet (fail)
              generalize hV : World.drewN wr nq = wv
              have x0' : wv.cell? ⟨b3, off3 + (u + j) * 3, none⟩ = some (.int .i64 num) := by rw [← hV]; exact x0
              have x1' : wv.cell? ⟨b3, off3 + (u + j) * 3 + 1, none⟩ = some (.string val) := by rw [← hV]; exact x1
              have x2' : wv.cell? ⟨b3, off3 + (u + j) * 3 + 2, none⟩ = some (.bool drop) := by rw [← hV]; exact x2c
              replace HO : Hid (OwnV wv w2.heap.size _ S) := Lib.hid (by rw [← hV]; exact HO.out)
              replace HB : Hid (Below w2.heap.size w2 wv) := Lib.hid (by rw [← hV]; exact below_drewN HB.out _)
              have hsv := HB.out.size
              clear x0 x1 x2c z0 hV
              have hbk := blk_new wv (.cells #[.int .i64 num, .string val, .bool drop] 104)
              have HBk := Lib.hid hbk
              have HO2 : Hid (OwnV (wv.alloc (.cells #[.int .i64 num, .string val, .bool drop] 104)) w2.heap.size _ S) := Lib.hid (HO.out.alloc _)
              have HBa : Hid (Below w2.heap.size w2 (wv.alloc (.cells #[.int .i64 num, .string val, .bool drop] 104))) := Lib.hid (HB.out.alloc hsv _)
              clear hbk
              go_wp2_with (at_builtin; refine wpList_append_row (cells := Ver.cells) rfl _ _ 68 rfl w2.heap.size 104 i0 (.agg #[.int .i64 0, .string ⟨#[]⟩, .bool false]) 3 32 Tryz.underlying68 hi hz0 hz1 hz2 rfl (by decide) _ _ _ rfl HO2.out (some ⟨wv.heap.size, 0, none⟩) 1 1 (wv.heap.size + 1) [⟨num, val, drop⟩] rfl (rowAt_block [⟨num, val, drop⟩] (len_ver _) HBk.out (by omega) (fun j u hu => by simpa [Ver.cells] using hu)) (fun h => by cases h) (fun _ _ => rfl) (fun y u hu => one_ver y u hu) (by unfold maxLen; omega) (by omega) (by simp; omega) ?_)
              intro v' w7 hown7 hg7
              have HO7 := Lib.hid hown7
              have HB7 : Hid (Below w2.heap.size w2 w7) := Lib.hid (HBa.out.trans (below_grown_own HO2.out hg7 (by simp; omega)))
              clear hown7 hg7
              go_wp2_with fail
              exact ⟨⟨j + 1, _, rfl, by omega, by rw [show ((u + (j + 1) : Nat) : Int) = ((u + j : Nat) : Int) + 1 from by omega]; go_num, Lib.hid (by rw [Hst2.out, if_pos HC3.out]; have := HO7.out; simpa [OwnV, Ver.cells] using this), HB7⟩, by simp [RowKit.intOf]; omega⟩
            · have HN2 := Lib.hid (contains_step Hz.out hzn HN.out)
              clear Hz
              go_upto_region 13 with fail
              go_quiet (fail)
              generalize hV : World.drewN wr nq = wv
              have x0' : wv.cell? ⟨b3, off3 + (u + j) * 3, none⟩ = some (.int .i64 num) := by rw [← hV]; exact x0
              have x1' : wv.cell? ⟨b3, off3 + (u + j) * 3 + 1, none⟩ = some (.string val) := by rw [← hV]; exact x1
              have x2' : wv.cell? ⟨b3, off3 + (u + j) * 3 + 2, none⟩ = some (.bool drop) := by rw [← hV]; exact x2c
              replace HO : Hid (OwnV wv w2.heap.size _ S) := Lib.hid (by rw [← hV]; exact HO.out)
              replace HB : Hid (Below w2.heap.size w2 wv) := Lib.hid (by rw [← hV]; exact below_drewN HB.out _)
              have hsv := HB.out.size
              clear x0 x1 x2c z0 hV
              go_wp2_with fail
              exact ⟨⟨m + 1, by omega, by go_num, rfl, HN2, HO, HB⟩, by simp [RowKit.intOf]; omega⟩
          · obtain rfl : m = lb := by omega
            have HC3 : Hid (bs.contains num = false) := Lib.hid (by have := HN.out; rwa [List.take_of_length_le (by rw [Hlenb.out]; exact Nat.le_refl _)] at this)
            go_wp2_with fail
            exact ⟨⟨j + 1, _, rfl, by omega, by rw [show ((u + (j + 1) : Nat) : Int) = ((u + j : Nat) : Int) + 1 from by omega]; go_num, Lib.hid (by rw [Hst2.out, if_neg (by rw [HC3.out]; simp), List.append_nil]; exact HO.out), HB⟩, by simp [RowKit.intOf]; omega⟩
      · obtain rfl : j = len - u := by omega
        have hle : ((u + (len - u) : Nat) : Int) = (len : Int) := by omega
        rw [hle]
        go_wp2_with fail
        go_ret2
        refine ⟨_, rfl, ?_, Hb2.out.trans (HB.out.mono hs2)⟩
        rw [Hdv2.out]
        have h1 : (vs.drop u).take (len - u) = vs.drop u := List.take_of_length_le (by rw [List.length_drop, hlen.out]; exact Nat.le_refl _)
        have h2 := HO.out
        rw [h1] at h2
        exact ownsRow_base_a h2 hs2
  · have hlt : u - 1 < len := by omega
    obtain ⟨b, off, x, hA, hbl, hx, x0, x1, x2⟩ := VsAt.cell3 (Hlow.out _ Hb2.out) hlt
    have hatx : atV vs mark = some x := by rw [Hat.out, if_neg (by omega)]; exact hx
    have hpx : pre = if x.drop then [] else [x] := by rw [Hpre.out, hatx]
    obtain ⟨num, val, drop⟩ := x
    simp only at x0 x1 x2 hpx
    obtain ⟨q, hq⟩ : ∃ q, u = q + 1 := ⟨u - 1, by omega⟩
    have hq1 : ((u : Nat) : Int) - 1 = (q : Int) := by omega
    have hq2 : u - 1 = q := by omega
    rw [hq2] at x0 x1 x2 hlt
    rw [hq1]
    have HI : Hid (Value.int .i64 ((q : Int) + 1) = .int .i64 ((u + 0 : Nat) : Int)) := Lib.hid (by first | (rw [hq]; done) | (rw [hq]; rfl))
    have HI2 : Hid (Value.int .i64 ((q + 1 : Nat) : Int) = .int .i64 ((u + 0 : Nat) : Int)) := Lib.hid (by first | (rw [hq]; done) | (rw [hq]; rfl))
    have hq3 : (0 : Int) ≤ (q : Int) := by omega
    have hq4 : (q : Int) < (len : Int) := by omega
    have hul2 : u ≤ len := hul
    have hA2 := hA
    subst hA2
    clear hx hatx h0 hq hq1 hq2
    cases drop
    · have hp : pre = [⟨num, val, false⟩] := by rw [hpx]; rfl
      have Hp := Lib.hid hp
      clear hpx hp
      have hbk := blk_new w2 (.cells #[.int .i64 num, .string val, .bool false] 104)
      have HBk := Lib.hid hbk
      have HO2 : Hid (OwnV (w2.alloc (.cells #[.int .i64 num, .string val, .bool false] 104)) w2.heap.size (.slice none 0 0) []) := Lib.hid (HnilE.out _)
      have HBa : Hid (Below w2.heap.size w2 (w2.alloc (.cells #[.int .i64 num, .string val, .bool false] 104))) := Lib.hid (bel_alloc (Below.refl _ _) _)
      clear hbk
      go_wp2_with (at_builtin; refine wpList_append_row (cells := Ver.cells) rfl _ _ 68 rfl w2.heap.size 104 i0 (.agg #[.int .i64 0, .string ⟨#[]⟩, .bool false]) 3 32 Tryz.underlying68 hi hz0 hz1 hz2 rfl (by decide) _ 0 _ rfl HO2.out (some ⟨w2.heap.size, 0, none⟩) 1 1 (w2.heap.size + 1) [⟨num, val, false⟩] rfl (rowAt_block [⟨num, val, false⟩] (len_ver _) HBk.out (by omega) (fun j u hu => by simpa [Ver.cells] using hu)) (fun h => by cases h) (fun _ _ => rfl) (fun y u hu => one_ver y u hu) (by unfold maxLen; omega) (by omega) (by simp) ?_)
      intro v' w7 hown7 hg7
      have HO3 : Hid (OwnV w7 w2.heap.size v' pre) := Lib.hid (by rw [Hp.out]; simpa [OwnV, Ver.cells] using hown7)
      have HB3 : Hid (Below w2.heap.size w2 w7) := Lib.hid (HBa.out.trans (below_grown_own HO2.out hg7 (by simp)))
      clear hown7 hg7 x0 x1 x2
      go_wp2_with fail
      go_loopw [8, 10] (fun v0 i wr => ∃ (j : Nat) (v : Value), v = v0 ∧ j ≤ len - u ∧ i = .int .i64 ((u + j : Nat) : Int) ∧ Hid (OwnV wr w2.heap.size v (pre ++ ((vs.drop u).take j).filter fun v => bs.contains v.num)) ∧ Hid (Below w2.heap.size w2 wr)) (fun _ i _ => len - (RowKit.intOf i).toNat)
      case atStart => exact ⟨0, _, rfl, Nat.zero_le _, by first | exact HI.out | exact HI2.out | rfl, Lib.hid (by simpa using HO3.out), HB3⟩
      case round =>
        obtain ⟨j, v, rfl, hj, rfl, HO, HB⟩ := hrel
        have hsr := HB.out.size
        by_cases hlt : j < len - u
        · obtain ⟨b3, off3, x, hAx, hbl3, hx, x0, x1, x2⟩ := VsAt.cell3 (Hlow.out _ (Hb2.out.trans (HB.out.mono hs2))) (show u + j < len from by omega)
          have hxx := hx
          first | (injection hAx with hAx; injection hAx with e1 e2; have e1' := e1.symm; have e2' := e2.symm; subst e1' e2'; clear e1 e2) | subst hAx
          have hst := dump_take (beyond := bs) (vs := vs) (u := u) (k := j) (x := x) (by rw [List.getElem?_drop]; exact hx)
          have Hst := Lib.hid hst
          have hfl : (((vs.drop u).take j).filter fun v => bs.contains v.num).length ≤ len := Nat.le_trans (List.length_filter_le _ _) (by rw [List.length_take]; omega)
          have hple : (pre ++ ((vs.drop u).take j).filter fun v => bs.contains v.num).length ≤ len + 1 := by rw [List.length_append]; omega
          generalize hS : pre ++ ((vs.drop u).take j).filter (fun v => bs.contains v.num) = S at *
          have Hst2 : Hid (pre ++ ((vs.drop u).take (j + 1)).filter (fun v => bs.contains v.num) = S ++ if bs.contains x.num then [x] else []) := Lib.hid (by rw [hst, ← hS, List.append_assoc])
          clear hst Hst hS hx hfl
          obtain ⟨num, val, drop⟩ := x
          simp only at x0 x1 x2 Hst2
          have hlt2 : ((u + j : Nat) : Int) < (len : Int) := by omega
          have h02 : (0 : Int) ≤ ((u + j : Nat) : Int) := by omega
          have htn : (((u + j : Nat) : Int)).toNat = u + j := by omega
          have Hxx := Lib.hid hxx
          clear x0 x1 x2 hxx
          go_wp2_with fail
          go_loopw [8, 11] (fun v2 n wr2 => ∃ m : Nat, m ≤ lb ∧ n = .int .i64 m ∧ v2 = v ∧ Hid ((bs.take m).contains num = false) ∧ Hid (OwnV wr2 w2.heap.size v S) ∧ Hid (Below w2.heap.size w2 wr2)) (fun _ n _ => lb - (RowKit.intOf n).toNat)
          case atStart => exact ⟨0, Nat.zero_le _, rfl, rfl, Lib.hid (by simp), HO, HB⟩
          case round =>
            clear HO HB
            obtain ⟨m, hm, rfl, rfl, HN, HO, HB⟩ := hrel
            have hsr := HB.out.size
            by_cases hlm : m < lb
            · obtain ⟨b2, off2, x2, he, hbl2, hx2, x0, x1, x2c⟩ := VsAt.cell3 (Hlow.out _ (Hb2.out.trans (HB.out.mono hs2))) (show u + j < len from by omega)
              injection he with he; injection he with he1 he2; subst he1 he2
              rw [Hxx.out] at hx2
              injection hx2 with hx2
              subst hx2
              simp only at x0 x1 x2c
              obtain ⟨bb, ob, z, rfl, hblb, hz, hcz⟩ := (Hlowb.out _ (Hb2.out.trans (HB.out.mono hs2))).at_ hlm
              have z0 := hcz 0 _ rfl
              rw [Nat.add_zero, Nat.mul_one] at z0
              have Hz := Lib.hid hz
              have hm1 : (m : Int) < (lb : Int) := by omega
              have hm0 : (0 : Int) ≤ (m : Int) := by omega
              clear hcz hz
              by_cases hzn : z = num
              · have HC3 : Hid (bs.contains num = true) := Lib.hid (contains_at (by rw [Hz.out, hzn]))
                clear Hz
                go_upto_region 13 with fail
                go_quiet (fail)
                generalize hV : World.drewN wr nq = wv
                have x0' : wv.cell? ⟨b3, off3 + (u + j) * 3, none⟩ = some (.int .i64 num) := by rw [← hV]; exact x0
                have x1' : wv.cell? ⟨b3, off3 + (u + j) * 3 + 1, none⟩ = some (.string val) := by rw [← hV]; exact x1
                have x2' : wv.cell? ⟨b3, off3 + (u + j) * 3 + 2, none⟩ = some (.bool drop) := by rw [← hV]; exact x2c
                replace HO : Hid (OwnV wv w2.heap.size _ S) := Lib.hid (by rw [← hV]; exact HO.out)
                replace HB : Hid (Below w2.heap.size w2 wv) := Lib.hid (by rw [← hV]; exact below_drewN HB.out _)
                have hsv := HB.out.size
                clear x0 x1 x2c z0 hV
                have hbk := blk_new wv (.cells #[.int .i64 num, .string val, .bool drop] 104)
                have HBk := Lib.hid hbk
                have HO2 : Hid (OwnV (wv.alloc (.cells #[.int .i64 num, .string val, .bool drop] 104)) w2.heap.size _ S) := Lib.hid (HO.out.alloc _)
                have HBa : Hid (Below w2.heap.size w2 (wv.alloc (.cells #[.int .i64 num, .string val, .bool drop] 104))) := Lib.hid (HB.out.alloc hsv _)
                clear hbk
                go_wp2_with (at_builtin; refine wpList_append_row (cells := Ver.cells) rfl _ _ 68 rfl w2.heap.size 104 i0 (.agg #[.int .i64 0, .string ⟨#[]⟩, .bool false]) 3 32 Tryz.underlying68 hi hz0 hz1 hz2 rfl (by decide) _ _ _ rfl HO2.out (some ⟨wv.heap.size, 0, none⟩) 1 1 (wv.heap.size + 1) [⟨num, val, drop⟩] rfl (rowAt_block [⟨num, val, drop⟩] (len_ver _) HBk.out (by omega) (fun j u hu => by simpa [Ver.cells] using hu)) (fun h => by cases h) (fun _ _ => rfl) (fun y u hu => one_ver y u hu) (by unfold maxLen; omega) (by omega) (by simp; omega) ?_)
                intro v' w7 hown7 hg7
                have HO7 := Lib.hid hown7
                have HB7 : Hid (Below w2.heap.size w2 w7) := Lib.hid (HBa.out.trans (below_grown_own HO2.out hg7 (by simp; omega)))
                clear hown7 hg7
                go_wp2_with fail
                exact ⟨⟨j + 1, _, rfl, by omega, by rw [show ((u + (j + 1) : Nat) : Int) = ((u + j : Nat) : Int) + 1 from by omega]; go_num, Lib.hid (by rw [Hst2.out, if_pos HC3.out]; have := HO7.out; simpa [OwnV, Ver.cells] using this), HB7⟩, by simp [RowKit.intOf]; omega⟩
              · have HN2 := Lib.hid (contains_step Hz.out hzn HN.out)
                clear Hz
                go_upto_region 13 with fail
                go_quiet (fail)
                generalize hV : World.drewN wr nq = wv
                have x0' : wv.cell? ⟨b3, off3 + (u + j) * 3, none⟩ = some (.int .i64 num) := by rw [← hV]; exact x0
                have x1' : wv.cell? ⟨b3, off3 + (u + j) * 3 + 1, none⟩ = some (.string val) := by rw [← hV]; exact x1
                have x2' : wv.cell? ⟨b3, off3 + (u + j) * 3 + 2, none⟩ = some (.bool drop) := by rw [← hV]; exact x2c
                replace HO : Hid (OwnV wv w2.heap.size _ S) := Lib.hid (by rw [← hV]; exact HO.out)
                replace HB : Hid (Below w2.heap.size w2 wv) := Lib.hid (by rw [← hV]; exact below_drewN HB.out _)
                have hsv := HB.out.size
                clear x0 x1 x2c z0 hV
                go_wp2_with fail
                exact ⟨⟨m + 1, by omega, by go_num, rfl, HN2, HO, HB⟩, by simp [RowKit.intOf]; omega⟩
            · obtain rfl : m = lb := by omega
              have HC3 : Hid (bs.contains num = false) := Lib.hid (by have := HN.out; rwa [List.take_of_length_le (by rw [Hlenb.out]; exact Nat.le_refl _)] at this)
              go_wp2_with fail
              exact ⟨⟨j + 1, _, rfl, by omega, by rw [show ((u + (j + 1) : Nat) : Int) = ((u + j : Nat) : Int) + 1 from by omega]; go_num, Lib.hid (by rw [Hst2.out, if_neg (by rw [HC3.out]; simp), List.append_nil]; exact HO.out), HB⟩, by simp [RowKit.intOf]; omega⟩
        · obtain rfl : j = len - u := by omega
          have hle : ((u + (len - u) : Nat) : Int) = (len : Int) := by omega
          rw [hle]
          go_wp2_with fail
          go_ret2
          refine ⟨_, rfl, ?_, Hb2.out.trans (HB.out.mono hs2)⟩
          rw [Hdv2.out]
          have h1 : (vs.drop u).take (len - u) = vs.drop u := List.take_of_length_le (by rw [List.length_drop, hlen.out]; exact Nat.le_refl _)
          have h2 := HO.out
          rw [h1] at h2
          exact ownsRow_base_a h2 hs2
    · have hp : pre = [] := by rw [hpx]; rfl
      have HO3 : Hid (OwnV w2 w2.heap.size (.slice none 0 0) pre) := Lib.hid (by rw [hp]; exact HnilE.out _)
      have HB3 : Hid (Below w2.heap.size w2 w2) := Lib.hid (Below.refl _ _)
      clear hp hpx
      go_wp2_with fail
      go_loopw [8, 10] (fun v0 i wr => ∃ (j : Nat) (v : Value), v = v0 ∧ j ≤ len - u ∧ i = .int .i64 ((u + j : Nat) : Int) ∧ Hid (OwnV wr w2.heap.size v (pre ++ ((vs.drop u).take j).filter fun v => bs.contains v.num)) ∧ Hid (Below w2.heap.size w2 wr)) (fun _ i _ => len - (RowKit.intOf i).toNat)
      case atStart => exact ⟨0, _, rfl, Nat.zero_le _, by first | exact HI.out | exact HI2.out | rfl, Lib.hid (by simpa using HO3.out), HB3⟩
      case round =>
        obtain ⟨j, v, rfl, hj, rfl, HO, HB⟩ := hrel
        have hsr := HB.out.size
        by_cases hlt : j < len - u
        · obtain ⟨b3, off3, x, hAx, hbl3, hx, x0, x1, x2⟩ := VsAt.cell3 (Hlow.out _ (Hb2.out.trans (HB.out.mono hs2))) (show u + j < len from by omega)
          have hxx := hx
          first | (injection hAx with hAx; injection hAx with e1 e2; have e1' := e1.symm; have e2' := e2.symm; subst e1' e2'; clear e1 e2) | subst hAx
          have hst := dump_take (beyond := bs) (vs := vs) (u := u) (k := j) (x := x) (by rw [List.getElem?_drop]; exact hx)
          have Hst := Lib.hid hst
          have hfl : (((vs.drop u).take j).filter fun v => bs.contains v.num).length ≤ len := Nat.le_trans (List.length_filter_le _ _) (by rw [List.length_take]; omega)
          have hple : (pre ++ ((vs.drop u).take j).filter fun v => bs.contains v.num).length ≤ len + 1 := by rw [List.length_append]; omega
          generalize hS : pre ++ ((vs.drop u).take j).filter (fun v => bs.contains v.num) = S at *
          have Hst2 : Hid (pre ++ ((vs.drop u).take (j + 1)).filter (fun v => bs.contains v.num) = S ++ if bs.contains x.num then [x] else []) := Lib.hid (by rw [hst, ← hS, List.append_assoc])
          clear hst Hst hS hx hfl
          obtain ⟨num, val, drop⟩ := x
          simp only at x0 x1 x2 Hst2
          have hlt2 : ((u + j : Nat) : Int) < (len : Int) := by omega
          have h02 : (0 : Int) ≤ ((u + j : Nat) : Int) := by omega
          have htn : (((u + j : Nat) : Int)).toNat = u + j := by omega
          have Hxx := Lib.hid hxx
          clear x0 x1 x2 hxx
          go_wp2_with fail
          go_loopw [8, 11] (fun v2 n wr2 => ∃ m : Nat, m ≤ lb ∧ n = .int .i64 m ∧ v2 = v ∧ Hid ((bs.take m).contains num = false) ∧ Hid (OwnV wr2 w2.heap.size v S) ∧ Hid (Below w2.heap.size w2 wr2)) (fun _ n _ => lb - (RowKit.intOf n).toNat)
          case atStart => exact ⟨0, Nat.zero_le _, rfl, rfl, Lib.hid (by simp), HO, HB⟩
          case round =>
            clear HO HB
            obtain ⟨m, hm, rfl, rfl, HN, HO, HB⟩ := hrel
            have hsr := HB.out.size
            by_cases hlm : m < lb
            · obtain ⟨b2, off2, x2, he, hbl2, hx2, x0, x1, x2c⟩ := VsAt.cell3 (Hlow.out _ (Hb2.out.trans (HB.out.mono hs2))) (show u + j < len from by omega)
              injection he with he; injection he with he1 he2; subst he1 he2
              rw [Hxx.out] at hx2
              injection hx2 with hx2
              subst hx2
              simp only at x0 x1 x2c
              obtain ⟨bb, ob, z, rfl, hblb, hz, hcz⟩ := (Hlowb.out _ (Hb2.out.trans (HB.out.mono hs2))).at_ hlm
              have z0 := hcz 0 _ rfl
              rw [Nat.add_zero, Nat.mul_one] at z0
              have Hz := Lib.hid hz
              have hm1 : (m : Int) < (lb : Int) := by omega
              have hm0 : (0 : Int) ≤ (m : Int) := by omega
              clear hcz hz
              by_cases hzn : z = num
              · have HC3 : Hid (bs.contains num = true) := Lib.hid (contains_at (by rw [Hz.out, hzn]))
                clear Hz
                go_upto_region 13 with fail
                go_quiet (fail)
                generalize hV : World.drewN wr nq = wv
                have x0' : wv.cell? ⟨b3, off3 + (u + j) * 3, none⟩ = some (.int .i64 num) := by rw [← hV]; exact x0
                have x1' : wv.cell? ⟨b3, off3 + (u + j) * 3 + 1, none⟩ = some (.string val) := by rw [← hV]; exact x1
                have x2' : wv.cell? ⟨b3, off3 + (u + j) * 3 + 2, none⟩ = some (.bool drop) := by rw [← hV]; exact x2c
                replace HO : Hid (OwnV wv w2.heap.size _ S) := Lib.hid (by rw [← hV]; exact HO.out)
                replace HB : Hid (Below w2.heap.size w2 wv) := Lib.hid (by rw [← hV]; exact below_drewN HB.out _)
                have hsv := HB.out.size
                clear x0 x1 x2c z0 hV
                have hbk := blk_new wv (.cells #[.int .i64 num, .string val, .bool drop] 104)
                have HBk := Lib.hid hbk
                have HO2 : Hid (OwnV (wv.alloc (.cells #[.int .i64 num, .string val, .bool drop] 104)) w2.heap.size _ S) := Lib.hid (HO.out.alloc _)
                have HBa : Hid (Below w2.heap.size w2 (wv.alloc (.cells #[.int .i64 num, .string val, .bool drop] 104))) := Lib.hid (HB.out.alloc hsv _)
                clear hbk
                go_wp2_with (at_builtin; refine wpList_append_row (cells := Ver.cells) rfl _ _ 68 rfl w2.heap.size 104 i0 (.agg #[.int .i64 0, .string ⟨#[]⟩, .bool false]) 3 32 Tryz.underlying68 hi hz0 hz1 hz2 rfl (by decide) _ _ _ rfl HO2.out (some ⟨wv.heap.size, 0, none⟩) 1 1 (wv.heap.size + 1) [⟨num, val, drop⟩] rfl (rowAt_block [⟨num, val, drop⟩] (len_ver _) HBk.out (by omega) (fun j u hu => by simpa [Ver.cells] using hu)) (fun h => by cases h) (fun _ _ => rfl) (fun y u hu => one_ver y u hu) (by unfold maxLen; omega) (by omega) (by simp; omega) ?_)
                intro v' w7 hown7 hg7
                have HO7 := Lib.hid hown7
                have HB7 : Hid (Below w2.heap.size w2 w7) := Lib.hid (HBa.out.trans (below_grown_own HO2.out hg7 (by simp; omega)))
                clear hown7 hg7
                go_wp2_with fail
                exact ⟨⟨j + 1, _, rfl, by omega, by rw [show ((u + (j + 1) : Nat) : Int) = ((u + j : Nat) : Int) + 1 from by omega]; go_num, Lib.hid (by rw [Hst2.out, if_pos HC3.out]; have := HO7.out; simpa [OwnV, Ver.cells] using this), HB7⟩, by simp [RowKit.intOf]; omega⟩
              · have HN2 := Lib.hid (contains_step Hz.out hzn HN.out)
                clear Hz
                go_upto_region 13 with fail
                go_quiet (fail)
                generalize hV : World.drewN wr nq = wv
                have x0' : wv.cell? ⟨b3, off3 + (u + j) * 3, none⟩ = some (.int .i64 num) := by rw [← hV]; exact x0
                have x1' : wv.cell? ⟨b3, off3 + (u + j) * 3 + 1, none⟩ = some (.string val) := by rw [← hV]; exact x1
                have x2' : wv.cell? ⟨b3, off3 + (u + j) * 3 + 2, none⟩ = some (.bool drop) := by rw [← hV]; exact x2c
                replace HO : Hid (OwnV wv w2.heap.size _ S) := Lib.hid (by rw [← hV]; exact HO.out)
                replace HB : Hid (Below w2.heap.size w2 wv) := Lib.hid (by rw [← hV]; exact below_drewN HB.out _)
                have hsv := HB.out.size
                clear x0 x1 x2c z0 hV
                go_wp2_with fail
                exact ⟨⟨m + 1, by omega, by go_num, rfl, HN2, HO, HB⟩, by simp [RowKit.intOf]; omega⟩
            · obtain rfl : m = lb := by omega
              have HC3 : Hid (bs.contains num = false) := Lib.hid (by have := HN.out; rwa [List.take_of_length_le (by rw [Hlenb.out]; exact Nat.le_refl _)] at this)
              go_wp2_with fail
              exact ⟨⟨j + 1, _, rfl, by omega, by rw [show ((u + (j + 1) : Nat) : Int) = ((u + j : Nat) : Int) + 1 from by omega]; go_num, Lib.hid (by rw [Hst2.out, if_neg (by rw [HC3.out]; simp), List.append_nil]; exact HO.out), HB⟩, by simp [RowKit.intOf]; omega⟩
        · obtain rfl : j = len - u := by omega
          have hle : ((u + (len - u) : Nat) : Int) = (len : Int) := by omega
          rw [hle]
          go_wp2_with fail
          go_ret2
          refine ⟨_, rfl, ?_, Hb2.out.trans (HB.out.mono hs2)⟩
          rw [Hdv2.out]
          have h1 : (vs.drop u).take (len - u) = vs.drop u := List.take_of_length_le (by rw [List.length_drop, hlen.out]; exact Nat.le_refl _)
          have h2 := HO.out
          rw [h1] at h2
          exact ownsRow_base_a h2 hs2
end Go.Proofs.YtfpcgfgofemhoaaGreat


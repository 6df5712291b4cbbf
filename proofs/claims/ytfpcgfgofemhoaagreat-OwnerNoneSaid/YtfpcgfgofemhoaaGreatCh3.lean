/- chain: Put. -/
import Derived.Test.YtfpcgfgofemhoaaGreatCh2
namespace Go.Proofs.YtfpcgfgofemhoaaGreat
open Go.RowKit
set_option linter.unusedVariables false
set_option linter.unusedSimpArgs false

theorem size_ad (w : World) (o : Obj) : (w.alloc o).drew.heap.size = w.heap.size + 1 := by show (w.alloc o).heap.size = _; simp
theorem ownsRow_base_a {w : World} {b c : Nat} {e : TypeId} {size n : Nat} {v : Value} {xs : List Value} (h : w.ownsRow b e size v n xs) (hc : c ≤ b) : w.ownsRow c e size v n xs := by
  obtain ⟨h1, h2 | ⟨g, cap, cur, h3, h4, h5⟩⟩ := h
  · exact ⟨h1, Or.inl h2⟩
  · exact ⟨h1, Or.inr ⟨g, cap, cur, h3, Nat.le_trans hc h4, h5⟩⟩
set_option maxRecDepth 100000
set_option maxHeartbeats 8000000 in
theorem put_any (A : Option Addr) (len cap : Nat) (vs : List Ver) (x : Ver) (w : World) (hw : VsAt w w.heap.size A len vs) (hn : A = none → cap = 0) (hl : len ≤ 4398046511104) (hc : chkB vs = true) :
    Calls Tryz.prog 90 #[.slice A len cap, x.v] w (PutEnd w vs x) := by
  have hasc := (chkB_iff.1 hc).2
  have hlen := Lib.hid hw.len
  have hlow : ∀ X, Below w.heap.size w X → VsAt X X.heap.size A len vs := fun X h => (hw.below h).more h.size
  have Hlow := Lib.hid hlow
  have hul := upto_le vs x.num
  rw [hw.len] at hul
  have hl65 := chkB_len hc
  have Hl65 := Lib.hid hl65
  have Hc := Lib.hid hc
  have Hasc := Lib.hid hasc
  have Hn := Lib.hid hn
  have hup := upto_any A len cap vs x.num
  have Hup := Lib.hid hup
  have hhas := hasV_at hasc x.num
  have hat : atV vs x.num = if upto vs x.num = 0 then none else vs[upto vs x.num - 1]? := rfl
  rw [hat] at hhas
  have hput : putV vs x = vs.take (upto vs x.num) ++ x :: vs.drop (upto vs x.num) := rfl
  have hpost : ∀ (v : Value) (b c : Bool) (l : List Ver) (X : World), (verB x && !hasV vs x.num) = b → verB x = c → (c = true → (if hasV vs x.num then vs else putV vs x) = l ∧ OwnV X w.heap.size v l) → Below w.heap.size w X → PutEnd w vs x (.returned (.tuple #[v, .bool b, .int .i64 (errOf c)])) X := fun v b c l X h1 h2 h3 h4 => by
    subst h1 h2
    exact ⟨v, rfl, h4, fun h => by obtain ⟨h5, h6⟩ := h3 h; rw [h5]; exact h6⟩
  have Hpost := Lib.hid hpost
  have hone := chk_one x
  have Hone := Lib.hid hone
  generalize hu : upto vs x.num = u at *
  have Hul0 := Lib.hid hul
  have Hhas := Lib.hid hhas
  have Hput := Lib.hid hput
  have hcell : ∀ X : World, X.heap[w.heap.size]? = some (.cells x.cells.toArray 104 (0, 0)) → X.cell? ⟨w.heap.size, 0, none⟩ = some (.int .i64 x.num) ∧ X.cell? ⟨w.heap.size, 1, none⟩ = some (.string x.val) ∧ X.cell? ⟨w.heap.size, 2, none⟩ = some (.bool x.drop) := fun X h => ⟨(blk_cell h 0).trans rfl, (blk_cell h 1).trans rfl, (blk_cell h 2).trans rfl⟩
  have Hcell := Lib.hid hcell
  have hxc : x.cells.toArray = #[.int .i64 x.num, .string x.val, .bool x.drop] := rfl
  have Hxc := Lib.hid hxc
  have hins := fun v k g W => ins_any w.heap.size v vs x k g W
  have Hins := Lib.hid hins
  clear hlow hasc hc hw hul hl65 hn hup hhas hat hput hpost hone hu hcell hxc hins
  unfold Ver.v
  go_enter Tryz.func90, Tryz.ntmps90
  go_wp2_with fail
  refine (chk_ok A len cap vs _ (Hlow.out _ (bel_alloc (Below.refl _ _) _)) hl Hc.out).mono ?_
  rintro e w1 ⟨rfl, hb1⟩
  have hz1 : w.heap.size < w1.heap.size := by have := hb1.size; simp at this; omega
  have hblk1 : w1.heap[w.heap.size]? = some (.cells x.cells.toArray 104 (0, 0)) := (hb1.block w.heap.size (by simp)).trans (blk_new w _)
  have Hblk1 := Lib.hid hblk1
  obtain ⟨c0, c1, c2⟩ := Hcell.out w1 hblk1
  have Hb1 := Lib.hid (below_box (hb1.mono (by simp)))
  clear hb1 hblk1
  go_wp2_with fail
  refine (Hone.out w1.heap.size _ (blk_new _ _)).mono ?_
  rintro e w2 ⟨rfl, hb2⟩
  have hz2 : w.heap.size < w2.heap.size := by have := hb2.size; simp at this; omega
  have hblk2 := (hb2.block w.heap.size (by simp; omega)).trans ((Below.heap_alloc w1 _ _ hz1).trans Hblk1.out)
  have Hblk2 := Lib.hid hblk2
  have Hb2 := Lib.hid ((bel_alloc Hb1.out _).trans (hb2.mono (by simp; omega)))
  clear hb2 hblk2 c0 c1 c2
  cases hv : verB x
  · have Hv := Lib.hid hv
    clear hv
    go_wp2_with fail
    go_ret3
    exact Hpost.out _ false false [] w2 (by rw [Hv.out]; rfl) Hv.out (fun h => by cases h) Hb2.out
  · have Hv := Lib.hid hv
    clear hv
    obtain ⟨c0, c1, c2⟩ := Hcell.out w2 Hblk2.out
    go_wp2_with fail
    refine (Hup.out w2 (Hlow.out _ Hb2.out) hl Hasc.out).mono ?_
    rintro e w3 ⟨rfl, hb3⟩
    have hz3 : w.heap.size < w3.heap.size := by have := hb3.size; omega
    have hblk3 := (hb3.block w.heap.size hz2).trans Hblk2.out
    have Hblk3 := Lib.hid hblk3
    have Hb3 := Lib.hid (Hb2.out.trans (hb3.mono (by omega)))
    clear hb3 hblk3 c0 c1 c2
    obtain ⟨c0, c1, c2⟩ := Hcell.out w3 Hblk3.out
    have Hcl : Hid (∀ X, Below w.heap.size w X → Calls Tryz.prog 56 #[.slice A len cap] X fun e w' => ∃ v, e = .returned v ∧ OwnV w' X.heap.size v vs ∧ Below X.heap.size X w') := Lib.hid fun X hX => clone_any A len cap vs X (Hlow.out _ hX) Hn.out hl
    rcases Nat.eq_zero_or_pos u with h0 | h0
    · have hh : hasV vs x.num = false := by rw [Hhas.out, if_pos h0]
      have Hh := Lib.hid hh
      have d1 : decide ((0 : Int) < (u : Int)) = false := by simp; omega
      have d2 : decide (0 < u) = false := by simp; omega
      clear hh h0
      go_wp2_with fail
      go_quiet (fail)
      go_wp2_with fail
      rename Nat => nq
      have hz4 : w.heap.size < (w3.drewN nq).heap.size := hz3
      have hblk4 : (w3.drewN nq).heap[w.heap.size]? = some (.cells x.cells.toArray 104 (0, 0)) := Hblk3.out
      have hb4 : Below w.heap.size w (w3.drewN nq) := below_drewN Hb3.out _
      generalize w3.drewN nq = w4 at hz4 hblk4 hb4 ⊢
      have Hblk4 := Lib.hid hblk4
      have Hb4 := Lib.hid hb4
      clear hblk4 hb4
      obtain ⟨c0, c1, c2⟩ := Hcell.out w4 Hblk4.out
      have HS : Hid (∀ X, Below w4.heap.size w4 X → X.cell? ⟨w.heap.size, 0, none⟩ = some (.int .i64 x.num) ∧ X.cell? ⟨w.heap.size, 1, none⟩ = some (.string x.val) ∧ X.cell? ⟨w.heap.size, 2, none⟩ = some (.bool x.drop)) := Lib.hid fun X hX => Hcell.out X ((hX.block _ hz4).trans Hblk4.out)
      have HD : Hid (Below w4.heap.size w4 w4.drew) := Lib.hid (bel_drew (Below.refl _ _))
      have Hul : Hid (u ≤ vs.length) := Lib.hid (by rw [hlen.out]; exact Hul0.out)
      go_region_held3 (fun X => X.cell? ⟨w.heap.size, 0, none⟩ = some (.int .i64 x.num) ∧ X.cell? ⟨w.heap.size, 1, none⟩ = some (.string x.val) ∧ X.cell? ⟨w.heap.size, 2, none⟩ = some (.bool x.drop))
        (first | (refine HS.out _ ?_; (first | exact bel_drew (Below.refl _ _) | exact bel_drew (bel_alloc (Below.refl _ _) _) | exact HbI.out | exact HbC.out | exact bel_alloc HbC.out _)))
        (first
          | (go_at_call 56; have hk := Hcl.out w4.drew (bel_drew Hb4.out); (with_reducible refine hk.mono ?_); clear hk; rintro e wc ⟨v, rfl, hown, hbc⟩; have HbC : Hid (Below w4.heap.size w4 wc) := Lib.hid (HD.out.trans hbc); have HOwn : Hid (OwnV wc w4.heap.size v vs) := Lib.hid hown; clear hown hbc; have hzc := HbC.out.size)
          | (go_at_call 56; have hk := Hcl.out ((w4.alloc (.cells #[.int .i64 x.num, .string x.val, .bool x.drop] 104)).drew) (bel_drew (bel_alloc Hb4.out _)); (with_reducible refine hk.mono ?_); clear hk; rintro e wc ⟨v, rfl, hown, hbc⟩; rw [size_ad] at hown hbc; have hgc : wc.heap[w4.heap.size]? = some (.cells x.cells.toArray 104 (0, 0)) := (hbc.block w4.heap.size (by simp)).trans (blk_new w4 _); have HGc := Lib.hid hgc; have hlt' : ∀ g, v.ownBlock = some g → w4.heap.size < g := fun g hg => (by have := (hown.lt g hg).1; omega); have HLt := Lib.hid hlt'; have HbC : Hid (Below w4.heap.size w4 wc) := Lib.hid ((bel_drew (bel_alloc (Below.refl w4.heap.size w4) _)).trans (hbc.mono (by simp))); have HOwn : Hid (OwnV wc w4.heap.size v vs) := Lib.hid (ownsRow_base_a hown (by simp)); clear hown hbc hgc hlt'; have hzc := HbC.out.size)
          | (go_at_call 102; have hk := ins_any w4.heap.size v vs x u wc.heap.size (wc.alloc (.cells #[.int .i64 x.num, .string x.val, .bool x.drop] 104)) (HOwn.out.alloc _) Hl65.out Hul.out (blk_new wc _) (fun h => by have := (HOwn.out.lt _ h).2; omega) (by simp; omega); (with_reducible refine hk.mono ?_); clear hk; rintro e wi ⟨vi, rfl, hown, hbi⟩; have HbI : Hid (Below w4.heap.size w4 wi) := Lib.hid ((bel_alloc HbC.out _).trans hbi); have HOwnI := Lib.hid hown; clear hown hbi)
          | (go_at_call 102; have hk := ins_any w4.heap.size v vs x u w4.heap.size wc HOwn.out Hl65.out Hul.out HGc.out (fun h => by have := HLt.out _ h; omega) hzc; (with_reducible refine hk.mono ?_); clear hk; rintro e wi ⟨vi, rfl, hown, hbi⟩; have HbI : Hid (Below w4.heap.size w4 wi) := Lib.hid (HbC.out.trans hbi); have HOwnI := Lib.hid hown; clear hown hbi))
      all_goals
        go_wp2_with fail
        go_ret3
        exact Hpost.out vi true true (putV vs x) wi (by rw [Hv.out, Hh.out]; rfl) Hv.out (fun _ => ⟨by rw [Hh.out]; rfl, by rw [Hput.out]; exact ownsRow_base_a HOwnI.out (Nat.le_of_lt hz4)⟩) (Hb4.out.trans (HbI.out.mono (Nat.le_of_lt hz4)))
    · have hlt : u - 1 < len := by have := Hul0.out; omega
      obtain ⟨b, off, y, rfl, hbl, hy, y0⟩ := VsAt.num (Hlow.out w3 Hb3.out) hlt
      have d1 : decide ((0 : Int) < (u : Int)) = true := by simp; omega
      have d2 : decide (0 < u) = true := by simp; omega
      have d3 : (0 : Int) ≤ (u : Int) - 1 := by omega
      have d4 : (1 : Int) ≤ (u : Int) := by omega
      have d5 : ((u : Int) - 1).toNat = u - 1 := by omega
      have d6 : (u : Int) - 1 < (len : Int) := by omega
      have hh : hasV vs x.num = decide (y.num = x.num) := by rw [Hhas.out, if_neg (by omega), hy]
      have Hh0 := Lib.hid hh
      have d7 : IntKind.i64.wrap ((u : Int) - 1) = (u : Int) - 1 := IntWalk.i64_in _ (by omega)
      clear hh hy
      by_cases he : y.num = x.num
      · have hh : hasV vs x.num = true := by rw [Hh0.out]; simpa using he
        have Hh := Lib.hid hh
        have g1 : (y.num == x.num) = true := by simpa using he
        clear hh he
        go_wp2_with fail
        go_quiet (fail)
        go_wp2_with fail
        refine (Hcl.out _ (below_drewN Hb3.out _)).mono ?_
        rintro e wc ⟨v, rfl, hown, hbc⟩
        have HOwn := Lib.hid hown
        have HbC := Lib.hid ((below_drewN Hb3.out _).trans (hbc.mono (Nat.le_of_lt hz3)))
        clear hown hbc
        go_wp2_with fail
        go_ret3
        exact Hpost.out v false true vs wc (by rw [Hv.out, Hh.out]; rfl) Hv.out (fun _ => ⟨by rw [Hh.out]; rfl, ownsRow_base_a HOwn.out (Nat.le_of_lt hz3)⟩) HbC.out
      · have hh : hasV vs x.num = false := by rw [Hh0.out]; simpa using he
        have Hh := Lib.hid hh
        have g1 : (y.num == x.num) = false := by simpa using he
        clear hh he
        go_wp2_with fail
        go_quiet (fail)
        go_wp2_with fail
        rename Nat => nq
        have hz4 : w.heap.size < (w3.drewN nq).heap.size := hz3
        have hblk4 : (w3.drewN nq).heap[w.heap.size]? = some (.cells x.cells.toArray 104 (0, 0)) := Hblk3.out
        have hb4 : Below w.heap.size w (w3.drewN nq) := below_drewN Hb3.out _
        generalize w3.drewN nq = w4 at hz4 hblk4 hb4 ⊢
        have Hblk4 := Lib.hid hblk4
        have Hb4 := Lib.hid hb4
        clear hblk4 hb4
        obtain ⟨c0, c1, c2⟩ := Hcell.out w4 Hblk4.out
        have HS : Hid (∀ X, Below w4.heap.size w4 X → X.cell? ⟨w.heap.size, 0, none⟩ = some (.int .i64 x.num) ∧ X.cell? ⟨w.heap.size, 1, none⟩ = some (.string x.val) ∧ X.cell? ⟨w.heap.size, 2, none⟩ = some (.bool x.drop)) := Lib.hid fun X hX => Hcell.out X ((hX.block _ hz4).trans Hblk4.out)
        have HD : Hid (Below w4.heap.size w4 w4.drew) := Lib.hid (bel_drew (Below.refl _ _))
        have Hul : Hid (u ≤ vs.length) := Lib.hid (by rw [hlen.out]; exact Hul0.out)
        go_region_held3 (fun X => X.cell? ⟨w.heap.size, 0, none⟩ = some (.int .i64 x.num) ∧ X.cell? ⟨w.heap.size, 1, none⟩ = some (.string x.val) ∧ X.cell? ⟨w.heap.size, 2, none⟩ = some (.bool x.drop))
          (first | (refine HS.out _ ?_; (first | exact bel_drew (Below.refl _ _) | exact bel_drew (bel_alloc (Below.refl _ _) _) | exact HbI.out | exact HbC.out | exact bel_alloc HbC.out _)))
          (first
            | (go_at_call 56; have hk := Hcl.out w4.drew (bel_drew Hb4.out); (with_reducible refine hk.mono ?_); clear hk; rintro e wc ⟨v, rfl, hown, hbc⟩; have HbC : Hid (Below w4.heap.size w4 wc) := Lib.hid (HD.out.trans hbc); have HOwn : Hid (OwnV wc w4.heap.size v vs) := Lib.hid hown; clear hown hbc; have hzc := HbC.out.size)
            | (go_at_call 56; have hk := Hcl.out ((w4.alloc (.cells #[.int .i64 x.num, .string x.val, .bool x.drop] 104)).drew) (bel_drew (bel_alloc Hb4.out _)); (with_reducible refine hk.mono ?_); clear hk; rintro e wc ⟨v, rfl, hown, hbc⟩; rw [size_ad] at hown hbc; have hgc : wc.heap[w4.heap.size]? = some (.cells x.cells.toArray 104 (0, 0)) := (hbc.block w4.heap.size (by simp)).trans (blk_new w4 _); have HGc := Lib.hid hgc; have hlt' : ∀ g, v.ownBlock = some g → w4.heap.size < g := fun g hg => (by have := (hown.lt g hg).1; omega); have HLt := Lib.hid hlt'; have HbC : Hid (Below w4.heap.size w4 wc) := Lib.hid ((bel_drew (bel_alloc (Below.refl w4.heap.size w4) _)).trans (hbc.mono (by simp))); have HOwn : Hid (OwnV wc w4.heap.size v vs) := Lib.hid (ownsRow_base_a hown (by simp)); clear hown hbc hgc hlt'; have hzc := HbC.out.size)
            | (go_at_call 102; have hk := ins_any w4.heap.size v vs x u wc.heap.size (wc.alloc (.cells #[.int .i64 x.num, .string x.val, .bool x.drop] 104)) (HOwn.out.alloc _) Hl65.out Hul.out (blk_new wc _) (fun h => by have := (HOwn.out.lt _ h).2; omega) (by simp; omega); (with_reducible refine hk.mono ?_); clear hk; rintro e wi ⟨vi, rfl, hown, hbi⟩; have HbI : Hid (Below w4.heap.size w4 wi) := Lib.hid ((bel_alloc HbC.out _).trans hbi); have HOwnI := Lib.hid hown; clear hown hbi)
            | (go_at_call 102; have hk := ins_any w4.heap.size v vs x u w4.heap.size wc HOwn.out Hl65.out Hul.out HGc.out (fun h => by have := HLt.out _ h; omega) hzc; (with_reducible refine hk.mono ?_); clear hk; rintro e wi ⟨vi, rfl, hown, hbi⟩; have HbI : Hid (Below w4.heap.size w4 wi) := Lib.hid (HbC.out.trans hbi); have HOwnI := Lib.hid hown; clear hown hbi))
        all_goals
          go_wp2_with fail
          go_ret3
          exact Hpost.out vi true true (putV vs x) wi (by rw [Hv.out, Hh.out]; rfl) Hv.out (fun _ => ⟨by rw [Hh.out]; rfl, by rw [Hput.out]; exact ownsRow_base_a HOwnI.out (Nat.le_of_lt hz4)⟩) (Hb4.out.trans (HbI.out.mono (Nat.le_of_lt hz4)))
end Go.Proofs.YtfpcgfgofemhoaaGreat

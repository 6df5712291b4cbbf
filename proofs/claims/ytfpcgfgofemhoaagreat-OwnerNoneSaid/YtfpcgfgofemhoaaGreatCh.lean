/- chain: At, Put, Collect. -/
import Derived.Test.YtfpcgfgofemhoaaGreatSh1
import Derived.Test.YtfpcgfgofemhoaaGreatIns2
import Derived.Deep.DeepCutAuto
import Derived.Deep.RegionHeld3
namespace Go.Proofs.YtfpcgfgofemhoaaGreat
open Go.RowKit
set_option linter.unusedVariables false
set_option linter.unusedSimpArgs false

set_option maxRecDepth 100000
theorem chk_ok (A : Option Addr) (len cap : Nat) (vs : List Ver) (w : World) (hw : VsAt w w.heap.size A len vs) (hl : len ≤ 4398046511104) (hc : chkB vs = true) :
    Calls Tryz.prog 55 #[.slice A len cap] w fun e w' => e = .returned (.int .i64 0) ∧ Below w.heap.size w w' := by
  have := chkv_any A len cap vs w hw hl
  rw [hc] at this; exact this
theorem chkB_one (x : Ver) : chkB [x] = verB x := by simp [chkB, Asc]
theorem chk_one (x : Ver) (g : Nat) (w : World) (hg : w.heap[g]? = some (.cells x.cells.toArray 104 (0, 0))) :
    Calls Tryz.prog 55 #[.slice (some ⟨g, 0, none⟩) 1 1] w fun e w' => e = .returned (.int .i64 (errOf (verB x))) ∧ Below w.heap.size w w' := by
  have := chkv_any (some ⟨g, 0, none⟩) 1 1 [x] w (rowAt_block [x] (len_ver _) hg (blk_lt hg) (fun j u hu => by simpa using hu)) (by omega)
  rw [chkB_one] at this; exact this
theorem set3 {W : World} {g : Nat} {x y z a b c : Value} {t : TypeId} (h : W.heap[g]? = some (.cells #[x, y, z] t (0, 0))) : (((W.setCell ⟨g, 0, none⟩ a).setCell ⟨g, 1, none⟩ b).setCell ⟨g, 2, none⟩ c).heap[g]? = some (.cells #[a, b, c] t (0, 0)) := by
  simpa using blk_set (blk_set (blk_set h 0 a) 1 b) 2 c
/-- What Put answers. -/
def PutEnd (w : World) (vs : List Ver) (x : Ver) (e : Ending) (w' : World) : Prop :=
  ∃ v, e = .returned (.tuple #[v, .bool (verB x && !hasV vs x.num), .int .i64 (errOf (verB x))]) ∧ Below w.heap.size w w' ∧ (verB x = true → OwnV w' w.heap.size v (if hasV vs x.num then vs else putV vs x))
/-- What At answers. -/
def atA (vs : List Ver) (m : Int) : Ver := (atV vs m).getD ⟨0, ⟨#[]⟩, false⟩
def AtEnd (w : World) (vs : List Ver) (m : Int) (e : Ending) (w' : World) : Prop :=
  e = .returned (.tuple #[(atA vs m).v, .bool (atV vs m).isSome, .int .i64 0]) ∧ Below w.heap.size w w'
set_option maxHeartbeats 2000000 in
theorem at_any (A : Option Addr) (len cap : Nat) (vs : List Ver) (m : Int) (w : World) (hw : VsAt w w.heap.size A len vs) (hl : len ≤ 4398046511104) (hc : chkB vs = true) :
    Calls Tryz.prog 91 #[.slice A len cap, .int .i64 m] w (AtEnd w vs m) := by
  have hasc := (chkB_iff.1 hc).2
  have hlen := Lib.hid hw.len
  have hlow : ∀ X, Below w.heap.size w X → VsAt X X.heap.size A len vs := fun X h => (hw.below h).more h.size
  have Hlow := Lib.hid hlow
  have Hw := Lib.hid hw
  have hul := upto_le vs m
  have hpost : ∀ (v : Ver) (b : Bool) (X : World), atA vs m = v → (atV vs m).isSome = b → Below w.heap.size w X → AtEnd w vs m (.returned (.tuple #[.agg #[.int .i64 v.num, .string v.val, .bool v.drop], .bool b, .int .i64 0])) X := fun v b X h1 h2 h3 => by
    subst h1 h2; exact ⟨rfl, h3⟩
  have Hpost := Lib.hid hpost
  have Hc := Lib.hid hc
  have Hasc := Lib.hid hasc
  have hun : atV vs m = if upto vs m = 0 then none else vs[upto vs m - 1]? := rfl
  have Hun := Lib.hid hun
  have Hul := Lib.hid hul
  clear hlow hpost hasc hc hw hun hul
  go_enter Tryz.func91, Tryz.ntmps91
  go_wp2_with fail
  refine (chk_ok A len cap vs _ (Hlow.out _ (bel_alloc (Below.refl _ _) _)) hl Hc.out).mono ?_
  rintro e w1 ⟨rfl, hb1⟩
  have hz1 : w.heap.size < w1.heap.size := by have := hb1.size; simp at this; omega
  have hblk1 := (hb1.block w.heap.size (by simp)).trans (blk_new w _)
  have Hblk1 := Lib.hid hblk1
  have Hb1 := Lib.hid (below_box (hb1.mono (by simp)))
  clear hb1 hblk1
  go_wp2_with fail
  refine (upto_any A len cap vs m _ (Hlow.out _ Hb1.out) hl Hasc.out).mono ?_
  rintro e w2 ⟨rfl, hb2⟩
  have hz2 : w.heap.size < w2.heap.size := by have := hb2.size; omega
  have hblk2 := (hb2.block w.heap.size hz1).trans Hblk1.out
  have Hb2 := Lib.hid (Hb1.out.trans (hb2.mono (by omega)))
  have c0 := blk_cell hblk2 0
  have c1 := blk_cell hblk2 1
  have c2 := blk_cell hblk2 2
  simp only [List.getElem?_toArray, List.getElem?_cons_zero, List.getElem?_cons_succ] at c0 c1 c2
  have f0 := blk_frozen hblk2 0
  have f1 := blk_frozen hblk2 1
  have f2 := blk_frozen hblk2 2
  have Hset := Lib.hid fun a b c => set3 (a := a) (b := b) (c := c) hblk2
  have Hbel := Lib.hid fun (a b c : Value) => bel_set (bel_set (bel_set Hb2.out (b := w.heap.size) (i := 0) (Nat.le_refl _) a) (b := w.heap.size) (i := 1) (Nat.le_refl _) b) (b := w.heap.size) (i := 2) (Nat.le_refl _) c
  clear hblk2 hb2
  rcases Nat.eq_zero_or_pos (upto vs m) with h0 | h0
  · have Ha : Hid (atV vs m = none) := Lib.hid (by rw [Hun.out, if_pos h0])
    rw [h0]
    go_wp2_with fail
    refine bodyPost_ret (v := .tuple #[.agg #[.int .i64 0, .string ⟨#[]⟩, .bool false], .bool false, .int .i64 0]) (by have d := Hset.out (.int .i64 0) (.string ⟨#[]⟩) (.bool false); have d0 := blk_cell d 0; have d1 := blk_cell d 1; have d2 := blk_cell d 2; simp only [List.getElem?_toArray, List.getElem?_cons_zero, List.getElem?_cons_succ] at d0 d1 d2; simp [results, Tryz.results91, go_sem, d0, d1, d2]) rfl (Hpost.out ⟨0, ⟨#[]⟩, false⟩ false _ (by unfold atA; rw [Ha.out]; rfl) (by rw [Ha.out]; rfl) (Hbel.out _ _ _))
  · have hlt : upto vs m - 1 < len := by have := hlen.out; have := Hul.out; omega
    obtain ⟨b, off, x, rfl, hbl, hx, x0, x1, x2⟩ := VsAt.cell3 (Hlow.out _ Hb2.out) hlt
    have Ha : Hid (atV vs m = some x) := Lib.hid (by rw [Hun.out, if_neg (by omega)]; exact hx)
    have hu1 : (0 : Int) ≤ ((upto vs m : Nat) : Int) - 1 := by omega
    have hu2 : (((upto vs m : Nat) : Int) - 1).toNat = upto vs m - 1 := by omega
    have hu3 : ((upto vs m : Nat) : Int) - 1 < (len : Int) := by omega
    have hu4 : ((upto vs m : Nat) : Int) ≤ (len : Int) := by have := hlen.out; have := Hul.out; omega
    have hu5 : ¬ (((upto vs m : Nat) : Int) = 0) := by omega
    generalize upto vs m = u at h0 hlt x0 x1 x2 hu1 hu2 hu3 hu4 hu5 ⊢
    obtain ⟨num, val, drop⟩ := x
    simp only at x0 x1 x2
    clear hx
    go_wp2_with fail
    refine bodyPost_ret (v := .tuple #[.agg #[.int .i64 num, .string val, .bool drop], .bool true, .int .i64 0]) (by have d := Hset.out (.int .i64 num) (.string val) (.bool drop); have d0 := blk_cell d 0; have d1 := blk_cell d 1; have d2 := blk_cell d 2; simp only [List.getElem?_toArray, List.getElem?_cons_zero, List.getElem?_cons_succ] at d0 d1 d2; simp [results, Tryz.results91, go_sem, d0, d1, d2]) rfl (Hpost.out ⟨num, val, drop⟩ true _ (by unfold atA; rw [Ha.out]; rfl) (by rw [Ha.out]; rfl) (Hbel.out _ _ _))
end Go.Proofs.YtfpcgfgofemhoaaGreat

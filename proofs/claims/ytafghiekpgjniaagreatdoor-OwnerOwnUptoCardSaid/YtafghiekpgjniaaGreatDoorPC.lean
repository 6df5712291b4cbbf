/- Lemmas and contracts of functions that statements of this seat stand on, many texts in one; each holds under the premises typed in its head. -/
import Derived.Test.YtafghiekpgjniaaGreatDoorPB
import Derived.Deep.DeepCutAuto
import Derived.Deep.RegionHeld3
import Derived.Test.YtafghiekpgjniaaGreatDoorPA
/- chain: At, Put, Collect. -/
namespace Go.Proofs.YtafghiekpgjniaaGreatDoor
open Go.RowKit
set_option linter.unusedVariables false
set_option linter.unusedSimpArgs false

set_option maxRecDepth 100000
theorem chk_ok (A : Option Addr) (len cap : Nat) (vs : List Ver) (w : World) (hw : VsAt w w.heap.size A len vs) (hl : len ≤ 4398046511104) (hc : chkB vs = true) :
    Calls Tryz.prog 100 #[.slice A len cap] w fun e w' => e = .returned (.int .i64 0) ∧ Below w.heap.size w w' := by
  have := chkv_any A len cap vs w hw hl
  rw [hc] at this; exact this
theorem chkB_one (x : Ver) : chkB [x] = verB x := by simp [chkB, Asc]
theorem chk_one (x : Ver) (g : Nat) (w : World) (hg : w.heap[g]? = some (.cells x.cells.toArray 140 (0, 0))) :
    Calls Tryz.prog 100 #[.slice (some ⟨g, 0, none⟩) 1 1] w fun e w' => e = .returned (.int .i64 (errOf (verB x))) ∧ Below w.heap.size w w' := by
  have := chkv_any (some ⟨g, 0, none⟩) 1 1 [x] w (rowAt_block [x] (len_ver _) hg (blk_lt hg) (fun j u hu => by simpa using hu)) (by omega)
  rw [chkB_one] at this; exact this
theorem set3 {W : World} {g : Nat} {x y z a b c : Value} {t : TypeId} (h : W.heap[g]? = some (.cells #[x, y, z] t (0, 0))) : (((W.setCell ⟨g, 0, none⟩ a).setCell ⟨g, 1, none⟩ b).setCell ⟨g, 2, none⟩ c).heap[g]? = some (.cells #[a, b, c] t (0, 0)) := by
  simpa using blk_set (blk_set (blk_set h 0 a) 1 b) 2 c
/-- What Put answers. -/
def PutEnd (w : World) (vs : List Ver) (x : Ver) (e : Ending) (w' : World) : Prop :=
  ∃ v, e = .returned (.tuple #[v, .bool (verB x && !hasV vs x.num), .int .i64 (errOf (verB x))]) ∧ Below w.heap.size w w' ∧ (verB x = true → OwnV w' w.heap.size v (if hasV vs x.num then vs else putV vs x))
/-- What At answers. -/
def atA (vs : List Ver) (m : Int) : Ver := (atV vs m).getD ⟨0, ⟨#[]⟩, false⟩
def AtEnd (w : World) (vs : List Ver) (m : Int) (e : Ending) (w' : World) : Prop :=
  e = .returned (.tuple #[(atA vs m).v, .bool (atV vs m).isSome, .int .i64 0]) ∧ Below w.heap.size w w'
set_option maxHeartbeats 2000000 in
theorem at_any (A : Option Addr) (len cap : Nat) (vs : List Ver) (m : Int) (w : World) (hw : VsAt w w.heap.size A len vs) (hl : len ≤ 4398046511104) (hc : chkB vs = true) :
    Calls Tryz.prog 182 #[.slice A len cap, .int .i64 m] w (AtEnd w vs m) := by
  have hasc := (chkB_iff.1 hc).2
  have hlen := Lib.hid hw.len
  have hlow : ∀ X, Below w.heap.size w X → VsAt X X.heap.size A len vs := fun X h => (hw.below h).more h.size
  have Hlow := Lib.hid hlow
  have Hw := Lib.hid hw
  have hul := upto_le vs m
  have hpost : ∀ (v : Ver) (b : Bool) (X : World), atA vs m = v → (atV vs m).isSome = b → Below w.heap.size w X → AtEnd w vs m (.returned (.tuple #[.agg #[.int .i64 v.num, .string v.val, .bool v.drop], .bool b, .int .i64 0])) X := fun v b X h1 h2 h3 => by
    subst h1 h2; exact ⟨rfl, h3⟩
  have Hpost := Lib.hid hpost
  have Hc := Lib.hid hc
  have Hasc := Lib.hid hasc
  have hun : atV vs m = if upto vs m = 0 then none else vs[upto vs m - 1]? := rfl
  have Hun := Lib.hid hun
  have Hul := Lib.hid hul
  clear hlow hpost hasc hc hw hun hul
  go_enter Tryz.func182, Tryz.ntmps182
  go_wp2_with fail
  refine (chk_ok A len cap vs _ (Hlow.out _ (bel_alloc (Below.refl _ _) _)) hl Hc.out).mono ?_
  rintro e w1 ⟨rfl, hb1⟩
  have hz1 : w.heap.size < w1.heap.size := by have := hb1.size; simp at this; omega
  have hblk1 := (hb1.block w.heap.size (by simp)).trans (blk_new w _)
  have Hblk1 := Lib.hid hblk1
  have Hb1 := Lib.hid (below_box (hb1.mono (by simp)))
  clear hb1 hblk1
  go_wp2_with fail
  refine (upto_any A len cap vs m _ (Hlow.out _ Hb1.out) hl Hasc.out).mono ?_
  rintro e w2 ⟨rfl, hb2⟩
  have hz2 : w.heap.size < w2.heap.size := by have := hb2.size; omega
  have hblk2 := (hb2.block w.heap.size hz1).trans Hblk1.out
  have Hb2 := Lib.hid (Hb1.out.trans (hb2.mono (by omega)))
  have c0 := blk_cell hblk2 0
  have c1 := blk_cell hblk2 1
  have c2 := blk_cell hblk2 2
  simp only [List.getElem?_toArray, List.getElem?_cons_zero, List.getElem?_cons_succ] at c0 c1 c2
  have f0 := blk_frozen hblk2 0
  have f1 := blk_frozen hblk2 1
  have f2 := blk_frozen hblk2 2
  have Hset := Lib.hid fun a b c => set3 (a := a) (b := b) (c := c) hblk2
  have Hbel := Lib.hid fun (a b c : Value) => bel_set (bel_set (bel_set Hb2.out (b := w.heap.size) (i := 0) (Nat.le_refl _) a) (b := w.heap.size) (i := 1) (Nat.le_refl _) b) (b := w.heap.size) (i := 2) (Nat.le_refl _) c
  clear hblk2 hb2
  rcases Nat.eq_zero_or_pos (upto vs m) with h0 | h0
  · have Ha : Hid (atV vs m = none) := Lib.hid (by rw [Hun.out, if_pos h0])
    rw [h0]
    go_wp2_with fail
    refine bodyPost_ret (v := .tuple #[.agg #[.int .i64 0, .string ⟨#[]⟩, .bool false], .bool false, .int .i64 0]) (by have d := Hset.out (.int .i64 0) (.string ⟨#[]⟩) (.bool false); have d0 := blk_cell d 0; have d1 := blk_cell d 1; have d2 := blk_cell d 2; simp only [List.getElem?_toArray, List.getElem?_cons_zero, List.getElem?_cons_succ] at d0 d1 d2; simp [results, Tryz.results182, go_sem, d0, d1, d2]) rfl (Hpost.out ⟨0, ⟨#[]⟩, false⟩ false _ (by unfold atA; rw [Ha.out]; rfl) (by rw [Ha.out]; rfl) (Hbel.out _ _ _))
  · have hlt : upto vs m - 1 < len := by have := hlen.out; have := Hul.out; omega
    obtain ⟨b, off, x, rfl, hbl, hx, x0, x1, x2⟩ := VsAt.cell3 (Hlow.out _ Hb2.out) hlt
    have Ha : Hid (atV vs m = some x) := Lib.hid (by rw [Hun.out, if_neg (by omega)]; exact hx)
    have hu1 : (0 : Int) ≤ ((upto vs m : Nat) : Int) - 1 := by omega
    have hu2 : (((upto vs m : Nat) : Int) - 1).toNat = upto vs m - 1 := by omega
    have hu3 : ((upto vs m : Nat) : Int) - 1 < (len : Int) := by omega
    have hu4 : ((upto vs m : Nat) : Int) ≤ (len : Int) := by have := hlen.out; have := Hul.out; omega
    have hu5 : ¬ (((upto vs m : Nat) : Int) = 0) := by omega
    generalize upto vs m = u at h0 hlt x0 x1 x2 hu1 hu2 hu3 hu4 hu5 ⊢
    obtain ⟨num, val, drop⟩ := x
    simp only at x0 x1 x2
    clear hx
    go_wp2_with fail
    refine bodyPost_ret (v := .tuple #[.agg #[.int .i64 num, .string val, .bool drop], .bool true, .int .i64 0]) (by have d := Hset.out (.int .i64 num) (.string val) (.bool drop); have d0 := blk_cell d 0; have d1 := blk_cell d 1; have d2 := blk_cell d 2; simp only [List.getElem?_toArray, List.getElem?_cons_zero, List.getElem?_cons_succ] at d0 d1 d2; simp [results, Tryz.results182, go_sem, d0, d1, d2]) rfl (Hpost.out ⟨num, val, drop⟩ true _ (by unfold atA; rw [Ha.out]; rfl) (by rw [Ha.out]; rfl) (Hbel.out _ _ _))
end Go.Proofs.YtafghiekpgjniaaGreatDoor

/- chain: Collect, Put. -/

namespace Go.Proofs.YtafghiekpgjniaaGreatDoor
open Go.RowKit
set_option linter.unusedVariables false
set_option linter.unusedSimpArgs false

set_option maxRecDepth 100000
def CollEnd (w : World) (vs : List Ver) (m : Int) (e : Ending) (w' : World) : Prop :=
  ∃ A n, e = .returned (.tuple #[.slice A n n, .int .i64 (upto vs m - 1 : Nat), .int .i64 0]) ∧ VsAt w' w'.heap.size A n (collV vs m) ∧ (A = none → n = 0) ∧ TyV w' A n ∧ Below w.heap.size w w'
set_option maxHeartbeats 2000000 in
theorem collect_any (A : Option Addr) (len cap : Nat) (vs : List Ver) (m : Int) (w : World) (hw : VsAt w w.heap.size A len vs) (hn : A = none → cap = 0) (hl : len ≤ 4398046511104) (hc : chkB vs = true) :
    Calls Tryz.prog 186 #[.slice A len cap, .int .i64 m] w (CollEnd w vs m) := by
  have hasc := (chkB_iff.1 hc).2
  have hlen := Lib.hid hw.len
  have hlow : ∀ X, Below w.heap.size w X → VsAt X X.heap.size A len vs := fun X h => (hw.below h).more h.size
  have Hlow := Lib.hid hlow
  have hul := upto_le vs m
  have Hul := Lib.hid hul
  have Hc := Lib.hid hc
  have Hasc := Lib.hid hasc
  have Hn := Lib.hid hn
  have hup := upto_any A len cap vs m
  have hcv : collV vs m = vs.drop (upto vs m - 1) := rfl
  have Hcv := Lib.hid hcv
  have Hup := Lib.hid hup
  clear hlow hasc hc hw hul hn hup hcv
  generalize hu : upto vs m = u at *
  have Hu := Lib.hid hu
  have hpost : ∀ (A' : Option Addr) (n k : Nat) (X : World), k = u - 1 → VsAt X X.heap.size A' n (vs.drop k) → (A' = none → n = 0) → TyV X A' n → Below w.heap.size w X → CollEnd w vs m (.returned (.tuple #[.slice A' n n, .int .i64 k, .int .i64 0])) X := fun A' n k X h1 h2 h3 h5 h4 => by
    subst h1; exact ⟨A', n, by rw [Hu.out], by rw [Hcv.out]; exact h2, h3, h5, h4⟩
  have Hpost := Lib.hid hpost
  clear hu hpost
  go_enter Tryz.func186, Tryz.ntmps186
  go_wp2_with fail
  refine (chk_ok A len cap vs _ (Hlow.out _ (Below.refl _ _)) hl Hc.out).mono ?_
  rintro e w1 ⟨rfl, hb1⟩
  have Hb1 := Lib.hid hb1
  clear hb1
  go_wp2_with fail
  refine (Hup.out _ (Hlow.out _ Hb1.out) hl Hasc.out).mono ?_
  rintro e w2 ⟨rfl, hb2⟩
  have Hb2 := Lib.hid (Hb1.out.trans (hb2.mono Hb1.out.size))
  clear hb2
  have hul : u ≤ len := by have := Hul.out; rw [hlen.out] at this; exact this
  have hcl := clone_any A len cap vs w2 (Hlow.out _ Hb2.out) Hn.out hl
  have Hcl := Lib.hid hcl
  clear hcl
  rcases (show u = 0 ∨ u = 1 ∨ 2 ≤ u by omega) with rfl | rfl | h0
  · go_wp2_with fail
    refine Hcl.out.mono ?_
    rintro e w3 ⟨v, rfl, hown, hb3⟩
    have Hb3 := Lib.hid (Hb2.out.trans (hb3.mono Hb2.out.size))
    obtain ⟨A3, cap3, rfl, hrow, hA3, hc3⟩ := rowAt_own (len_ver vs) hown
    rw [hlen.out] at hrow hA3 hc3
    have hcm : cap3 ≤ 9223372036854775807 := by
      obtain ⟨-, ⟨h, -⟩ | ⟨g', cap', cur, h, -, -, -, hm, -⟩⟩ := hown
      · injection h with h1 h2 h3; omega
      · injection h with h1 h2 h3; unfold maxLen at hm; omega
    have Hty := Lib.hid (fun m => OwnV.ty hown m)
    have Hrow := Lib.hid hrow
    have HA3 := Lib.hid hA3
    have hl2 := hlen.out
    rw [hl2]
    clear hb3 hown hrow hA3 hl2
    go_wp2_with fail
    go_ret3
    exact Hpost.out A3 len 0 w3 rfl Hrow.out (fun h => (HA3.out h).1) (Hty.out _) Hb3.out
  · go_wp2_with fail
    refine Hcl.out.mono ?_
    rintro e w3 ⟨v, rfl, hown, hb3⟩
    have Hb3 := Lib.hid (Hb2.out.trans (hb3.mono Hb2.out.size))
    obtain ⟨A3, cap3, rfl, hrow, hA3, hc3⟩ := rowAt_own (len_ver vs) hown
    rw [hlen.out] at hrow hA3 hc3
    have hcm : cap3 ≤ 9223372036854775807 := by
      obtain ⟨-, ⟨h, -⟩ | ⟨g', cap', cur, h, -, -, -, hm, -⟩⟩ := hown
      · injection h with h1 h2 h3; omega
      · injection h with h1 h2 h3; unfold maxLen at hm; omega
    have Hty := Lib.hid (fun m => OwnV.ty hown m)
    have Hrow := Lib.hid hrow
    have HA3 := Lib.hid hA3
    have hl2 := hlen.out
    rw [hl2]
    clear hb3 hown hrow hA3 hl2
    go_wp2_with fail
    go_ret3
    exact Hpost.out A3 len 0 w3 rfl Hrow.out (fun h => (HA3.out h).1) (Hty.out _) Hb3.out
  · obtain ⟨q, rfl⟩ : ∃ q, u = q + 1 := ⟨u - 1, by omega⟩
    have hq1 : (((q + 1 : Nat) : Int) - 1) = (q : Int) := by omega
    have hq2 : (1 : Int) ≤ (q : Int) := by omega
    have hq3 : (q : Int) ≤ (len : Int) := by omega
    go_wp2_with fail
    refine Hcl.out.mono ?_
    rintro e w3 ⟨v, rfl, hown, hb3⟩
    have Hb3 := Lib.hid (Hb2.out.trans (hb3.mono Hb2.out.size))
    obtain ⟨A3, cap3, rfl, hrow, hA3, hc3⟩ := rowAt_own (len_ver vs) hown
    rw [hlen.out] at hrow hA3 hc3
    have hcm : cap3 ≤ 9223372036854775807 := by
      obtain ⟨-, ⟨h, -⟩ | ⟨g', cap', cur, h, -, -, -, hm, -⟩⟩ := hown
      · injection h with h1 h2 h3; omega
      · injection h with h1 h2 h3; unfold maxLen at hm; omega
    have Hty := Lib.hid (fun m => OwnV.ty hown m)
    have Hrow := Lib.hid hrow
    have HA3 := Lib.hid hA3
    have hl2 := hlen.out
    rw [hl2]
    clear hb3 hown hrow hA3 hl2
    have hne : ¬ len = q := by omega
    have hne2 : ¬ cap3 = q := by omega
    go_wp2_with fail
    go_ret3
    refine Hpost.out _ (len - q) q w3 rfl ?_ (fun h => ?_) ((Hty.out len).cut (by omega)) Hb3.out
    · have := Hrow.out.cut (k := q) (cap := len) (by omega) (Nat.le_refl _)
      rwa [if_neg hne] at this
    · cases A3 with
      | none => have := (HA3.out rfl).1; omega
      | some a => cases h
end Go.Proofs.YtafghiekpgjniaaGreatDoor

/- chain: Put. -/

namespace Go.Proofs.YtafghiekpgjniaaGreatDoor
open Go.RowKit
set_option linter.unusedVariables false
set_option linter.unusedSimpArgs false

theorem size_ad (w : World) (o : Obj) : (w.alloc o).drew.heap.size = w.heap.size + 1 := by show (w.alloc o).heap.size = _; simp
theorem ownsRow_base_a {w : World} {b c : Nat} {e : TypeId} {size n : Nat} {v : Value} {xs : List Value} (h : w.ownsRow b e size v n xs) (hc : c ≤ b) : w.ownsRow c e size v n xs := by
  obtain ⟨h1, h2 | ⟨g, cap, cur, h3, h4, h5⟩⟩ := h
  · exact ⟨h1, Or.inl h2⟩
  · exact ⟨h1, Or.inr ⟨g, cap, cur, h3, Nat.le_trans hc h4, h5⟩⟩
set_option maxRecDepth 100000
set_option maxHeartbeats 8000000 in
theorem put_any (A : Option Addr) (len cap : Nat) (vs : List Ver) (x : Ver) (w : World) (hw : VsAt w w.heap.size A len vs) (hn : A = none → cap = 0) (hl : len ≤ 4398046511104) (hc : chkB vs = true) :
    Calls Tryz.prog 177 #[.slice A len cap, x.v] w (PutEnd w vs x) := by
  have hasc := (chkB_iff.1 hc).2
  have hlen := Lib.hid hw.len
  have hlow : ∀ X, Below w.heap.size w X → VsAt X X.heap.size A len vs := fun X h => (hw.below h).more h.size
  have Hlow := Lib.hid hlow
  have hul := upto_le vs x.num
  rw [hw.len] at hul
  have hl65 := chkB_len hc
  have Hl65 := Lib.hid hl65
  have Hc := Lib.hid hc
  have Hasc := Lib.hid hasc
  have Hn := Lib.hid hn
  have hup := upto_any A len cap vs x.num
  have Hup := Lib.hid hup
  have hhas := hasV_at hasc x.num
  have hat : atV vs x.num = if upto vs x.num = 0 then none else vs[upto vs x.num - 1]? := rfl
  rw [hat] at hhas
  have hput : putV vs x = vs.take (upto vs x.num) ++ x :: vs.drop (upto vs x.num) := rfl
  have hpost : ∀ (v : Value) (b c : Bool) (l : List Ver) (X : World), (verB x && !hasV vs x.num) = b → verB x = c → (c = true → (if hasV vs x.num then vs else putV vs x) = l ∧ OwnV X w.heap.size v l) → Below w.heap.size w X → PutEnd w vs x (.returned (.tuple #[v, .bool b, .int .i64 (errOf c)])) X := fun v b c l X h1 h2 h3 h4 => by
    subst h1 h2
    exact ⟨v, rfl, h4, fun h => by obtain ⟨h5, h6⟩ := h3 h; rw [h5]; exact h6⟩
  have Hpost := Lib.hid hpost
  have hone := chk_one x
  have Hone := Lib.hid hone
  generalize hu : upto vs x.num = u at *
  have Hul0 := Lib.hid hul
  have Hhas := Lib.hid hhas
  have Hput := Lib.hid hput
  have hcell : ∀ X : World, X.heap[w.heap.size]? = some (.cells x.cells.toArray 140 (0, 0)) → X.cell? ⟨w.heap.size, 0, none⟩ = some (.int .i64 x.num) ∧ X.cell? ⟨w.heap.size, 1, none⟩ = some (.string x.val) ∧ X.cell? ⟨w.heap.size, 2, none⟩ = some (.bool x.drop) := fun X h => ⟨(blk_cell h 0).trans rfl, (blk_cell h 1).trans rfl, (blk_cell h 2).trans rfl⟩
  have Hcell := Lib.hid hcell
  have hxc : x.cells.toArray = #[.int .i64 x.num, .string x.val, .bool x.drop] := rfl
  have Hxc := Lib.hid hxc
  have hins := fun v k g W => ins_any w.heap.size v vs x k g W
  have Hins := Lib.hid hins
  clear hlow hasc hc hw hul hl65 hn hup hhas hat hput hpost hone hu hcell hxc hins
  unfold Ver.v
  go_enter Tryz.func177, Tryz.ntmps177
  go_wp2_with fail
  refine (chk_ok A len cap vs _ (Hlow.out _ (bel_alloc (Below.refl _ _) _)) hl Hc.out).mono ?_
  rintro e w1 ⟨rfl, hb1⟩
  have hz1 : w.heap.size < w1.heap.size := by have := hb1.size; simp at this; omega
  have hblk1 : w1.heap[w.heap.size]? = some (.cells x.cells.toArray 140 (0, 0)) := (hb1.block w.heap.size (by simp)).trans (blk_new w _)
  have Hblk1 := Lib.hid hblk1
  obtain ⟨c0, c1, c2⟩ := Hcell.out w1 hblk1
  have Hb1 := Lib.hid (below_box (hb1.mono (by simp)))
  clear hb1 hblk1
  go_wp2_with fail
  refine (Hone.out w1.heap.size _ (blk_new _ _)).mono ?_
  rintro e w2 ⟨rfl, hb2⟩
  have hz2 : w.heap.size < w2.heap.size := by have := hb2.size; simp at this; omega
  have hblk2 := (hb2.block w.heap.size (by simp; omega)).trans ((Below.heap_alloc w1 _ _ hz1).trans Hblk1.out)
  have Hblk2 := Lib.hid hblk2
  have Hb2 := Lib.hid ((bel_alloc Hb1.out _).trans (hb2.mono (by simp; omega)))
  clear hb2 hblk2 c0 c1 c2
  cases hv : verB x
  · have Hv := Lib.hid hv
    clear hv
    go_wp2_with fail
    go_ret3
    exact Hpost.out _ false false [] w2 (by rw [Hv.out]; rfl) Hv.out (fun h => by cases h) Hb2.out
  · have Hv := Lib.hid hv
    clear hv
    obtain ⟨c0, c1, c2⟩ := Hcell.out w2 Hblk2.out
    go_wp2_with fail
    refine (Hup.out w2 (Hlow.out _ Hb2.out) hl Hasc.out).mono ?_
    rintro e w3 ⟨rfl, hb3⟩
    have hz3 : w.heap.size < w3.heap.size := by have := hb3.size; omega
    have hblk3 := (hb3.block w.heap.size hz2).trans Hblk2.out
    have Hblk3 := Lib.hid hblk3
    have Hb3 := Lib.hid (Hb2.out.trans (hb3.mono (by omega)))
    clear hb3 hblk3 c0 c1 c2
    obtain ⟨c0, c1, c2⟩ := Hcell.out w3 Hblk3.out
    have Hcl : Hid (∀ X, Below w.heap.size w X → Calls Tryz.prog 101 #[.slice A len cap] X fun e w' => ∃ v, e = .returned v ∧ OwnV w' X.heap.size v vs ∧ Below X.heap.size X w') := Lib.hid fun X hX => clone_any A len cap vs X (Hlow.out _ hX) Hn.out hl
    rcases Nat.eq_zero_or_pos u with h0 | h0
    · have hh : hasV vs x.num = false := by rw [Hhas.out, if_pos h0]
      have Hh := Lib.hid hh
      have d1 : decide ((0 : Int) < (u : Int)) = false := by simp; omega
      have d2 : decide (0 < u) = false := by simp; omega
      clear hh h0
      go_wp2_with fail
      go_quiet (fail)
      go_wp2_with fail
      rename Nat => nq
      have hz4 : w.heap.size < (w3.drewN nq).heap.size := hz3
      have hblk4 : (w3.drewN nq).heap[w.heap.size]? = some (.cells x.cells.toArray 140 (0, 0)) := Hblk3.out
      have hb4 : Below w.heap.size w (w3.drewN nq) := below_drewN Hb3.out _
      generalize w3.drewN nq = w4 at hz4 hblk4 hb4 ⊢
      have Hblk4 := Lib.hid hblk4
      have Hb4 := Lib.hid hb4
      clear hblk4 hb4
      obtain ⟨c0, c1, c2⟩ := Hcell.out w4 Hblk4.out
      have HS : Hid (∀ X, Below w4.heap.size w4 X → X.cell? ⟨w.heap.size, 0, none⟩ = some (.int .i64 x.num) ∧ X.cell? ⟨w.heap.size, 1, none⟩ = some (.string x.val) ∧ X.cell? ⟨w.heap.size, 2, none⟩ = some (.bool x.drop)) := Lib.hid fun X hX => Hcell.out X ((hX.block _ hz4).trans Hblk4.out)
      have HD : Hid (Below w4.heap.size w4 w4.drew) := Lib.hid (bel_drew (Below.refl _ _))
      have Hul : Hid (u ≤ vs.length) := Lib.hid (by rw [hlen.out]; exact Hul0.out)
      go_region_held3 (fun X => X.cell? ⟨w.heap.size, 0, none⟩ = some (.int .i64 x.num) ∧ X.cell? ⟨w.heap.size, 1, none⟩ = some (.string x.val) ∧ X.cell? ⟨w.heap.size, 2, none⟩ = some (.bool x.drop))
        (first | (refine HS.out _ ?_; (first | exact bel_drew (Below.refl _ _) | exact bel_drew (bel_alloc (Below.refl _ _) _) | exact HbI.out | exact HbC.out | exact bel_alloc HbC.out _)))
        (first
          | (go_at_call 101; have hk := Hcl.out w4.drew (bel_drew Hb4.out); (with_reducible refine hk.mono ?_); clear hk; rintro e wc ⟨v, rfl, hown, hbc⟩; have HbC : Hid (Below w4.heap.size w4 wc) := Lib.hid (HD.out.trans hbc); have HOwn : Hid (OwnV wc w4.heap.size v vs) := Lib.hid hown; clear hown hbc; have hzc := HbC.out.size)
          | (go_at_call 101; have hk := Hcl.out ((w4.alloc (.cells #[.int .i64 x.num, .string x.val, .bool x.drop] 140)).drew) (bel_drew (bel_alloc Hb4.out _)); (with_reducible refine hk.mono ?_); clear hk; rintro e wc ⟨v, rfl, hown, hbc⟩; rw [size_ad] at hown hbc; have hgc : wc.heap[w4.heap.size]? = some (.cells x.cells.toArray 140 (0, 0)) := (hbc.block w4.heap.size (by simp)).trans (blk_new w4 _); have HGc := Lib.hid hgc; have hlt' : ∀ g, v.ownBlock = some g → w4.heap.size < g := fun g hg => (by have := (hown.lt g hg).1; omega); have HLt := Lib.hid hlt'; have HbC : Hid (Below w4.heap.size w4 wc) := Lib.hid ((bel_drew (bel_alloc (Below.refl w4.heap.size w4) _)).trans (hbc.mono (by simp))); have HOwn : Hid (OwnV wc w4.heap.size v vs) := Lib.hid (ownsRow_base_a hown (by simp)); clear hown hbc hgc hlt'; have hzc := HbC.out.size)
          | (go_at_call 214; have hk := ins_any w4.heap.size v vs x u wc.heap.size (wc.alloc (.cells #[.int .i64 x.num, .string x.val, .bool x.drop] 140)) (HOwn.out.alloc _) Hl65.out Hul.out (blk_new wc _) (fun h => by have := (HOwn.out.lt _ h).2; omega) (by simp; omega); (with_reducible refine hk.mono ?_); clear hk; rintro e wi ⟨vi, rfl, hown, hbi⟩; have HbI : Hid (Below w4.heap.size w4 wi) := Lib.hid ((bel_alloc HbC.out _).trans hbi); have HOwnI := Lib.hid hown; clear hown hbi)
          | (go_at_call 214; have hk := ins_any w4.heap.size v vs x u w4.heap.size wc HOwn.out Hl65.out Hul.out HGc.out (fun h => by have := HLt.out _ h; omega) hzc; (with_reducible refine hk.mono ?_); clear hk; rintro e wi ⟨vi, rfl, hown, hbi⟩; have HbI : Hid (Below w4.heap.size w4 wi) := Lib.hid (HbC.out.trans hbi); have HOwnI := Lib.hid hown; clear hown hbi))
      all_goals
        go_wp2_with fail
        go_ret3
        exact Hpost.out vi true true (putV vs x) wi (by rw [Hv.out, Hh.out]; rfl) Hv.out (fun _ => ⟨by rw [Hh.out]; rfl, by rw [Hput.out]; exact ownsRow_base_a HOwnI.out (Nat.le_of_lt hz4)⟩) (Hb4.out.trans (HbI.out.mono (Nat.le_of_lt hz4)))
    · have hlt : u - 1 < len := by have := Hul0.out; omega
      obtain ⟨b, off, y, rfl, hbl, hy, y0⟩ := VsAt.num (Hlow.out w3 Hb3.out) hlt
      have d1 : decide ((0 : Int) < (u : Int)) = true := by simp; omega
      have d2 : decide (0 < u) = true := by simp; omega
      have d3 : (0 : Int) ≤ (u : Int) - 1 := by omega
      have d4 : (1 : Int) ≤ (u : Int) := by omega
      have d5 : ((u : Int) - 1).toNat = u - 1 := by omega
      have d6 : (u : Int) - 1 < (len : Int) := by omega
      have hh : hasV vs x.num = decide (y.num = x.num) := by rw [Hhas.out, if_neg (by omega), hy]
      have Hh0 := Lib.hid hh
      have d7 : IntKind.i64.wrap ((u : Int) - 1) = (u : Int) - 1 := IntWalk.i64_in _ (by omega)
      clear hh hy
      by_cases he : y.num = x.num
      · have hh : hasV vs x.num = true := by rw [Hh0.out]; simpa using he
        have Hh := Lib.hid hh
        have g1 : (y.num == x.num) = true := by simpa using he
        clear hh he
        go_wp2_with fail
        go_quiet (fail)
        go_wp2_with fail
        refine (Hcl.out _ (below_drewN Hb3.out _)).mono ?_
        rintro e wc ⟨v, rfl, hown, hbc⟩
        have HOwn := Lib.hid hown
        have HbC := Lib.hid ((below_drewN Hb3.out _).trans (hbc.mono (Nat.le_of_lt hz3)))
        clear hown hbc
        go_wp2_with fail
        go_ret3
        exact Hpost.out v false true vs wc (by rw [Hv.out, Hh.out]; rfl) Hv.out (fun _ => ⟨by rw [Hh.out]; rfl, ownsRow_base_a HOwn.out (Nat.le_of_lt hz3)⟩) HbC.out
      · have hh : hasV vs x.num = false := by rw [Hh0.out]; simpa using he
        have Hh := Lib.hid hh
        have g1 : (y.num == x.num) = false := by simpa using he
        clear hh he
        go_wp2_with fail
        go_quiet (fail)
        go_wp2_with fail
        rename Nat => nq
        have hz4 : w.heap.size < (w3.drewN nq).heap.size := hz3
        have hblk4 : (w3.drewN nq).heap[w.heap.size]? = some (.cells x.cells.toArray 140 (0, 0)) := Hblk3.out
        have hb4 : Below w.heap.size w (w3.drewN nq) := below_drewN Hb3.out _
        generalize w3.drewN nq = w4 at hz4 hblk4 hb4 ⊢
        have Hblk4 := Lib.hid hblk4
        have Hb4 := Lib.hid hb4
        clear hblk4 hb4
        obtain ⟨c0, c1, c2⟩ := Hcell.out w4 Hblk4.out
        have HS : Hid (∀ X, Below w4.heap.size w4 X → X.cell? ⟨w.heap.size, 0, none⟩ = some (.int .i64 x.num) ∧ X.cell? ⟨w.heap.size, 1, none⟩ = some (.string x.val) ∧ X.cell? ⟨w.heap.size, 2, none⟩ = some (.bool x.drop)) := Lib.hid fun X hX => Hcell.out X ((hX.block _ hz4).trans Hblk4.out)
        have HD : Hid (Below w4.heap.size w4 w4.drew) := Lib.hid (bel_drew (Below.refl _ _))
        have Hul : Hid (u ≤ vs.length) := Lib.hid (by rw [hlen.out]; exact Hul0.out)
        go_region_held3 (fun X => X.cell? ⟨w.heap.size, 0, none⟩ = some (.int .i64 x.num) ∧ X.cell? ⟨w.heap.size, 1, none⟩ = some (.string x.val) ∧ X.cell? ⟨w.heap.size, 2, none⟩ = some (.bool x.drop))
          (first | (refine HS.out _ ?_; (first | exact bel_drew (Below.refl _ _) | exact bel_drew (bel_alloc (Below.refl _ _) _) | exact HbI.out | exact HbC.out | exact bel_alloc HbC.out _)))
          (first
            | (go_at_call 101; have hk := Hcl.out w4.drew (bel_drew Hb4.out); (with_reducible refine hk.mono ?_); clear hk; rintro e wc ⟨v, rfl, hown, hbc⟩; have HbC : Hid (Below w4.heap.size w4 wc) := Lib.hid (HD.out.trans hbc); have HOwn : Hid (OwnV wc w4.heap.size v vs) := Lib.hid hown; clear hown hbc; have hzc := HbC.out.size)
            | (go_at_call 101; have hk := Hcl.out ((w4.alloc (.cells #[.int .i64 x.num, .string x.val, .bool x.drop] 140)).drew) (bel_drew (bel_alloc Hb4.out _)); (with_reducible refine hk.mono ?_); clear hk; rintro e wc ⟨v, rfl, hown, hbc⟩; rw [size_ad] at hown hbc; have hgc : wc.heap[w4.heap.size]? = some (.cells x.cells.toArray 140 (0, 0)) := (hbc.block w4.heap.size (by simp)).trans (blk_new w4 _); have HGc := Lib.hid hgc; have hlt' : ∀ g, v.ownBlock = some g → w4.heap.size < g := fun g hg => (by have := (hown.lt g hg).1; omega); have HLt := Lib.hid hlt'; have HbC : Hid (Below w4.heap.size w4 wc) := Lib.hid ((bel_drew (bel_alloc (Below.refl w4.heap.size w4) _)).trans (hbc.mono (by simp))); have HOwn : Hid (OwnV wc w4.heap.size v vs) := Lib.hid (ownsRow_base_a hown (by simp)); clear hown hbc hgc hlt'; have hzc := HbC.out.size)
            | (go_at_call 214; have hk := ins_any w4.heap.size v vs x u wc.heap.size (wc.alloc (.cells #[.int .i64 x.num, .string x.val, .bool x.drop] 140)) (HOwn.out.alloc _) Hl65.out Hul.out (blk_new wc _) (fun h => by have := (HOwn.out.lt _ h).2; omega) (by simp; omega); (with_reducible refine hk.mono ?_); clear hk; rintro e wi ⟨vi, rfl, hown, hbi⟩; have HbI : Hid (Below w4.heap.size w4 wi) := Lib.hid ((bel_alloc HbC.out _).trans hbi); have HOwnI := Lib.hid hown; clear hown hbi)
            | (go_at_call 214; have hk := ins_any w4.heap.size v vs x u w4.heap.size wc HOwn.out Hl65.out Hul.out HGc.out (fun h => by have := HLt.out _ h; omega) hzc; (with_reducible refine hk.mono ?_); clear hk; rintro e wi ⟨vi, rfl, hown, hbi⟩; have HbI : Hid (Below w4.heap.size w4 wi) := Lib.hid (HbC.out.trans hbi); have HOwnI := Lib.hid hown; clear hown hbi))
        all_goals
          go_wp2_with fail
          go_ret3
          exact Hpost.out vi true true (putV vs x) wi (by rw [Hv.out, Hh.out]; rfl) Hv.out (fun _ => ⟨by rw [Hh.out]; rfl, by rw [Hput.out]; exact ownsRow_base_a HOwnI.out (Nat.le_of_lt hz4)⟩) (Hb4.out.trans (HbI.out.mono (Nat.le_of_lt hz4)))
end Go.Proofs.YtafghiekpgjniaaGreatDoor

/- shard.Shard: its memory; lists of keys with versions as they lie in memory. -/
namespace Go.Proofs.YtafghiekpgjniaaGreatDoor
open Go.RowKit
set_option linter.unusedVariables false
set_option linter.unusedSimpArgs false

/-- A list of versions as a value. -/
structure SV where
  A : Option Addr
  len : Nat
  cap : Nat
  vs : List Ver
def SV.v (s : SV) : Value := .slice s.A s.len s.cap
def plainM (m : List (ByteArray × SV)) : Hs := m.map fun q => (q.1, q.2.vs)
theorem plainM_keys (m : List (ByteArray × SV)) : (plainM m).map (·.1) = m.map (·.1) := by simp [plainM]
theorem mget_plainM (m : List (ByteArray × SV)) (k : ByteArray) : mget (plainM m) k = (mget m k).map SV.vs := mget_map SV.vs m k
theorem plainM_mput (m : List (ByteArray × SV)) (k : ByteArray) (s : SV) : plainM (mput m k s) = mput (plainM m) k s.vs := by
  unfold plainM
  induction m with
  | nil => rfl
  | cons q r ih => obtain ⟨a, u⟩ := q; simp only [mput, List.map_cons]; split <;> simp_all
/-- A row whose cells can be read lies in no block that is a map's. -/
theorem RowAt.keptC {α : Type} {cells : α → List Value} {size : Nat} {w w' : World} {B n : Nat} {A : Option Addr} {xs : List α} {X : Nat → Prop} (h : RowAt cells size w B A n xs) (hc : ∀ x ∈ xs, cells x ≠ []) (hB : B ≤ w.heap.size) (k : Kept w w' X) (hX : ∀ b, X b → ∀ cs t fr, w.heap[b]? ≠ some (.cells cs t fr)) : RowAt cells size w' B A n xs := by
  refine ⟨h.1, fun hn => ?_⟩
  obtain ⟨b, off, e, hb, hx⟩ := h.2 hn
  refine ⟨b, off, e, hb, fun i x hi j u hu => ?_⟩
  have h1 := hx i x hi j u hu
  have h2 : ¬ X b := fun hxb => by
    have := hX b hxb
    revert h1
    unfold World.cell?
    simp only
    cases hq : w.heap[b]? with
    | none => simp
    | some o =>
      cases o with
      | cells cs t fr => exact absurd hq (this cs t fr)
      | _ => simp
  rw [k.cell (by omega) h2]; exact h1
abbrev NoC (w : World) (b : Nat) : Prop := ∀ cs t fr, w.heap[b]? ≠ some (.cells cs t fr)
theorem OwnM.noC {K V : Type} {κ : K → Value} {ν : V → Value} {w : World} {b : Nat} {m : List (K × V)} (h : OwnM κ ν w b m) : NoC w b := fun cs t fr hc => by
  obtain ⟨es, clock, hb, -⟩ := h
  rw [hb] at hc; cases hc
structure SB where
  g : Nat
  p : Nat
/-- The shard's pointer is ⟨t.g⟩, its map lies in t.p; it holds L. -/
def ShAt (w : World) (t : SB) (L : Hs) : Prop := ∃ m : List (ByteArray × SV),
  w.heap[t.g]? = some (.cells #[.map (some t.p)] 84 (0, 0)) ∧ OwnM Value.string SV.v w t.p m ∧
  (∀ q ∈ m, VsAt w w.heap.size q.2.A q.2.len q.2.vs ∧ q.2.len ≤ q.2.cap ∧ (q.2.A = none → q.2.cap = 0) ∧ TyV w q.2.A q.2.len) ∧ MOk (plainM m) ∧ cont (plainM m) = L
section
variable {w w' : World} {t : SB} {L : Hs} {X : Nat → Prop}
theorem ShAt.ok (h : ShAt w t L) : HsOk L := by obtain ⟨m, -, -, -, h4, rfl⟩ := h; exact cont_ok h4
theorem ShAt.lt (h : ShAt w t L) : t.g < w.heap.size ∧ t.p < w.heap.size := by obtain ⟨m, h1, h2, -⟩ := h; exact ⟨blk_lt h1, h2.lt⟩
theorem ShAt.noC (h : ShAt w t L) : NoC w t.p := by obtain ⟨m, -, h2, -⟩ := h; exact h2.noC
theorem ShAt.ne (h : ShAt w t L) : t.g ≠ t.p := by
  obtain ⟨m, h1, h2, -⟩ := h
  intro e; rw [e] at h1; exact h2.noC _ _ _ h1
theorem ver_ne (x : Ver) : Ver.cells x ≠ [] := by simp [Ver.cells]
/-- No block of versions. -/
abbrev NoV (w : World) (b : Nat) : Prop := ∀ cs fr, w.heap[b]? ≠ some (.cells cs 140 fr)
theorem VsAt.keptV {A : Option Addr} {n B : Nat} {vs : List Ver} (h : VsAt w B A n vs) (hty : TyV w A n) (k : Kept w w' X) (hB : B ≤ w.heap.size) (hX : ∀ b, X b → NoV w b) : VsAt w' B A n vs := by
  refine ⟨h.1, fun hn => ?_⟩
  obtain ⟨b, off, e, hb, hx⟩ := h.2 hn
  refine ⟨b, off, e, hb, fun i x hi j u hu => ?_⟩
  have h2 : ¬ X b := fun hxb => by
    obtain ⟨cs, fr, h3⟩ := hty _ e hn
    exact hX b hxb cs fr h3
  rw [k.cell (by omega) h2]; exact hx i x hi j u hu
theorem TyV.kept {A : Option Addr} {n : Nat} (h : TyV w A n) (k : Kept w w' X) (hX : ∀ b, X b → NoV w b) : TyV w' A n := fun a e hn => by
  obtain ⟨cs, fr, h1⟩ := h a e hn
  exact ⟨cs, fr, k.blk h1 (blk_lt h1) (fun hx => hX _ hx _ _ h1)⟩
/-- What holds where all blocks but some that aren't the shard's are as they were. -/
theorem ShAt.keptV (h : ShAt w t L) (k : Kept w w' X) (hX : ∀ b, X b → b ≠ t.p ∧ b ≠ t.g ∧ NoV w b) : ShAt w' t L := by
  obtain ⟨m, h1, h2, h3, h4, h5⟩ := h
  refine ⟨m, k.blk h1 (blk_lt h1) (fun hx => (hX _ hx).2.1 rfl), h2.of_block (k.block _ h2.lt (fun hx => (hX _ hx).1 rfl)), fun q hq => ?_, h4, h5⟩
  obtain ⟨g1, g2, g3, g4⟩ := h3 q hq
  exact ⟨(VsAt.keptV g1 g4 k (Nat.le_refl _) (fun b hb => (hX b hb).2.2)).more k.size, g2, g3, g4.kept k (fun b hb => (hX b hb).2.2)⟩
/-- What holds where all blocks but some maps are as they were. -/
theorem ShAt.kept (h : ShAt w t L) (k : Kept w w' X) (hX : ∀ b, X b → b ≠ t.p ∧ NoC w b) : ShAt w' t L :=
  h.keptV k fun b hb => ⟨(hX b hb).1, fun e => by
    obtain ⟨m, h1, -⟩ := h
    exact (hX b hb).2 _ _ _ (e ▸ h1), fun cs fr => (hX b hb).2 cs _ fr⟩
theorem ShAt.below (h : ShAt w t L) (hb : Below w.heap.size w w') : ShAt w' t L := h.kept (X := fun _ => False) (Kept.of_below hb) (fun b hb => hb.elim)
theorem ShAt.below2 {B : Nat} (h : ShAt w t L) (hb : Below B w w') (hg : t.g < B) (hp : t.p < B) (hr : w.heap.size ≤ B) : ShAt w' t L := h.below (hb.mono hr)
theorem ShAt.alloc (h : ShAt w t L) (o : Obj) : ShAt (w.alloc o) t L := h.below ((Below.refl _ _).alloc (Nat.le_refl _) _)
end
/-- A key with its versions as they lie in memory. -/
structure HR where
  key : ByteArray
  A : Option Addr
  len : Nat
  cap : Nat
  vs : List Ver
def HR.cells (h : HR) : List Value := [.string h.key, .slice h.A h.len h.cap]
theorem len_hr (xs : List HR) : ∀ x ∈ xs, (HR.cells x).length = 2 := fun _ _ => rfl
def HdsAt (w : World) (B : Nat) (A : Option Addr) (n : Nat) (hs : List HR) : Prop := RowAt HR.cells 2 w B A n hs ∧ ∀ h ∈ hs, VsAt w B h.A h.len h.vs ∧ h.len ≤ h.cap ∧ (h.A = none → h.cap = 0)
def plainR (hs : List HR) : Hs := hs.map fun h => (h.key, h.vs)
theorem HdsAt.below {w w' : World} {B n : Nat} {A : Option Addr} {hs : List HR} (h : HdsAt w B A n hs) (hb : Below B w w') : HdsAt w' B A n hs :=
  ⟨h.1.below hb, fun r hr => ⟨(h.2 r hr).1.below hb, (h.2 r hr).2⟩⟩
theorem HdsAt.more {w : World} {B B' n : Nat} {A : Option Addr} {hs : List HR} (h : HdsAt w B A n hs) (hB : B ≤ B') : HdsAt w B' A n hs :=
  ⟨h.1.more hB, fun r hr => ⟨(h.2 r hr).1.more hB, (h.2 r hr).2⟩⟩
theorem hr_ne (x : HR) : HR.cells x ≠ [] := by simp [HR.cells]
theorem HdsAt.keptC {w w' : World} {B n : Nat} {A : Option Addr} {hs : List HR} {X : Nat → Prop} (h : HdsAt w B A n hs) (hB : B ≤ w.heap.size) (k : Kept w w' X) (hX : ∀ b, X b → NoC w b) : HdsAt w' B A n hs :=
  ⟨h.1.keptC (fun x _ => hr_ne x) hB k hX, fun r hr => ⟨(h.2 r hr).1.keptC (fun x _ => ver_ne x) hB k hX, (h.2 r hr).2⟩⟩
theorem HdsAt.cell2 {w : World} {B n i : Nat} {A : Option Addr} {hs : List HR} (h : HdsAt w B A n hs) (hi : i < n) :
    ∃ b off x, A = some ⟨b, off, none⟩ ∧ b < B ∧ hs[i]? = some x ∧ w.cell? ⟨b, off + i * 2, none⟩ = some (.string x.key) ∧ w.cell? ⟨b, off + i * 2 + 1, none⟩ = some (.slice x.A x.len x.cap) ∧ VsAt w B x.A x.len x.vs ∧ x.len ≤ x.cap ∧ (x.A = none → x.cap = 0) := by
  obtain ⟨b, off, x, e, hb, hx, hc⟩ := h.1.at_ hi
  exact ⟨b, off, x, e, hb, hx, hc 0 _ rfl, hc 1 _ rfl, h.2 x (List.mem_of_getElem? hx)⟩
end Go.Proofs.YtafghiekpgjniaaGreatDoor

/- The shard's memory where a row of another type grows. -/

namespace Go.Proofs.YtafghiekpgjniaaGreatDoor
open Go.RowKit
set_option linter.unusedVariables false
set_option linter.unusedSimpArgs false

theorem ShAt.owned {w w' : World} {t : SB} {L : Hs} {base size n : Nat} {e : TypeId} {v : Value} {xs : List Value} (h : ShAt w t L) (ho : w.ownsRow base e size v n xs) (hg : w.grownBy w' v.ownBlock) (he : e ≠ 140) (hb : t.g < base) (hp : t.p < base) : ShAt w' t L := by
  have k : Kept w w' (fun b => v.ownBlock = some b) := ⟨hg.os, hg.tape, hg.output, hg.size, fun i hi hx => hg.block i hi (fun e => hx e.symm)⟩
  refine h.keptV k fun b hbb => ?_
  have h1 := ho.lt b hbb
  refine ⟨by omega, by omega, fun cs fr hc => ?_⟩
  obtain ⟨-, ⟨rfl, -⟩ | ⟨g, cap, cur, rfl, -, h3, -⟩⟩ := ho
  · cases hbb
  · simp only [Value.ownBlock, Option.some.injEq] at hbb
    subst hbb
    rw [h3] at hc
    injection hc with hc; injection hc with _ hc _
    exact he hc
theorem ownsRow_kept {w w' : World} {X : Nat → Prop} {base size n : Nat} {e : TypeId} {v : Value} {xs : List Value} (h : w.ownsRow base e size v n xs) (k : Kept w w' X) (hX : ∀ b, X b → b < base) : w'.ownsRow base e size v n xs := by
  obtain ⟨h1, h2 | ⟨g, cap, cur, hv, hg, hh, r⟩⟩ := h
  · exact ⟨h1, Or.inl h2⟩
  · exact ⟨h1, Or.inr ⟨g, cap, cur, hv, hg, k.blk hh (blk_lt hh) (fun hx => by have := hX g hx; omega), r⟩⟩
end Go.Proofs.YtafghiekpgjniaaGreatDoor


/- Lemmas and contracts of functions that a statement of this seat stands on; each holds under the premises typed in its head. -/
import Derived.Test.YtdcnaieieggclaaFold3
import Derived.Deep.RegionHeld3
namespace Go.Proofs.Ytdcnaieieggclaa
open Go.RowKit
set_option linter.unusedVariables false
set_option linter.unusedSimpArgs false

open Go.Maps
theorem toList_inj {a b : ByteArray} : a.toList = b.toList ↔ a = b := by
  rw [ByteArray.toList_eq, ByteArray.toList_eq]
  constructor
  · intro h; cases a; cases b; simp_all
  · intro h; rw [h]
def keyIs (k : ByteArray) (x : Wr) : Bool := x.key.toList == k.toList
def hasKey (ws : List Wr) (k : ByteArray) : Bool := ws.any (keyIs k)
def neighB (us vs : List Wr) : Bool := us.any fun x => hasKey vs x.key

theorem writes_any (n : Int) (A : Option Addr) (len cap : Nat) (ws : List Wr) (k : ByteArray) (w : World) (hw : WsAt w w.heap.size A len ws) (hl : len ≤ 4398046511104) :
    Calls Try.prog 59 #[.agg #[.int .i64 n, .slice A len cap], .string k] w fun e w' => e = .returned (.bool (hasKey ws k)) ∧ Below w.heap.size w w' := by
  have hlen := Lib.hid hw.len
  have hfin : ∀ (b : Bool) (w' : World), b = hasKey ws k → Below w.heap.size w w' → (Ending.returned (.bool b) = .returned (.bool (hasKey ws k)) ∧ Below w.heap.size w w') := fun b w' h h' => ⟨by rw [h], h'⟩
  have Hf := Lib.hid hfin
  clear hfin
  go_enter Try.func59, Try.ntmps59
  go_wp2_with fail
  go_loopw [5] (fun i wr => ∃ j : Nat, j ≤ len ∧ i = .int .i64 j ∧ (ws.take j).any (keyIs k) = false ∧ Below (w.heap.size + 1) (w.alloc (.cells #[.int .i64 n, .slice A len cap] 37)) wr) (fun i _ => len - (intOf i).toNat)
  case atStart => exact ⟨0, Nat.zero_le _, rfl, rfl, by simpa using Below.refl _ _⟩
  case round =>
    obtain ⟨j, hj, rfl, hany, hb⟩ := hrel
    have hr := hw.below (below_box hb)
    have c1 := cell_box hb 1 rfl
    have hs := size_box hb
    have Hany := Lib.hid hany
    have Hb := Lib.hid hb
    clear hany hb
    by_cases hlt : j < len
    · obtain ⟨b, off, x, rfl, hbl, hx, x0, x1, x2⟩ := WsAt.cell3 hr hlt
      have Hx := Lib.hid hx
      clear hx
      cases hk : keyIs k x
      · have hk2 : (x.key.toList == k.toList) = false := hk
        have Hk := Lib.hid hk
        clear hk
        go_wp2_with fail
        exact ⟨⟨j + 1, by omega, by go_num, by rw [any_take_succ Hx.out, Hany.out, Hk.out]; rfl, Hb.out⟩, by simp [intOf]; omega⟩
      · have hk2 : (x.key.toList == k.toList) = true := hk
        have Hk := Lib.hid hk
        clear hk
        go_wp2_with fail
        go_ret
        exact Hf.out _ _ (any_of Hx.out Hk.out).symm (below_box Hb.out)
    · go_wp2_with fail
      go_ret
      refine Hf.out _ _ ?_ (below_box Hb.out)
      have := Hany.out
      rw [List.take_of_length_le (by have := hlen.out; omega)] at this
      exact this.symm

set_option maxHeartbeats 1000000 in
theorem neigh_any (n : Int) (A : Option Addr) (len cap : Nat) (us : List Wr) (n2 : Int) (A2 : Option Addr) (len2 cap2 : Nat) (vs : List Wr) (w : World) (hw : WsAt w w.heap.size A len us) (hw2 : WsAt w w.heap.size A2 len2 vs) (hl : len ≤ 4398046511104) (hl2 : len2 ≤ 4398046511104) :
    Calls Try.prog 46 #[.agg #[.int .i64 n, .slice A len cap], .agg #[.int .i64 n2, .slice A2 len2 cap2]] w fun e w' => e = .returned (.bool (neighB us vs)) ∧ Below w.heap.size w w' := by
  have hlen := Lib.hid hw.len
  have hfin : ∀ (b : Bool) (w' : World), b = neighB us vs → Below w.heap.size w w' → (Ending.returned (.bool b) = .returned (.bool (neighB us vs)) ∧ Below w.heap.size w w') := fun b w' h h' => ⟨by rw [h], h'⟩
  have Hf := Lib.hid hfin
  clear hfin
  obtain ⟨W2, hW2⟩ : ∃ W2 : World, W2 = (w.alloc (.cells #[.int .i64 n, .slice A len cap] 37)).alloc (.cells #[.int .i64 n2, .slice A2 len2 cap2] 37) := ⟨_, rfl⟩
  have hz : W2.heap.size = w.heap.size + 2 := by rw [hW2]; simp
  have hB : Below w.heap.size w W2 := by rw [hW2]; exact ((Below.refl _ _).alloc (Nat.le_refl _) _).alloc (by simp) _
  have d1 : W2.cell? ⟨w.heap.size, 1, none⟩ = some (.slice A len cap) := by rw [hW2]; simp [go_sem]
  have e0 : W2.cell? ⟨w.heap.size + 1, 0, none⟩ = some (.int .i64 n2) := by rw [hW2]; simp [go_sem]
  have e1 : W2.cell? ⟨w.heap.size + 1, 1, none⟩ = some (.slice A2 len2 cap2) := by rw [hW2]; simp [go_sem]
  have hlt0 : w.heap.size < W2.heap.size := by omega
  have hlt1 : w.heap.size + 1 < W2.heap.size := by omega
  have HW2 := Lib.hid hW2
  have HB := Lib.hid hB
  have hD := fun (X : World) (h : Below W2.heap.size W2 X) => And.intro ((h.cell (p := ⟨w.heap.size, 1, none⟩) hlt0).trans d1) (And.intro ((h.cell (p := ⟨w.heap.size + 1, 0, none⟩) hlt1).trans e0) ((h.cell (p := ⟨w.heap.size + 1, 1, none⟩) hlt1).trans e1))
  have HD := Lib.hid hD
  clear hW2 hz hB d1 e0 e1 hD
  go_enter Try.func46, Try.ntmps46
  go_wp2_with fail
  rw [← HW2.out]
  go_loopw [5] (fun i wr => ∃ j : Nat, j ≤ len ∧ i = .int .i64 j ∧ (us.take j).any (fun x => hasKey vs x.key) = false ∧ Below W2.heap.size W2 wr) (fun i _ => len - (intOf i).toNat)
  case atStart => exact ⟨0, Nat.zero_le _, rfl, rfl, Below.refl _ _⟩
  case round =>
    obtain ⟨j, hj, rfl, hany, hb⟩ := hrel
    have hbw : Below w.heap.size w wr := HB.out.trans (hb.mono (by omega))
    have hr := hw.below hbw
    have hr2 : WsAt wr wr.heap.size A2 len2 vs := (hw2.below hbw).more (by have := hb.size; omega)
    have hr2d : WsAt wr.drew wr.drew.heap.size A2 len2 vs := hr2
    obtain ⟨d1, e0, e1⟩ := HD.out _ hb
    have hs := hb.size
    have Hany := Lib.hid hany
    have Hb := Lib.hid hb
    have Hbw := Lib.hid hbw
    clear hany hb hbw hr2
    by_cases hlt : j < len
    · obtain ⟨b, off, x, rfl, hbl, hx, x0, x1, x2⟩ := WsAt.cell3 hr hlt
      have Hx := Lib.hid hx
      clear hx
      have Hr2 := Lib.hid hr2d
      clear hr2d hr
      go_wp2_with fail
      go_region_held3 (fun w' => w'.cell? ⟨w.heap.size, 1, none⟩ = some (.slice (some ⟨b, off, none⟩) len cap) ∧ w'.cell? ⟨w.heap.size + 1, 0, none⟩ = some (.int .i64 n2) ∧ w'.cell? ⟨w.heap.size + 1, 1, none⟩ = some (.slice A2 len2 cap2) ∧ w'.cell? ⟨b, off + j * 3, none⟩ = some (.string x.key))
        (first | exact ⟨d1, e0, e1, x0⟩ | exact ⟨g1, g2, g3, g4⟩)
        (first | (go_at_call 59; refine (writes_any n2 A2 len2 cap2 vs x.key wr.drew Hr2.out hl2).mono ?_; rintro e w1 ⟨rfl, hb1⟩; have hbx : Below wr.heap.size wr w1 := (Below.refl _ _).drew.trans hb1; have Hbx := Lib.hid hbx; have g1 := (hbx.cell (p := ⟨w.heap.size, 1, none⟩) (by show w.heap.size < _; omega)).trans d1; have g2 := (hbx.cell (p := ⟨w.heap.size + 1, 0, none⟩) (by show w.heap.size + 1 < _; omega)).trans e0; have g3 := (hbx.cell (p := ⟨w.heap.size + 1, 1, none⟩) (by show w.heap.size + 1 < _; omega)).trans e1; have g4 := (hbx.cell (p := ⟨b, off + j * 3, none⟩) (by show b < _; omega)).trans x0; clear hb1 hbx))
      have hb1 : Below W2.heap.size W2 w1 := Hb.out.trans (Hbx.out.mono hs)
      have Hb1 := Lib.hid hb1
      have Hbw1 := Lib.hid (HB.out.trans (hb1.mono (by omega)))
      clear hb1
      cases hk : hasKey vs x.key
      · have Hk := Lib.hid hk
        clear hk
        go_wp2_with fail
        exact ⟨⟨j + 1, by omega, by go_num, by rw [any_take_succ Hx.out, Hany.out, Hk.out]; rfl, Hb1.out⟩, by simp [intOf]; omega⟩
      · have Hk := Lib.hid hk
        clear hk
        go_wp2_with fail
        go_ret
        exact Hf.out _ _ (show neighB us vs = true from List.any_eq_true.2 ⟨x, List.mem_of_getElem? Hx.out, Hk.out⟩).symm Hbw1.out
    · go_wp2_with fail
      go_ret
      refine Hf.out _ _ ?_ Hbw.out
      have := Hany.out
      rw [List.take_of_length_le (by have := hlen.out; omega)] at this
      exact this.symm
end Go.Proofs.Ytdcnaieieggclaa

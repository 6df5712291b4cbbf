/- Lemmas and contracts of functions that a statement of this seat stands on; each holds under the premises typed in its head. -/
import Derived.Test.YtafghiekpgjniaaGreatDoorMa
import Derived.Deep.RegionHeld3
namespace Go.Proofs.YtafghiekpgjniaaGreatDoor
open Go.RowKit
set_option linter.unusedVariables false
set_option linter.unusedSimpArgs false

/-- A transaction as a slice's element: its number, and its slice of writes; and these writes. -/
structure RTx where
  number : Int
  A : Option Addr
  len : Nat
  cap : Nat
  ws : List Wr
def RTx.cells (r : RTx) : List Value := [.int .i64 r.number, .slice r.A r.len r.cap]
def RTx.v (r : RTx) : Value := .agg #[.int .i64 r.number, .slice r.A r.len r.cap]
theorem len_tx (rs : List RTx) : ∀ x ∈ rs, (RTx.cells x).length = 2 := fun _ _ => rfl
theorem one_tx (x : RTx) : ∀ (u : Value), u ∈ x.cells → u.oneCell' = true := by
  intro u hu; simp only [RTx.cells, List.mem_cons, List.not_mem_nil, or_false] at hu; rcases hu with rfl | rfl <;> rfl
/-- Its writes' slice is a twin's: one more cell behind, a block of its own. -/
def RTx.twin (r : RTx) (w : World) (b : Nat) : Prop := r.A = some ⟨b, 0, none⟩ ∧ r.cap = r.len + 1 ∧ w.heap[b]? = some (.cells ((r.ws ++ [spW]).flatMap Wr.cells).toArray 87 (0, 0)) ∧ r.ws.length = r.len

set_option maxHeartbeats 1000000 in
theorem twintx_any (n : Int) (A : Option Addr) (len cap : Nat) (xs : List Wr) (w : World) (hw : WsAt w w.heap.size A len xs) (hreach : len * 40 ≤ 140737488351232) :
    Calls Tryz.prog 43 #[.agg #[.int .i64 n, .slice A len cap]] w fun e w' => ∃ b, w.heap.size < b ∧ b < w'.heap.size ∧ e = .returned (.agg #[.int .i64 n, .slice (some ⟨b, 0, none⟩) len (len + 1)]) ∧ w'.heap[b]? = some (.cells ((xs ++ [spW]).flatMap Wr.cells).toArray 87 (0, 0)) ∧ Below w.heap.size w w' := by
  obtain ⟨W2, hW2⟩ : ∃ W2 : World, W2 = (w.alloc (.cells #[.int .i64 n, .slice A len cap] 64)).alloc (.cells #[.int .i64 0, .slice none 0 0] 64) := ⟨_, rfl⟩
  have hz : W2.heap.size = w.heap.size + 2 := by rw [hW2]; simp
  have hB : Below w.heap.size w W2 := by rw [hW2]; exact ((Below.refl _ _).alloc (Nat.le_refl _) _).alloc (by simp) _
  have c0 : W2.cell? ⟨w.heap.size, 0, none⟩ = some (.int .i64 n) := by rw [hW2]; simp [go_sem]
  have c1 : W2.cell? ⟨w.heap.size, 1, none⟩ = some (.slice A len cap) := by rw [hW2]; simp [go_sem]
  have d0 : W2.cell? ⟨w.heap.size + 1, 0, none⟩ = some (.int .i64 0) := by rw [hW2]; simp [go_sem]
  have d1 : W2.cell? ⟨w.heap.size + 1, 1, none⟩ = some (.slice none 0 0) := by rw [hW2]; simp [go_sem]
  have f0 : W2.frozen? ⟨w.heap.size + 1, 0, none⟩ = false := by rw [hW2]; simp [go_sem]
  have f1 : W2.frozen? ⟨w.heap.size + 1, 1, none⟩ = false := by rw [hW2]; simp [go_sem]
  have hw2 := (hw.below hB).more hB.size
  go_enter Tryz.func43, Tryz.ntmps43
  go_wp2_with fail
  rw [← hW2]
  have HW2 := Lib.hid hW2
  have hw2d : WsAt W2.drew W2.drew.heap.size A len xs := hw2
  have Hz := Lib.hid hz
  have hlt : w.heap.size + 1 < W2.heap.size := by omega
  clear hW2 hz
  have hne : w.heap.size ≠ w.heap.size + 1 := by omega
  go_region_held3 (fun w' => w'.cell? ⟨w.heap.size, 0, none⟩ = some (.int .i64 n) ∧ w'.cell? ⟨w.heap.size, 1, none⟩ = some (.slice A len cap))
    (first | exact ⟨c0, c1⟩ | exact ⟨g0, g1⟩ | (refine ⟨?_, ?_⟩ <;> (rw [World.cell?_setCell_other _ _ _ _ (by simp), World.cell?_setCell_other _ _ _ _ (by simp)]; assumption)))
    (first
      | (go_at_call 132; refine (twinW_any A len cap xs _ hw2d hreach).mono ?_; rintro e w1 ⟨rfl, hblk, hb1⟩; have hbx : Below W2.heap.size W2 w1 := (Below.refl _ _).drew.trans hb1; have Hblk := Lib.hid hblk; have Hbx := Lib.hid hbx; have g0 := (hbx.cell (p := ⟨w.heap.size, 0, none⟩) (by show w.heap.size < _; omega)).trans c0; have g1 := (hbx.cell (p := ⟨w.heap.size, 1, none⟩) (by show w.heap.size < _; omega)).trans c1; have g2 := (hbx.cell (p := ⟨w.heap.size + 1, 0, none⟩) hlt).trans d0; have g3 := (hbx.cell (p := ⟨w.heap.size + 1, 1, none⟩) hlt).trans d1; have g4 := (hbx.frozen (p := ⟨w.heap.size + 1, 0, none⟩) hlt).trans f0; have g5 := (hbx.frozen (p := ⟨w.heap.size + 1, 1, none⟩) hlt).trans f1; clear hblk hb1 hbx))
  go_wp2_with fail
  have r0 : ((w1.setCell ⟨w.heap.size + 1, 0, none⟩ (.int .i64 n)).setCell ⟨w.heap.size + 1, 1, none⟩ (.slice (some ⟨W2.heap.size, 0, none⟩) len (len + 1))).cell? ⟨w.heap.size + 1, 0, none⟩ = some (.int .i64 n) := by
    rw [World.cell?_setCell_other _ _ _ _ (by simp)]; exact World.cell?_setCell_same _ _ _ g2
  have r1 : ((w1.setCell ⟨w.heap.size + 1, 0, none⟩ (.int .i64 n)).setCell ⟨w.heap.size + 1, 1, none⟩ (.slice (some ⟨W2.heap.size, 0, none⟩) len (len + 1))).cell? ⟨w.heap.size + 1, 1, none⟩ = some (.slice (some ⟨W2.heap.size, 0, none⟩) len (len + 1)) :=
    World.cell?_setCell_same _ _ _ (by rw [World.cell?_setCell_other _ _ _ _ (by simp)]; exact g3)
  have hz2 := Hz.out
  have hsz := Hbx.out.size
  have hs1 : W2.heap.size < w1.heap.size := by
    have := Hblk.out
    exact (Array.getElem?_eq_some_iff.1 this).1
  have hB2 : Below w.heap.size w w1 := hB.trans (Hbx.out.mono (by omega))
  refine bodyPost_ret (v := .agg #[.int .i64 n, .slice (some ⟨W2.heap.size, 0, none⟩) len (len + 1)]) (by simp [results, Tryz.results43, go_sem, r0, r1]) rfl ⟨W2.heap.size, by omega, by simp [World.setCell]; omega, rfl, ?_, (hB2.setCell (by simp) _).setCell (by simp) _⟩
  rw [Below.heap_setCell _ _ _ _ (by simp; omega), Below.heap_setCell _ _ _ _ (by simp; omega)]
  exact Hblk.out
end Go.Proofs.YtafghiekpgjniaaGreatDoor

/- Lemmas and contracts of functions that a statement of this seat stands on; each holds under the premises typed in its head. -/
import Derived.Test.YtgkhgbeiploefaaDoorStat1
namespace Go.Proofs.YtgkhgbeiploefaaDoor
open Go.RowKit
set_option linter.unusedVariables false
set_option linter.unusedSimpArgs false

/-- Which lanes hold one behind an event. -/
def holdB (h : List Bool) (e : Ev) : List Bool :=
  if 1 ≤ e.task ∧ e.task ≤ h.length then (if e.kind = 4 then h.set (e.task.toNat - 1) true else if e.kind = 6 then h.set (e.task.toNat - 1) false else h) else h
theorem holdB_len (h : List Bool) (e : Ev) : (holdB h e).length = h.length := by unfold holdB; split <;> (try split) <;> (try split) <;> simp
def HeldAt (w : World) (g : Nat) (h : List Bool) : Prop := w.heap[g]? = some (.cells (h.map Value.bool).toArray 4 (0, 0))

set_option maxHeartbeats 1000000 in
theorem hold_any (g n : Nat) (h : List Bool) (e : Ev) (w : World) (hs : HeldAt w g h) (hn : h.length = n) (hb : n ≤ 16) :
    Calls Tryd.prog 16 #[.slice (some ⟨g, 0, none⟩) n n, e.v] w fun en w' => en = .returned (.tuple #[]) ∧ HeldAt w' g (holdB h e) ∧ w.grownBy w' (some g) := by
  have hgl := blk_lt hs
  have hal : ∀ o, HeldAt (w.alloc o) g h := fun o => (Below.heap_alloc _ _ _ hgl).trans hs
  have Hal := Lib.hid hal
  have hst : ∀ (i : Nat) (b : Bool) (o : Obj), HeldAt ((w.setCell ⟨g, i, none⟩ (.bool b)).alloc o) g (h.set i b) := by
    intro i b o
    have := blk_set_alloc hs i (.bool b) o
    unfold HeldAt; rw [this]; simp [List.map_set]
  have Hst := Lib.hid hst
  have Hn := Lib.hid hn
  have Hs := Lib.hid hs
  clear hal hst hs hn
  by_cases hr : 1 ≤ e.task ∧ e.task ≤ (n : Int)
  · obtain ⟨r0, r1⟩ := hr
    obtain ⟨tk, kd, nu, sh, co, mk⟩ := e
    obtain ⟨i, rfl⟩ : ∃ i : Nat, tk = (i : Int) + 1 := ⟨(tk - 1).toNat, by simp only at r0; omega⟩
    simp only at r0 r1
    have r2 : (i : Int) < (n : Int) := by omega
    have Hi : Hid (((i : Int) + 1).toNat - 1 = i) := by show ((i : Int) + 1).toNat - 1 = i; omega
    have hcell : ∃ v, w.cell? ⟨g, i, none⟩ = some v := by
      have := blk_cell Hs.out i
      rw [this]
      exact ⟨_, Array.getElem?_eq_getElem (by simp [Hn.out]; omega)⟩
    obtain ⟨v, hv⟩ := hcell
    have hf := blk_frozen Hs.out i
    by_cases h4 : kd = 4
    · have Hd : Hid (holdB h ⟨(i : Int) + 1, kd, nu, sh, co, mk⟩ = h.set i true) := by
        show holdB h ⟨(i : Int) + 1, kd, nu, sh, co, mk⟩ = _
        unfold holdB; rw [if_pos ⟨r0, by rw [Hn.out]; exact r1⟩, if_pos h4, Hi.out]
      have hq := beq_iff_eq.2 h4
      clear h4
      unfold Ev.v
      go_enter Tryd.func16, Tryd.ntmps16
      go_wp2_with fail
      go_end0
      refine ⟨rfl, ?_, only_alloc (only_setCell (World.grownBy.refl _ _) (Or.inl rfl) _) _⟩
      rw [Hd.out]; exact Hst.out _ _ _
    · by_cases h6 : kd = 6
      · have Hd : Hid (holdB h ⟨(i : Int) + 1, kd, nu, sh, co, mk⟩ = h.set i false) := by
          show holdB h ⟨(i : Int) + 1, kd, nu, sh, co, mk⟩ = _
          unfold holdB; rw [if_pos ⟨r0, by rw [Hn.out]; exact r1⟩, if_neg h4, if_pos h6, Hi.out]
        have hq := beq_eq_false_iff_ne.2 h4
        have hq2 := beq_iff_eq.2 h6
        clear h4 h6
        unfold Ev.v
        go_enter Tryd.func16, Tryd.ntmps16
        go_wp2_with fail
        go_end0
        refine ⟨rfl, ?_, only_alloc (only_setCell (World.grownBy.refl _ _) (Or.inl rfl) _) _⟩
        rw [Hd.out]; exact Hst.out _ _ _
      · have Hd : Hid (holdB h ⟨(i : Int) + 1, kd, nu, sh, co, mk⟩ = h) := by
          show holdB h ⟨(i : Int) + 1, kd, nu, sh, co, mk⟩ = _
          unfold holdB; rw [if_pos ⟨r0, by rw [Hn.out]; exact r1⟩, if_neg h4, if_neg h6]
        have hq := beq_eq_false_iff_ne.2 h4
        have hq2 := beq_eq_false_iff_ne.2 h6
        clear h4 h6
        unfold Ev.v
        go_enter Tryd.func16, Tryd.ntmps16
        go_wp2_with fail
        go_end0
        refine ⟨rfl, ?_, World.grownBy_alloc _ _ _⟩
        rw [Hd.out]; exact Hal.out _
  · have Hd : Hid (holdB h e = h) := by
      show holdB h e = _
      unfold holdB; rw [if_neg (by rw [Hn.out]; exact hr)]
    unfold Ev.v
    go_enter Tryd.func16, Tryd.ntmps16
    go_wp2_with fail
    all_goals first
      | (exfalso; exact hr ⟨by omega, by omega⟩)
      | (refine bodyPost_ret (results_none rfl _ _ _) rfl ⟨rfl, ?_, World.grownBy_alloc _ _ _⟩
         rw [Hd.out]; exact Hal.out _)
end Go.Proofs.YtgkhgbeiploefaaDoor

/- Lemmas and contracts of functions that a statement of this seat stands on; each holds under the premises typed in its head. -/
import Derived.Test.YtfafhfjmoijaeaaGreatDoorRow
import Derived.Test.YtfafhfjmoijaeaaGreatDoorMap
namespace Go.Proofs.YtfafhfjmoijaeaaGreatDoor
open Go.RowKit
set_option linter.unusedVariables false
set_option linter.unusedSimpArgs false

theorem blk_set {w : World} {g : Nat} {t : TypeId} {cs : Array Value} (h : w.heap[g]? = some (.cells cs t (0, 0))) (i : Nat) (u : Value) : (w.setCell ⟨g, i, none⟩ u).heap[g]? = some (.cells (cs.setIfInBounds i u) t (0, 0)) := by
  simp [World.setCell, Array.getElem?_modify, h]
theorem blk_cell {w : World} {g : Nat} {t : TypeId} {cs : Array Value} (h : w.heap[g]? = some (.cells cs t (0, 0))) (i : Nat) : w.cell? ⟨g, i, none⟩ = cs[i]? := cell_of_row w g i cs t (0, 0) h
theorem blk_frozen {w : World} {g : Nat} {t : TypeId} {cs : Array Value} (h : w.heap[g]? = some (.cells cs t (0, 0))) (i : Nat) : w.frozen? ⟨g, i, none⟩ = false := by simp [World.frozen?, h]
theorem blk_lt {w : World} {g : Nat} {o : Obj} (h : w.heap[g]? = some o) : g < w.heap.size := (Array.getElem?_eq_some_iff.1 h).1
theorem only_of_below {a w : World} (h : Below a.heap.size a w) (row : Option Nat) : a.grownBy w row := ⟨h.os, h.tape, h.output, h.size, fun i hi _ => h.block i hi⟩
theorem only_setCell {a w : World} {g : Nat} (h : a.grownBy w (some g)) {p : Addr} (hp : p.block = g ∨ a.heap.size ≤ p.block) (u : Value) : a.grownBy (w.setCell p u) (some g) :=
  ⟨h.os, h.tape, h.output, by simpa [World.setCell] using h.size, fun i hi hne => (Below.heap_setCell w p u i (by
    rintro rfl
    rcases hp with hp | hp
    · exact hne (by rw [hp])
    · omega)).trans (h.block i hi hne)⟩

theorem only_alloc {a w : World} {row : Option Nat} (h : a.grownBy w row) (o : Obj) : a.grownBy (w.alloc o) row :=
  ⟨h.os, h.tape, h.output, Nat.le_trans h.size (by simp), fun i hi hne => (Below.heap_alloc w o i (Nat.lt_of_lt_of_le hi h.size)).trans (h.block i hi hne)⟩
theorem only_drewN {a w : World} {row : Option Nat} (h : a.grownBy w row) (n : Nat) : a.grownBy (w.drewN n) row := ⟨h.os, h.tape, h.output, h.size, h.block⟩
theorem only_trans {a b c : World} {row : Option Nat} (h : a.grownBy b row) (k : b.grownBy c row) : a.grownBy c row :=
  ⟨k.os.trans h.os, k.tape.trans h.tape, k.output.trans h.output, Nat.le_trans h.size k.size, fun i hi hne => (k.block i (Nat.lt_of_lt_of_le hi h.size) hne).trans (h.block i hi hne)⟩
theorem blk_set_alloc {w : World} {g : Nat} {t : TypeId} {cs : Array Value} (h : w.heap[g]? = some (.cells cs t (0, 0))) (i : Nat) (u : Value) (o : Obj) : ((w.setCell ⟨g, i, none⟩ u).alloc o).heap[g]? = some (.cells (cs.setIfInBounds i u) t (0, 0)) :=
  (Below.heap_alloc _ _ _ (by simpa [World.setCell] using blk_lt h)).trans (blk_set h i u)
/-- All blocks but those of X are as they were; new ones may have come. -/
structure Kept (w w' : World) (X : Nat → Prop) : Prop where
  os : w'.os = w.os
  tape : w'.tape = w.tape
  output : w'.output = w.output
  size : w.heap.size ≤ w'.heap.size
  block : ∀ k, k < w.heap.size → ¬ X k → w'.heap[k]? = w.heap[k]?
section
variable {a b c w w' : World} {X Y : Nat → Prop}
theorem Kept.refl (w : World) (X : Nat → Prop) : Kept w w X := ⟨rfl, rfl, rfl, Nat.le_refl _, fun _ _ _ => rfl⟩
theorem Kept.trans (h : Kept a b X) (k : Kept b c X) : Kept a c X :=
  ⟨k.os.trans h.os, k.tape.trans h.tape, k.output.trans h.output, Nat.le_trans h.size k.size, fun i hi hx => (k.block i (Nat.lt_of_lt_of_le hi h.size) hx).trans (h.block i hi hx)⟩
theorem Kept.mono (h : Kept a b X) (hx : ∀ k, X k → Y k) : Kept a b Y := ⟨h.os, h.tape, h.output, h.size, fun i hi hy => h.block i hi (fun hxi => hy (hx i hxi))⟩
theorem Kept.of_only {g : Nat} (h : a.grownBy b (some g)) (hx : X g) : Kept a b X := ⟨h.os, h.tape, h.output, h.size, fun i hi hn => h.block i hi (fun e => by injection e with e; subst e; exact hn hx)⟩
theorem Kept.of_below (h : Below a.heap.size a b) : Kept a b X := ⟨h.os, h.tape, h.output, h.size, fun i hi _ => h.block i hi⟩
theorem Kept.below {B : Nat} (h : Kept a b X) (hB : B ≤ a.heap.size) (hX : ∀ k, X k → B ≤ k) : Below B a b := ⟨h.os, h.tape, h.output, h.size, fun i hi => h.block i (by omega) (fun hx => by have := hX i hx; omega)⟩
theorem Kept.alloc (h : Kept a b X) (o : Obj) : Kept a (b.alloc o) X := h.trans ⟨rfl, rfl, rfl, by simp, fun k hk _ => Below.heap_alloc _ _ _ hk⟩
theorem Kept.setCell (h : Kept a b X) {p : Addr} (hp : X p.block ∨ a.heap.size ≤ p.block) (u : Value) : Kept a (b.setCell p u) X :=
  ⟨h.os, h.tape, h.output, by simpa [World.setCell] using h.size, fun k hk hx => (Below.heap_setCell _ _ _ _ (by rintro rfl; rcases hp with hp | hp; exact hx hp; omega)).trans (h.block k hk hx)⟩
theorem Kept.drewN (h : Kept a b X) (n : Nat) : Kept a (b.drewN n) X := ⟨h.os, h.tape, h.output, h.size, h.block⟩
end
theorem Kept.blk {w w' : World} {X : Nat → Prop} {g : Nat} {o : Option Obj} (h : Kept w w' X) (hg : w.heap[g]? = o) (hl : g < w.heap.size) (hx : ¬ X g) : w'.heap[g]? = o := (h.block g hl hx).trans hg
theorem Kept.cell {w w' : World} {X : Nat → Prop} (h : Kept w w' X) {g i : Nat} (hl : g < w.heap.size) (hx : ¬ X g) : w'.cell? ⟨g, i, none⟩ = w.cell? ⟨g, i, none⟩ := by
  have := h.block g hl hx
  simp only [World.cell?, this]
theorem blk_new (w : World) (o : Obj) : (w.alloc o).heap[w.heap.size]? = some o := by show (w.heap.push o)[w.heap.size]? = _; simp
theorem blk_new2 (w : World) (o p : Obj) : ((w.alloc o).alloc p).heap[w.heap.size + 1]? = some p := by simpa using blk_new (w.alloc o) p
theorem RowAt.cut {α : Type} {cells : α → List Value} {size : Nat} {w : World} {B n k cap : Nat} {A : Option Addr} {xs : List α} (h : RowAt cells size w B A n xs) (hk : k ≤ n) (hc : n ≤ cap) :
    RowAt cells size w B (if cap = k then A else A.map (·.add (k * size))) (n - k) (xs.drop k) := by
  refine ⟨by rw [List.length_drop, h.1], fun hn => ?_⟩
  obtain ⟨b, off, rfl, hb, hcell⟩ := h.2 (by omega)
  rw [if_neg (by omega)]
  refine ⟨b, off + k * size, by simp [Addr.add_lit], hb, fun i x hx j u hu => ?_⟩
  rw [List.getElem?_drop] at hx
  have := hcell _ x hx j u hu
  rw [Nat.add_mul, ← Nat.add_assoc] at this
  exact this
theorem RowAt.take_ {α : Type} {cells : α → List Value} {size : Nat} {w : World} {B n k : Nat} {A : Option Addr} {xs : List α} (h : RowAt cells size w B A n xs) (hk : k ≤ n) : RowAt cells size w B A k (xs.take k) := by
  refine ⟨by rw [List.length_take, h.1]; omega, fun hn => ?_⟩
  obtain ⟨b, off, e, hb, hx⟩ := h.2 (by omega)
  refine ⟨b, off, e, hb, fun i x hi j u hu => hx i x ?_ j u hu⟩
  have hik : i < k := by have := (List.getElem?_eq_some_iff.1 hi).1; simp at this; omega
  rwa [List.getElem?_take_of_lt hik] at hi
theorem bel_alloc {w X : World} (h : Below w.heap.size w X) (o : Obj) : Below w.heap.size w (X.alloc o) := h.alloc h.size o
theorem bel_drew {w X : World} (h : Below w.heap.size w X) : Below w.heap.size w X.drew := h.drew
theorem bel_set {w X : World} (h : Below w.heap.size w X) {b i : Nat} (hb : w.heap.size ≤ b) (u : Value) : Below w.heap.size w (X.setCell ⟨b, i, none⟩ u) := h.setCell hb u
theorem RowAt.prefix_ {α : Type} {cells : α → List Value} {size : Nat} {w : World} {B n : Nat} {A : Option Addr} {xs : List α} {sp : α} (h : RowAt cells size w B A (n + 1) (xs ++ [sp])) : RowAt cells size w B A n xs := by
  have hl : xs.length = n := by have := h.1; simp at this; exact this
  refine ⟨hl, fun hn => ?_⟩
  obtain ⟨b, off, e, hb, hc⟩ := h.2 (by omega)
  exact ⟨b, off, e, hb, fun i x hx j u hu => hc i x (by rw [List.getElem?_append_left (List.getElem?_eq_some_iff.1 hx).1]; exact hx) j u hu⟩
theorem int_rem {a b : Nat} (h : 0 < b) : ((a : Int) % (b : Int)) = ((a % b : Nat) : Int) := by simp
theorem drop_get {α : Type} {l : List α} {k : Nat} {x : α} (h : l[k]? = some x) : l.drop k = x :: l.drop (k + 1) := by
  obtain ⟨hk, e⟩ := List.getElem?_eq_some_iff.1 h
  rw [List.drop_eq_getElem_cons hk, e]
end Go.Proofs.YtfafhfjmoijaeaaGreatDoor

/- From blocks and owned rows to rows that read as lists. Plain theorems over any program. -/
import Derived.Test.YtfafhfjmoijaeaaGreatDoorBase
namespace Go.Proofs.YtfafhfjmoijaeaaGreatDoor
open Go.RowKit
set_option linter.unusedVariables false
set_option linter.unusedSimpArgs false


theorem flat_get {α : Type} {cells : α → List Value} {size : Nat} : ∀ (xs : List α) (hs : ∀ x ∈ xs, (cells x).length = size) (i : Nat) (x : α), xs[i]? = some x → ∀ j u, (cells x)[j]? = some u → (xs.flatMap cells)[i * size + j]? = some u
  | [], _, _, _, h, _, _, _ => by simp at h
  | y :: r, hs, 0, x, h, j, u, hu => by
    simp at h; subst h
    rw [List.flatMap_cons, List.getElem?_append_left]
    · simpa using hu
    · simpa using (List.getElem?_eq_some_iff.1 hu).1
  | y :: r, hs, i + 1, x, h, j, u, hu => by
    have hy := hs y (by simp)
    rw [List.flatMap_cons, List.getElem?_append_right (by rw [hy, Nat.add_mul]; omega), hy, show (i + 1) * size + j - size = i * size + j from by rw [Nat.add_mul]; omega]
    exact flat_get r (fun z hz => hs z (by simp [hz])) i x (by simpa using h) j u hu
theorem flat_len {α : Type} {cells : α → List Value} {size : Nat} (xs : List α) (hs : ∀ x ∈ xs, (cells x).length = size) : (xs.flatMap cells).length = xs.length * size := by
  induction xs with
  | nil => simp
  | cons y r ih => rw [List.flatMap_cons, List.length_append, hs y (by simp), ih (fun x hx => hs x (by simp [hx])), List.length_cons, Nat.add_mul]; omega
/-- A block whose first cells are those of xs. -/
theorem rowAt_block {α : Type} {cells : α → List Value} {size : Nat} {w : World} {b B : Nat} {cs : Array Value} {t : TypeId} {fr : Nat × Nat} (xs : List α) (hs : ∀ x ∈ xs, (cells x).length = size)
    (h : w.heap[b]? = some (.cells cs t fr)) (hb : b < B) (hcs : ∀ (j : Nat) (u : Value), (xs.flatMap cells)[j]? = some u → cs[j]? = some u) : RowAt cells size w B (some ⟨b, 0, none⟩) xs.length xs :=
  ⟨rfl, fun _ => ⟨b, 0, rfl, hb, fun i x hx j u hu => by
    rw [cell_of_row _ _ _ cs t fr h]
    exact hcs _ _ (by have := flat_get xs hs i x hx j u hu; simpa using this)⟩⟩
/-- An owned row reads as its list. -/
theorem rowAt_own {α : Type} {cells : α → List Value} {size : Nat} {w : World} {base : Nat} {e : TypeId} {v : Value} {xs : List α} (hs : ∀ x ∈ xs, (cells x).length = size)
    (h : w.ownsRow base e size v xs.length (xs.flatMap cells)) : ∃ A cap, v = .slice A xs.length cap ∧ RowAt cells size w w.heap.size A xs.length xs ∧ (A = none → xs.length = 0 ∧ cap = 0) ∧ xs.length ≤ cap := by
  obtain ⟨h1, h2 | ⟨g, cap, cur, hv, hg, hh, hn, hc, hsz, ht⟩⟩ := h
  · obtain ⟨rfl, h0⟩ := h2
    refine ⟨none, 0, by rw [h0], ?_, fun _ => ⟨h0, rfl⟩, by omega⟩
    rw [h0]
    have : xs = [] := List.eq_nil_of_length_eq_zero h0
    subst this
    exact RowAt.nil_
  · refine ⟨_, _, hv, rowAt_block xs hs hh (Array.getElem?_eq_some_iff.1 hh).1 (fun j u hu => ?_), (fun h => by cases h), hn⟩
    rw [← ht, List.getElem?_take] at hu
    split at hu
    · simpa using hu
    · cases hu
theorem len_wr (ws : List Wr) : ∀ x ∈ ws, (Wr.cells x).length = 3 := fun _ _ => rfl
end Go.Proofs.YtfafhfjmoijaeaaGreatDoor

/- XKx: out of XBkG (pick.py). -/
import Derived.Test.YtfafhfjmoijaeaaGreatDoorBk0
namespace Go.Proofs.YtfafhfjmoijaeaaGreatDoor
open Go.RowKit
set_option linter.unusedVariables false
set_option linter.unusedSimpArgs false

section
set_option maxRecDepth 100000
/-- The block g, and those of certain types. -/
def TyX (w : World) (g : Nat) (P : TypeId → Prop) (b : Nat) : Prop := b = g ∨ ∃ cs t, P t ∧ w.heap[b]? = some (.cells cs t (0, 0))
theorem TyX.trans {a b c : World} {g : Nat} {P : TypeId → Prop} (h : Kept a b (TyX a g P)) (k : Kept b c (TyX b g P)) : Kept a c (TyX a g P) :=
  h.trans2 k fun i hi => by
    by_cases hs : i < a.heap.size
    · refine Or.inl ?_
      by_cases hx : TyX a g P i
      · exact hx
      · rcases hi with hi | ⟨cs, t, ht, hi⟩
        · exact Or.inl hi
        · exact Or.inr ⟨cs, t, ht, by rw [← h.block i hs hx]; exact hi⟩
    · exact Or.inr (by omega)
theorem TyX.ne {w : World} {g b : Nat} {P : TypeId → Prop} {cs : Array Value} {t : TypeId} (hb : w.heap[b]? = some (.cells cs t (0, 0))) (hg : b ≠ g) (hP : ¬ P t) : ¬ TyX w g P b := fun h => by
  rcases h with h | ⟨c, u, hu, h⟩
  · exact hg h
  · rw [hb] at h; injection h with h; injection h with _ h; subst h; exact hP hu
theorem TyX.one {w : World} {g : Nat} {P : TypeId → Prop} {H : TypeId} (hH : P H) (b : Nat) (h : b = g ∨ ∃ cs, w.heap[b]? = some (.cells cs H (0, 0))) : TyX w g P b := h.imp id fun ⟨cs, h⟩ => ⟨cs, H, hH, h⟩
theorem TkAt.empty {α β : Type} {f : α → List Value} {f' : β → List Value} {size n cap B : Nat} {t : TypeId} {w : World} {A : Option Addr} {l : List α} (h : TkAt f size t w B A n cap l) : TkAt f' size t w B A 0 cap ([] : List β) := by
  obtain ⟨h1, h2, h3⟩ := h
  exact ⟨rfl, Nat.zero_le _, h3.imp id fun ⟨g, o, cur, a1, a2, a3, a4, a5⟩ => ⟨g, o, cur, a1, a2, a3, a4, fun i x hi => by simp at hi⟩⟩
end
end Go.Proofs.YtfafhfjmoijaeaaGreatDoor

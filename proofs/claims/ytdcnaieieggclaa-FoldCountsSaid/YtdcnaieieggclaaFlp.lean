/- Chains as the transitive closure: plain theorems on what fold.Chained answers. -/
import Derived.Test.YtdcnaieieggclaaFold6
namespace Go.Proofs.Ytdcnaieieggclaa
open Go.RowKit
set_option linter.unusedVariables false
set_option linter.unusedSimpArgs false

/-- Is place b reached from place a? -/
def CB (rs : List RTx) (a b : Nat) : Bool := decide ((reachL rs a (b - a)).getLast? = some b)
theorem reach_mem (rs : List RTx) (a : Nat) : ∀ t q, q ∈ reachL rs a t ↔ q = a ∨ (a < q ∧ q ≤ a + t ∧ CB rs a q = true)
  | 0, q => by
    simp only [reachL, List.mem_singleton, Nat.add_zero]
    constructor
    · exact Or.inl
    · rintro (h | ⟨h1, h2, -⟩)
      · exact h
      · omega
  | t + 1, q => by
    have ih := reach_mem rs a t q
    by_cases hq : q = a + 1 + t
    · subst hq
      have hbd := reachL_bd rs a t
      have hcb : CB rs a (a + 1 + t) = (reachL rs a t).any fun q => pairB rs q (a + 1 + t) := by
        unfold CB
        rw [show a + 1 + t - a = t + 1 from by omega, reachL]
        cases hc : (reachL rs a t).any fun q => pairB rs q (a + 1 + t)
        · rw [if_neg (by simp), decide_eq_false_iff_not]
          intro hl
          have := hbd _ (List.mem_of_getLast? hl)
          omega
        · rw [if_pos rfl]; simp
      rw [hcb, reachL]
      cases hc : (reachL rs a t).any fun q => pairB rs q (a + 1 + t)
      · rw [if_neg (by simp)]
        simp only [Bool.false_eq_true, and_false, or_false]
        constructor
        · intro h; have := hbd _ h; omega
        · intro h; omega
      · rw [if_pos rfl]
        constructor
        · intro _; exact Or.inr ⟨by omega, by omega, rfl⟩
        · intro _; exact List.mem_append_right _ (by simp)
    · rw [reachL]
      split
      · rw [List.mem_append, ih]
        simp only [List.mem_singleton]
        constructor
        · rintro ((h | h) | h)
          · exact Or.inl h
          · exact Or.inr ⟨h.1, by omega, h.2.2⟩
          · exact absurd h hq
        · rintro (h | ⟨h1, h2, h3⟩)
          · exact Or.inl (Or.inl h)
          · exact Or.inl (Or.inr ⟨h1, by omega, h3⟩)
      · rw [ih]
        constructor
        · rintro (h | ⟨h1, h2, h3⟩)
          · exact Or.inl h
          · exact Or.inr ⟨h1, by omega, h3⟩
        · rintro (h | ⟨h1, h2, h3⟩)
          · exact Or.inl h
          · exact Or.inr ⟨h1, by omega, h3⟩
theorem CB_rec (rs : List RTx) {a b : Nat} (hab : a < b) : CB rs a b = true ↔ pairB rs a b = true ∨ ∃ q, a < q ∧ q < b ∧ CB rs a q = true ∧ pairB rs q b = true := by
  obtain ⟨t, rfl⟩ : ∃ t, b = a + 1 + t := ⟨b - a - 1, by omega⟩
  have hcb : CB rs a (a + 1 + t) = (reachL rs a t).any fun q => pairB rs q (a + 1 + t) := by
    unfold CB
    rw [show a + 1 + t - a = t + 1 from by omega, reachL]
    cases hc : (reachL rs a t).any fun q => pairB rs q (a + 1 + t)
    · rw [if_neg (by simp), decide_eq_false_iff_not]
      intro hl
      have := reachL_bd rs a t _ (List.mem_of_getLast? hl)
      omega
    · rw [if_pos rfl]; simp
  rw [hcb, List.any_eq_true]
  constructor
  · rintro ⟨q, hq, hp⟩
    rcases (reach_mem rs a t q).1 hq with rfl | ⟨h1, h2, h3⟩
    · exact Or.inl hp
    · exact Or.inr ⟨q, h1, by omega, h3, hp⟩
  · rintro (hp | ⟨q, h1, h2, h3, hp⟩)
    · exact ⟨a, (reach_mem rs a t a).2 (Or.inl rfl), hp⟩
    · exact ⟨q, (reach_mem rs a t q).2 (Or.inr ⟨h1, by omega, h3⟩), hp⟩
theorem CB_trans (rs : List RTx) {a k : Nat} (hak : a < k) (h1 : CB rs a k = true) : ∀ n b, b ≤ n → k < b → CB rs k b = true → CB rs a b = true
  | 0, b, hb, hk, _ => by omega
  | n + 1, b, hb, hk, h => by
    rw [CB_rec rs (by omega)]
    rcases (CB_rec rs hk).1 h with hp | ⟨q, h2, h3, h4, h5⟩
    · exact Or.inr ⟨k, hak, hk, h1, hp⟩
    · exact Or.inr ⟨q, by omega, h3, CB_trans rs hak h1 n q (by omega) h2 h4, h5⟩
/-- The law. -/
theorem CB_link (rs : List RTx) {a b : Nat} (hab : a < b) : CB rs a b = (pairB rs a b || (List.range (b - a - 1)).any fun t => CB rs a (a + 1 + t) && CB rs (a + 1 + t) b) := by
  rw [Bool.eq_iff_iff, Bool.or_eq_true, List.any_eq_true]
  constructor
  · intro h
    rcases (CB_rec rs hab).1 h with hp | ⟨q, h1, h2, h3, h4⟩
    · exact Or.inl hp
    · refine Or.inr ⟨q - a - 1, List.mem_range.2 (by omega), ?_⟩
      rw [show a + 1 + (q - a - 1) = q from by omega, h3, (CB_rec rs h2).2 (Or.inl h4)]; rfl
  · rintro (hp | ⟨t, h1, h2⟩)
    · exact (CB_rec rs hab).2 (Or.inl hp)
    · rw [Bool.and_eq_true] at h2
      have := List.mem_range.1 h1
      exact CB_trans rs (by omega) h2.1 b b (Nat.le_refl _) (by omega) h2.2
end Go.Proofs.Ytdcnaieieggclaa

/- Lemmas and contracts of functions that a statement of this seat stands on; each holds under the premises typed in its head. -/
import Derived.Test.YtdcnaieieggclaaFold5
namespace Go.Proofs.Ytdcnaieieggclaa
open Go.RowKit
set_option linter.unusedVariables false
set_option linter.unusedSimpArgs false

open Go.Maps
/-! The plain law: both know the same chains. -/
theorem hasKey_iff (ws : List Wr) (k : ByteArray) : hasKey ws k = true ↔ ∃ x ∈ ws, x.key = k := by
  unfold hasKey; rw [List.any_eq_true]
  constructor
  · rintro ⟨x, hx, h⟩; exact ⟨x, hx, by simpa [keyIs, toList_inj] using h⟩
  · rintro ⟨x, hx, h⟩; exact ⟨x, hx, by simpa [keyIs, toList_inj] using h⟩
theorem neigh_iff (us vs : List Wr) : neighB us vs = true ↔ ∃ x ∈ us, ∃ y ∈ vs, y.key = x.key := by
  unfold neighB; rw [List.any_eq_true]
  constructor
  · rintro ⟨x, hx, h⟩; exact ⟨x, hx, (hasKey_iff _ _).1 h⟩
  · rintro ⟨x, hx, h⟩; exact ⟨x, hx, (hasKey_iff _ _).2 h⟩
theorem keysB_put (m : List (ByteArray × Bool)) (k j : ByteArray) : keysB (mput m k true) j = (decide (k = j) || keysB m j) := by
  unfold keysB; rw [mget_mput]
  by_cases h : k = j
  · simp [h]
  · simp [h]
theorem keysB_puts (m : List (ByteArray × Bool)) (ws : List Wr) (j : ByteArray) : keysB (puts m ws) j = true ↔ keysB m j = true ∨ ∃ x ∈ ws, x.key = j := by
  induction ws generalizing m with
  | nil => simp [puts]
  | cons x r ih =>
    rw [show puts m (x :: r) = puts (mput m x.key true) r from rfl, ih, keysB_put]
    simp only [Bool.or_eq_true, decide_eq_true_eq, List.mem_cons, exists_eq_or_imp]
    constructor
    · rintro ((h | h) | h)
      · exact Or.inr (Or.inl h)
      · exact Or.inl h
      · exact Or.inr (Or.inr h)
    · rintro (h | h | h)
      · exact Or.inl (Or.inr h)
      · exact Or.inl (Or.inl h)
      · exact Or.inr h
theorem wsOf_get {rs : List RTx} {p : Nat} {r : RTx} (h : rs[p]? = some r) : wsOf rs p = r.ws := by simp [wsOf, h]
theorem chain_hit {rs : List RTx} {a t : Nat} {r : RTx} (ih : ∀ k, keysB (chainM rs a (t + 1)) k = true ↔ ∃ q ∈ reachL rs a t, ∃ x ∈ wsOf rs q, x.key = k) (h : rs[a + 1 + t]? = some r) :
    (r.ws.any fun x => keysB (chainM rs a (t + 1)) x.key) = (reachL rs a t).any fun q => pairB rs q (a + 1 + t) := by
  rw [Bool.eq_iff_iff, List.any_eq_true, List.any_eq_true]
  unfold pairB
  rw [wsOf_get h]
  constructor
  · rintro ⟨x, hx, hk⟩
    obtain ⟨q, hq, y, hy, e⟩ := (ih _).1 hk
    exact ⟨q, hq, (neigh_iff _ _).2 ⟨y, hy, x, hx, e.symm⟩⟩
  · rintro ⟨q, hq, hn⟩
    obtain ⟨y, hy, x, hx, e⟩ := (neigh_iff _ _).1 hn
    exact ⟨x, hx, (ih _).2 ⟨q, hq, y, hy, e.symm⟩⟩
theorem chain_keys (rs : List RTx) (a : Nat) : ∀ t, a + t < rs.length → ∀ k, keysB (chainM rs a (t + 1)) k = true ↔ ∃ q ∈ reachL rs a t, ∃ x ∈ wsOf rs q, x.key = k
  | 0, h, k => by
    have hx : rs[a + 0]? = some (rs[a]'h) := List.getElem?_eq_getElem h
    have hx0 : rs[a]? = some (rs[a]'h) := List.getElem?_eq_getElem h
    rw [chainM_hit hx (Or.inl rfl), keysB_puts]
    simp [chainM, keysB, mget, reachL, wsOf_get hx0]
  | t + 1, h, k => by
    have ih := chain_keys rs a t (by omega)
    have hx : rs[a + (t + 1)]? = some (rs[a + (t + 1)]'h) := List.getElem?_eq_getElem h
    have hx2 : rs[a + 1 + t]? = some (rs[a + (t + 1)]'h) := by rw [show a + 1 + t = a + (t + 1) from by omega]; exact hx
    have hh := chain_hit ih hx2
    cases hc : (reachL rs a t).any fun q => pairB rs q (a + 1 + t)
    · rw [hc] at hh
      rw [chainM_miss hx (by omega) hh, reachL, if_neg (by rw [hc]; simp)]
      exact ih k
    · rw [hc] at hh
      rw [chainM_hit hx (Or.inr hh), reachL, if_pos hc, keysB_puts, ih k]
      constructor
      · rintro (⟨q, hq, y⟩ | y)
        · exact ⟨q, List.mem_append_left _ hq, y⟩
        · exact ⟨a + 1 + t, List.mem_append_right _ (by simp), by rw [wsOf_get hx2]; exact y⟩
      · rintro ⟨q, hq, y⟩
        rcases List.mem_append.1 hq with hq | hq
        · exact Or.inl ⟨q, hq, y⟩
        · simp at hq; subst hq
          rw [wsOf_get hx2] at y
          exact Or.inr y
theorem chains_same (rs : List RTx) (a b : Nat) (hab : a < b) (hbl : b < rs.length) :
    (((rs[b]?).map fun r => r.ws.any fun x => keysB (chainM rs a (b - a)) x.key).getD false) = decide ((reachL rs a (b - a)).getLast? = some b) := by
  obtain ⟨d, rfl⟩ : ∃ d, b = a + 1 + d := ⟨b - a - 1, by omega⟩
  have hx : rs[a + 1 + d]? = some (rs[a + 1 + d]'hbl) := List.getElem?_eq_getElem hbl
  rw [hx, show a + 1 + d - a = d + 1 from by omega]
  simp only [Option.map_some, Option.getD_some]
  rw [chain_hit (chain_keys rs a d (by omega)) hx, reachL]
  cases hc : (reachL rs a d).any fun q => pairB rs q (a + 1 + d)
  · rw [if_neg (by simp)]
    symm
    rw [decide_eq_false_iff_not]
    intro hl
    have := reachL_bd rs a d _ (List.mem_of_getLast? hl)
    omega
  · rw [if_pos rfl]; simp
end Go.Proofs.Ytdcnaieieggclaa

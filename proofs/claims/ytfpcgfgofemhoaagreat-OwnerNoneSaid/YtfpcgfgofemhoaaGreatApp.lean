/- append of a slice that reads as a list, to a slice of the walk's own. Plain theorems over any program. -/
import Derived.Test.YtfpcgfgofemhoaaGreatCore
import Derived.Laws.AppendOwnNone
namespace Go.Proofs.YtfpcgfgofemhoaaGreat
open Go.RowKit
set_option linter.unusedVariables false
set_option linter.unusedSimpArgs false

theorem flat_idx {α : Type} {cells : α → List Value} {size : Nat} : ∀ (xs : List α) (hs : ∀ x ∈ xs, (cells x).length = size) (j : Nat) (u : Value), (xs.flatMap cells)[j]? = some u → ∃ i x r, xs[i]? = some x ∧ (cells x)[r]? = some u ∧ j = i * size + r
  | [], _, _, _, h => by simp at h
  | y :: r, hs, j, u, h => by
    have hy := hs y (by simp)
    rw [List.flatMap_cons] at h
    by_cases hj : j < size
    · rw [List.getElem?_append_left (by omega)] at h
      exact ⟨0, y, j, rfl, h, by omega⟩
    · rw [List.getElem?_append_right (by omega), hy] at h
      obtain ⟨i, x, q, h1, h2, h3⟩ := flat_idx r (fun z hz => hs z (by simp [hz])) _ u h
      exact ⟨i + 1, x, q, by simpa using h1, h2, by rw [Nat.add_mul]; omega⟩
theorem grownBy_refl (w : World) (row : Option Nat) : w.grownBy w row := ⟨rfl, rfl, rfl, Nat.le_refl _, fun _ _ _ => rfl⟩
theorem below_grown_own {w w' : World} {v : Value} {base n size : Nat} {e : TypeId} {xs : List Value} (h : w.ownsRow base e size v n xs) (hg : w.grownBy w' v.ownBlock) (hb : base ≤ w.heap.size) : Below base w w' :=
  (Below.refl _ _).grown hg hb (fun k hk => (h.lt k hk).1)
theorem wpList_append_row {α : Type} {cells : α → List Value} {P : Program} {w : World} {ops : Array Oper} {rest : List Oper} {o : Oper} {a : Act} {Q : Exit → Act → World → Prop} (hgd : o.guard = none) (s x : Operand) (t : TypeId)
    (ho : o.op = .call { callee := .builtin .append, args := #[s, x], argTypes := #[t, t] })
    (base : Nat) (e : TypeId) (i : TypeInfo) (z : Value) (size bytes : Nat) (ht : P.underlying t = some (.slice e)) (hi : P.info? e = some i) (hz : i.zero = some z)
    (hsize : i.size = size) (hby : i.bytes = bytes) (hzs : z.cells.size = size) (hsz : 0 < size)
    (v : Value) (n : Nat) (xs : List Value) (hs : a.eval s = v) (hown : w.ownsRow base e size v n xs)
    (Ax : Option Addr) (m c B : Nat) (ys : List α) (hx : a.eval x = .slice Ax m c) (hrow : RowAt cells size w B Ax m ys) (hnil : Ax = none → c = 0) (hys : ∀ y ∈ ys, (cells y).length = size) (h1 : ∀ y, ∀ u ∈ cells y, u.oneCell' = true)
    (h63 : n + m ≤ maxLen) (hbytes : (n + m) * bytes ≤ 140737488355328) (hbase : base ≤ w.heap.size)
    (h : ∀ v' w', w'.ownsRow base e size v' (n + m) (xs ++ ys.flatMap cells) → w.grownBy w' v.ownBlock → wpList P ops Q rest (a.put o.dst v') w') : wpList P ops Q (o :: rest) a w := by
  cases Ax with
  | none =>
    have hm : m = 0 := by
      rcases Nat.eq_zero_or_pos m with h0 | h0
      · exact h0
      · obtain ⟨b, off, hh, -⟩ := hrow.2 h0; cases hh
    subst hm
    have hc := hnil rfl
    subst hc
    have hy : ys = [] := List.eq_nil_of_length_eq_zero hrow.1
    subst hy
    exact wpList_append_own_none hgd s x t ho base e i size ht hi v n xs hs hown hx (h v w (by simpa using hown) (grownBy_refl _ _))
  | some ad =>
    refine wpList_append_own w hgd s x t ho base e i z size bytes ht hi hz hsize hby hzs hsz v n xs hs hown ad m c (ys.flatMap cells) hx (by rw [flat_len ys hys, hrow.1]) (fun j u hu => ?_) (fun u hu => ?_) h63 hbytes hbase (fun v' w' h2 h3 _ => h v' w' h2 h3)
    · obtain ⟨q, y, r, hq, hr, hj⟩ := flat_idx ys hys j u hu
      have hm : 0 < m := by
        have := (List.getElem?_eq_some_iff.1 hq).1
        have := hrow.1
        omega
      obtain ⟨b, off, he, -, hc⟩ := hrow.2 hm
      injection he with he
      subst he
      rw [Addr.add_lit, hj, ← Nat.add_assoc]
      exact hc q y hq r u hr
    · obtain ⟨y, -, hu2⟩ := List.mem_flatMap.1 hu
      exact h1 y u hu2
end Go.Proofs.YtfpcgfgofemhoaaGreat

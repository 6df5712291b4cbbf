/- Lemmas and contracts of functions that a statement of this seat stands on; each holds under the premises typed in its head. -/
import Derived.Test.YtdcnaieieggclaaT3
import Derived.Maps.Own
import Derived.Maps.OwnOps
namespace Go.Proofs.Ytdcnaieieggclaa
open Go.RowKit
set_option linter.unusedVariables false
set_option linter.unusedSimpArgs false

open Go.Maps
def sameKey (x y : Wr) : Bool := y.key.toList == x.key.toList
/-- The writes that count: of each key the last one. -/
def countingL : List Wr → List Wr
  | [] => []
  | x :: r => if r.any (sameKey x) then countingL r else x :: countingL r
/-- The same, of the first k. -/
def countTo (ws : List Wr) (k : Nat) : List Wr := (List.range k).filterMap fun i => match ws[i]? with | some x => if (ws.drop (i + 1)).any (sameKey x) then none else some x | none => none
theorem countTo_succ {ws : List Wr} {k : Nat} {x : Wr} (h : ws[k]? = some x) : countTo ws (k + 1) = countTo ws k ++ if (ws.drop (k + 1)).any (sameKey x) then [] else [x] := by
  unfold countTo
  rw [List.range_succ, List.filterMap_append]
  congr 1
  simp only [List.filterMap_cons, h, List.filterMap_nil]
  by_cases hb : (ws.drop (k + 1)).any (sameKey x) = true
  · rw [if_pos hb, if_pos hb]
  · rw [if_neg hb, if_neg hb]
theorem countTo_cons (x : Wr) (r : List Wr) : ∀ k, countTo (x :: r) (k + 1) = (if r.any (sameKey x) then [] else [x]) ++ countTo r k := by
  intro k
  unfold countTo
  rw [List.range_succ_eq_map, List.filterMap_cons, List.filterMap_map]
  simp only [List.getElem?_cons_zero, List.drop_succ_cons, List.drop_zero]
  by_cases h : r.any (sameKey x) = true
  · simp [h, Function.comp_def]
  · simp [h, Function.comp_def]
theorem countTo_all (ws : List Wr) : countTo ws ws.length = countingL ws := by
  induction ws with
  | nil => rfl
  | cons x r ih =>
    rw [List.length_cons, countTo_cons, ih]
    show _ = if r.any (sameKey x) then countingL r else x :: countingL r
    by_cases hb : r.any (sameKey x) = true
    · rw [if_pos hb, if_pos hb]; rfl
    · rw [if_neg hb, if_neg hb]; rfl
theorem countTo_le (ws : List Wr) (k : Nat) : (countTo ws k).length ≤ k := by
  unfold countTo
  exact Nat.le_trans (List.length_filterMap_le _ _) (by simp)
theorem info_wr : (Try.prog.info? 39).map (fun i => (i.zero, i.size, i.bytes)) = some (some (.agg #[.string ⟨#[]⟩, .string ⟨#[]⟩, .bool false]), 3, 40) := by kernel_rfl

theorem bnot_f {a b : Bool} (h : false = !a) : false = !(a || b) := by cases a <;> simp_all
theorem bnot_t {a b : Bool} (h : true = !a) : (!b) = !(a || b) := by cases a <;> simp_all
theorem ownsRow_below {w w' : World} {base : Nat} {e : TypeId} {size : Nat} {v : Value} {n : Nat} {xs : List Value} (h : w.ownsRow base e size v n xs) (hb : Below w.heap.size w w') : w'.ownsRow base e size v n xs := by
  obtain ⟨h1, h2⟩ := h
  refine ⟨h1, ?_⟩
  rcases h2 with h2 | ⟨g, cap, cur, hv, hg, hh, r⟩
  · exact Or.inl h2
  · exact Or.inr ⟨g, cap, cur, hv, hg, by rw [hb.block g (Array.getElem?_eq_some_iff.1 hh).1]; exact hh, r⟩

theorem cells_new (w : World) (cs : List Value) (e : TypeId) : ∀ (j : Nat) (u : Value), cs[j]? = some u → (w.alloc (.cells cs.toArray e)).cell? ((⟨w.heap.size, 0, none⟩ : Addr).add j) = some u := by
  intro j u hu
  rw [Addr.add_lit, Nat.zero_add, cell_of_row _ _ _ cs.toArray e (0, 0) (heap_alloc_new w _)]
  simpa using hu
theorem one_wr (x : Wr) : ∀ (u : Value), u ∈ x.cells → u.oneCell' = true := by
  intro u hu
  simp only [Wr.cells, List.mem_cons, List.not_mem_nil, or_false] at hu
  rcases hu with rfl | rfl | rfl <;> rfl
theorem below_grown_new {w w' : World} {o : Obj} {v : Value} {base n size : Nat} {e : TypeId} {xs : List Value} (h : w.ownsRow base e size v n xs) (hg : (w.alloc o).grownBy w' v.ownBlock) (hb : base ≤ w.heap.size) : Below base w w' :=
  ((Below.refl _ _).alloc hb o).grown hg (by simp; omega) (fun k hk => (h.lt k hk).1)
end Go.Proofs.Ytdcnaieieggclaa

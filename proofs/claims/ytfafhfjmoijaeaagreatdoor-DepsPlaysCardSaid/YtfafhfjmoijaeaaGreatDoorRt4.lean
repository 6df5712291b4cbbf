/- The document's table of dependencies at memory: Add. -/
import Derived.Test.YtfafhfjmoijaeaaGreatDoorRd
import Derived.Deep.QuietTactic
import Derived.BigQuiet
import Derived.Deep.RegionLaw
namespace Go.Proofs.YtfafhfjmoijaeaaGreatDoor
open Go.RowKit
set_option linter.unusedVariables false
set_option linter.unusedSimpArgs false

set_option maxRecDepth 100000
/-- A row appended to nothing, as one step of a region that draws its order. -/
theorem step_copy {P : Program} {ops : Array Oper} {o : Oper} {a : Act} {w : World} {K : Act → World → Prop} {Q : Exit → Act → World → Prop} {E : Prop} {α : Type} {cells : α → List Value}
    (hg : o.guard = none) (s x : Operand) (t : TypeId) (hop : o.op = Op.call { callee := Callee.builtin Builtin.append, args := #[s, x], argTypes := #[t, t] })
    (e : TypeId) (i : TypeInfo) (z : Value) (size bytes : Nat) (h1 : P.underlying t = some (.slice e)) (h2 : P.info? e = some i) (h3 : i.zero = some z) (h4 : i.size = size) (h5 : i.bytes = bytes) (h6 : z.cells.size = size) (h7 : 0 < size)
    (hlen : ∀ x, (cells x).length = size) (h1c : ∀ x, ∀ u ∈ cells x, u.oneCell' = true)
    (hs : a.eval s = .slice none 0 0) (B0 : Nat) (A : Option Addr) (m c : Nat) (ys : List α) (hx : a.eval x = .slice A m c) (hrow : RowAt cells size w B0 A m ys) (hnil : A = none → c = 0)
    (b1 : m ≤ maxLen) (b2 : m * bytes ≤ 140737488355328)
    (hK : ∀ A' c' w', TkAt cells size e w' w.heap.size A' m c' ys → Below w.heap.size w w' → K (a.put o.dst (.slice A' m c')) w') :
    if Region.wanted o (yielded ops a.tmps) = true then Oper.wp P o a w K Q else E := by
  have hw : Region.wanted o (yielded ops a.tmps) = true := by simp [Region.wanted, hg]
  rw [if_pos hw]
  have hm : ys.length = m := hrow.1
  have h := wpList_append_row (P := P) (ops := ops) (rest := []) (Q := fun e b w' => e = .normal ∧ K b w') hg s x t hop w.heap.size e i z size bytes h1 h2 h3 h4 h5 h6 h7 (.slice none 0 0) 0 [] hs (World.ownsRow_nil _ _ _ _) A m c B0 ys hx hrow hnil (fun y _ => hlen y) h1c (by simpa using b1) (by simpa using b2) (Nat.le_refl _) (fun v' w' hown hgr => by
    have hown2 : w'.ownsRow w.heap.size e size v' ys.length (ys.flatMap cells) := by
      rw [hm]; simpa using hown
    obtain ⟨A', c', rfl, -, hT⟩ := TkAt.own (cells := cells) (B := w.heap.size) (fun x _ => hlen x) hown2 (Nat.le_refl _)
    rw [hm] at hT ⊢
    exact ⟨rfl, hK A' c' w' hT (below_grown_own (World.ownsRow_nil w w.heap.size e size) hgr (Nat.le_refl _))⟩)
  unfold wpList at h
  rw [if_pos hw] at h
  rcases h with h | ⟨-, b, w', h, -⟩
  · unfold Oper.wp at h ⊢
    generalize (execOp a.eval o).run P w = r at *
    cases r with
    | ok n w' =>
      cases n <;> simp only [Oper.upon] at h ⊢ <;>
        first
          | exact h.2
          | exact Calls.mono h (fun e w'' he => by cases e <;> first | exact he.2 | cases he.1 | (obtain ⟨_, _, h9, _⟩ := he; cases h9))
          | exact Rows.mono h (fun _ _ he => he.2)
    | halt x w' => cases x <;> simp only [Oper.upon] at h ⊢ <;> first | exact h | cases h.1
  · cases h
theorem info_one : (Tryz.prog.info? 79).map (fun i => (i.zero, i.size, i.bytes)) = some (some (.agg #[.int .i64 0, .slice none 0 0, .slice none 0 0, .bool false]), 4, 64) := by kernel_rfl
end Go.Proofs.YtfafhfjmoijaeaaGreatDoor

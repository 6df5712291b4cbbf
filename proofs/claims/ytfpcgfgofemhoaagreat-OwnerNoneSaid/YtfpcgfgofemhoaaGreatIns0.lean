/- Two splices that lay one element between others. Plain theorems. -/
import Derived.Test.YtfpcgfgofemhoaaGreatCpy
namespace Go.Proofs.YtfpcgfgofemhoaaGreat
open Go.RowKit
set_option linter.unusedVariables false
set_option linter.unusedSimpArgs false

theorem splice_dst_src {α : Type} {L P X D : List α} {a b c : Nat} (hP : P.length = a) (hX : X.length = b) (hD : D.length = c) (hL : a + b + c ≤ L.length) (ht : L.take a = P) :
    (splice (splice L (a + b) D) a X).take (a + b + c) = P ++ (X ++ D) ∧ (splice (splice L a X) (a + b) D).take (a + b + c) = P ++ (X ++ D) := by
  have e1 : (splice L (a + b) D).take a = P := by
    unfold splice
    rw [List.take_append_of_le_length (by rw [List.length_take]; omega), List.take_take, Nat.min_eq_left (by omega), ht]
  have e2 : (splice L (a + b) D).drop (a + X.length) = D ++ L.drop (a + b + D.length) := by
    unfold splice
    rw [hX, List.drop_append_of_le_length (by rw [List.length_take]; omega), List.drop_eq_nil_of_le (by rw [List.length_take]; omega), List.nil_append]
  have e3 : (splice L a X).take (a + b) = P ++ X := by
    unfold splice
    rw [ht, ← List.append_assoc, List.take_append_of_le_length (by rw [List.length_append]; omega), List.take_of_length_le (by rw [List.length_append]; omega)]
  constructor
  · rw [show splice (splice L (a + b) D) a X = (splice L (a + b) D).take a ++ (X ++ (splice L (a + b) D).drop (a + X.length)) from rfl, e1, e2]
    rw [← List.append_assoc, ← List.append_assoc, List.take_append_of_le_length (by simp only [List.length_append]; omega), List.take_of_length_le (by simp only [List.length_append]; omega), List.append_assoc]
  · rw [show splice (splice L a X) (a + b) D = (splice L a X).take (a + b) ++ (D ++ (splice L a X).drop (a + b + D.length)) from rfl, e3]
    rw [← List.append_assoc, List.take_append_of_le_length (by simp only [List.length_append]; omega), List.take_of_length_le (by simp only [List.length_append]; omega), List.append_assoc]
theorem splice_length {α : Type} {L D : List α} {o : Nat} (h : o + D.length ≤ L.length) : (splice L o D).length = L.length := length_splice L o D h
end Go.Proofs.YtfpcgfgofemhoaaGreat

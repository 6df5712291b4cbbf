/- Maps whose keys are structs or arrays: how they are found. -/
import Derived.Test.YtdcnaieieggclaaFr3
import Derived.Test.YtdcnaieieggclaaPb0
import Derived.DeepKeys4
namespace Go.Proofs.Ytdcnaieieggclaa
open Go.RowKit
set_option linter.unusedVariables false
set_option linter.unusedSimpArgs false

open Go.Maps
abbrev I64 := {n : Int // (Lit.int .i64 n).wf = true}
def i64 (n : Int) (h : -9223372036854775808 ≤ n ∧ n ≤ 9223372036854775807) : I64 := ⟨n, WalkArith.wf_i64 h⟩
theorem types_succ : ∃ m, Try.prog.types.size = m + 1 := Nat.exists_eq_succ_of_ne_zero (Nat.pos_iff_ne_zero.1 (of_decide_eq_true (by kernel_rfl)))
theorem key_place (s : ByteArray) (n : I64) (hs : s.size ≤ maxLen) : ∃ l, keyOf Try.prog 95 (.agg #[.string s, .int .i64 n.1]) = some l := by
  obtain ⟨m, hm⟩ := types_succ
  have h1 : Try.prog.keyType 95 = true := by kernel_rfl
  have hc : Try.prog.cellsOf 95 = 2 := by kernel_rfl
  have hc1 : Try.prog.cellsOf 9 = 1 := by kernel_rfl
  have hc2 : Try.prog.cellsOf 3 = 1 := by kernel_rfl
  have h2 : (Value.agg #[.string s, .int .i64 n.1]).formed Try.prog 95 = true := by simp [Value.formed, Try.underlying95, hc]
  unfold keyOf
  rw [Try.underlying95]
  simp only [h1, h2, Bool.and_self, if_true, hm]
  simp [Value.cells, Program.keyLits, Try.underlying95, Try.underlying9, Try.underlying3, hc, hc1, hc2, hs, n.2]
theorem law_place : Go.Maps.Keyed Try.prog 95 := Keyed.of_law (deep_law_laid laidOut (m := 2) (by omega) (of_decide_eq_true (by kernel_rfl)) (by kernel_rfl) (by rw [Try.underlying95]))
def placeK (s : ByteArray) (n : I64) : Value := .agg #[.string s, .int .i64 n.1]
theorem kplace (s : ByteArray) (hs : s.size ≤ maxLen) : Keying Try.prog 95 (placeK s) :=
  keying_keyed law_place (fun a => key_place s a hs) (fun a b h => by
    simp only [placeK, Value.agg.injEq] at h
    have := congrArg Array.toList h
    simp at this
    exact Subtype.ext this)
theorem key_pair (a b : I64) : ∃ l, keyOf Try.prog 108 (.agg #[.int .i64 a.1, .int .i64 b.1]) = some l := by
  obtain ⟨m, hm⟩ := types_succ
  have h1 : Try.prog.keyType 108 = true := by kernel_rfl
  have hc : Try.prog.cellsOf 108 = 2 := by kernel_rfl
  have hc2 : Try.prog.cellsOf 3 = 1 := by kernel_rfl
  have h2 : (Value.agg #[.int .i64 a.1, .int .i64 b.1]).formed Try.prog 108 = true := by simp [Value.formed, Try.underlying108, hc]
  unfold keyOf
  rw [Try.underlying108]
  simp only [h1, h2, Bool.and_self, if_true, hm]
  simp [Value.cells, Program.keyLits, Try.underlying108, Try.underlying3, hc, hc2, a.2, b.2, List.range, List.range.loop]
theorem law_pair : Go.Maps.Keyed Try.prog 108 := Keyed.of_law (deep_law_laid laidOut (m := 2) (by omega) (of_decide_eq_true (by kernel_rfl)) (by kernel_rfl) (by rw [Try.underlying108]))
def pairK (p : I64 × I64) : Value := .agg #[.int .i64 p.1.1, .int .i64 p.2.1]
theorem kpair : Keying Try.prog 108 pairK :=
  keying_keyed law_pair (fun a => key_pair a.1 a.2) (fun a b h => by
    simp only [pairK, Value.agg.injEq] at h
    have := congrArg Array.toList h
    simp at this
    exact Prod.ext (Subtype.ext this.1) (Subtype.ext this.2))
theorem kint : Keying Try.prog 3 (Value.int .i64) := keying_int Try.underlying3
theorem zint (w : World) : (zeroValue 3).run Try.prog w = .ok (.int .i64 0) w := by kernel_rfl
end Go.Proofs.Ytdcnaieieggclaa

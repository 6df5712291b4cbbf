/- TraceHolds: for every configuration, log, beginning and events: in events that pass the marks never go down, numbers are read and dispatched in order, within the window. No condition. -/
import Derived.Test.YtbiamjgkedmceaaTl2
import Derived.Test.YtbiamjgkedmceaaOpT
import Derived.Test.YtbiamjgkedmceaaRows
import Derived.OpenShut
import Derived.ShutString
import Derived.ChangeOld
import Derived.ChangeShapes
namespace Go.Proofs.Ytbiamjgkedmceaa
open Go.RowKit
set_option linter.unusedVariables false
set_option linter.unusedSimpArgs false

open Go.ChangeShapes Go.WideShapes Go.ChangeAt Go.Deep Go.Joins
namespace traceHolds
set_option maxRecDepth 100000 in
theorem lifted (os : Os) (started : os.Started) (H : Type) (enc : TypeId × Value → H) :
    ReturnsInHanded {} Try.checked os 3 .any (Rows.traceHoldsSpec.pre6 enc Try.prog Try.f3 Rows.traceHoldsRow.domain false) (Rows.traceHoldsSpec.post enc Try.prog Try.f3 false true false false) := by
  refine returnsInHanded_of_change_sized (C := Try.checked) own started (by kernel_rfl) Try.func3
    (ChangeSpec.witness6 (enc := enc) (C := Try.checked) false ⟨#[], #[.agg #[.int .i64 0, .int .i64 0, .int .i64 0, .int .i64 0, .slice none 0 0, .int .i64 0, .slice none 0 0, .slice none 0 0, .slice none 0 0]], []⟩ 8 (by kernel_rfl) (by kernel_rfl) (by kernel_rfl) (by kernel_rfl)) ?_
  intro W base args ds gs before hval0 hW hcnd hsz0 _
  have hsz : (DataW.weightsEach Try.prog (Try.f3.params.toList ++ Rows.traceHoldsSpec.plain.varTypes Try.prog) (ds ++ gs)).all (· ≤ reachBytes) = true := hsz0
  have hval : ∀ (j : Nat) t v, Try.f3.params[j]? = some t → args[j]? = some v → Value.okWide Try.prog W .any base t v := hval0
  have hW' := hW
  obtain ⟨p, q, hA0, hV, rfl, hfz, hnd⟩ := hW
  have hA : DataW.TrodAll enc Try.prog W 0 (fun _ => true) true Try.f3.params.toList args.toList ds p := hA0
  rw [Try.params3] at hA hval hsz
  obtain ⟨v0, vs0, d0, ds0, p0, q0, hargs, rfl, rfl, h0, r0⟩ := trodAll_cons hA
  obtain ⟨rfl, rfl, rfl⟩ := trodAll_nil r0
  obtain rfl : args = #[v0] := by cases args; simp_all
  obtain ⟨rfl, rfl⟩ := trodVars_none hV
  have k0 := h0
  have lt0 : ∀ x ∈ p0, x.block < W.heap.size := by obtain ⟨m, hm⟩ := k0; exact DataW.trod_lt m _ _ _ hm
  obtain ⟨cs0, rfl, -⟩ := okWide_struct Try.underlying31 (hval 0 31 v0 rfl rfl)
  have wt0 := (wt_arg hsz (j := 0) rfl rfl)
  obtain ⟨fu0, hf0⟩ := h0
  obtain ⟨c0a, c0b, c0c, c0d, A0, len0, cap0, m0, B0, nb0, cb0, H0, nh0, ch0, V0, nv0, cv0, rs0, by0, es0, ht0, hrs0, hl0, hrc0, hby0, hbn0, hbl0, hes0, hvc0, hvl0, hcf0, hef0⟩ := open_told Try.underlying31 (by kernel_rfl) (by kernel_rfl) Try.underlying23 (by kernel_rfl) (by kernel_rfl) Try.underlying3 (by kernel_rfl) (by kernel_rfl) Try.underlying24 (by kernel_rfl) Try.underlying63 (by kernel_rfl) (by kernel_rfl) (by kernel_rfl) rfl Try.underlying61 Try.underlying60 (by kernel_rfl) (by kernel_rfl) (by kernel_rfl) rfl Try.underlying9 Try.underlying4 Try.underlying28 (by kernel_rfl) (by kernel_rfl) Try.underlying25 (by kernel_rfl) Try.underlying26 (by kernel_rfl) Try.underlying29 (by kernel_rfl) Try.underlying38 (by kernel_rfl) (by kernel_rfl) (by kernel_rfl) rfl Try.underlying36 hf0 wt0
  obtain rfl : cs0 = #[.int .i64 c0a, .int .i64 c0b, .int .i64 c0c, .int .i64 c0d, .slice A0 len0 cap0, .int .i64 m0, .slice B0 nb0 cb0, .slice H0 nh0 ch0, .slice V0 nv0 cv0] := by
    have : cs0.toList = _ := ht0
    rw [← Array.toArray_toList (xs := cs0), this]
  clear hA0 hval0 hsz0
  refine (lawholds_any ⟨c0a, c0b, c0c, c0d⟩ rs0 A0 len0 cap0 m0 B0 nb0 cb0 by0 H0 nh0 ch0 V0 nv0 cv0 es0 W hrs0 hby0 hes0 hbn0 hrc0 (by omega) (by omega) (by omega)).mono fun e W' ⟨he, bel⟩ => ?_
  subst he
  exact ⟨_, rfl, _, _, _, [], _, [], hW', trodAll_mk1 (shut_bool Try.underlying4 _), (trodAll_cons_mk (Below.trod laidOut (by kernel_rfl) (of_decide_eq_true (by kernel_rfl)) k0 bel lt0) trodAll_mk0), rfl, bel.frame _, fun h => by cases h⟩
theorem over : Rows.traceHoldsRow.holds Try.pinned (OpenSpec.ofChange Rows.traceHoldsSpec) :=
  OpenClaim.holds_of_wide 3 Try.f3 rfl rfl rfl rfl rfl rfl rfl ⟨rfl, rfl, rfl, rfl, rfl⟩ rfl rfl rfl rfl rfl (by kernel_rfl) Try.func3 (by kernel_rfl)
    (of_decide_eq_true (by kernel_rfl)) (by unfold Func.isWrapper; first | (rw [if_pos (by decide +kernel)]; kernel_rfl) | (rw [if_neg (by decide +kernel)]; exact ⟨rfl, rfl⟩))
    (fun os started H enc _ => lifted os started H enc)
theorem proved : Rows.TraceHoldsSaid := over
end traceHolds

end Go.Proofs.Ytbiamjgkedmceaa

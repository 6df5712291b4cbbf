/- TraceChecks: for every configuration, log, beginning and events: the program's answer is the document's: the place of the first event that cannot be, or none, or the refusal; and nothing that was handed in is changed. No condition. -/
import Derived.Test.YtcjmppjppmiggaaGreatM6
import Derived.Test.YtcjmppjppmiggaaGreatM5
import Derived.Test.YtcjmppjppmiggaaGreatRows
import Derived.OpenShut
import Derived.ShutString
import Derived.ChangeOld
import Derived.ChangeShapes
namespace Go.Proofs.YtcjmppjppmiggaaGreat
open Go.RowKit
set_option linter.unusedVariables false
set_option linter.unusedSimpArgs false

open Go.ChangeShapes Go.WideShapes Go.ChangeAt Go.Deep Go.Joins
namespace traceChecks
set_option maxRecDepth 100000 in
theorem lifted (os : Os) (started : os.Started) (H : Type) (enc : TypeId × Value → H) :
    ReturnsInHanded {} Tryz.checked os 3 .any (Rows.traceChecksSpec.pre6 enc Tryz.prog Tryz.f3 Rows.traceChecksRow.domain false) (Rows.traceChecksSpec.post enc Tryz.prog Tryz.f3 false true false false) := by
  refine returnsInHanded_of_change_sized (C := Tryz.checked) own started (by kernel_rfl) Tryz.func3
    (ChangeSpec.witness6 (enc := enc) (C := Tryz.checked) false ⟨#[], #[.agg #[.int .i64 0, .int .i64 0, .int .i64 0, .int .i64 0, .slice none 0 0, .int .i64 0, .slice none 0 0, .slice none 0 0, .slice none 0 0]], []⟩ 8 (by kernel_rfl) (by kernel_rfl) (by kernel_rfl) (by kernel_rfl)) ?_
  intro W base args ds gs before hval0 hW hcnd hsz0 _
  have hsz : (DataW.weightsEach Tryz.prog (Tryz.f3.params.toList ++ Rows.traceChecksSpec.plain.varTypes Tryz.prog) (ds ++ gs)).all (· ≤ reachBytes) = true := hsz0
  have hval : ∀ (j : Nat) t v, Tryz.f3.params[j]? = some t → args[j]? = some v → Value.okWide Tryz.prog W .any base t v := hval0
  have hW' := hW
  obtain ⟨p, q, hA0, hV, rfl, hfz, hnd⟩ := hW
  have hA : DataW.TrodAll enc Tryz.prog W 0 (fun _ => true) true Tryz.f3.params.toList args.toList ds p := hA0
  rw [Tryz.params3] at hA hval hsz
  obtain ⟨v0, vs0, d0, ds0, p0, q0, hargs, rfl, rfl, h0, r0⟩ := trodAll_cons hA
  obtain ⟨rfl, rfl, rfl⟩ := trodAll_nil r0
  obtain rfl : args = #[v0] := by cases args; simp_all
  obtain ⟨rfl, rfl⟩ := trodVars_none hV
  have k0 := h0
  have lt0 : ∀ x ∈ p0, x.block < W.heap.size := by obtain ⟨m, hm⟩ := k0; exact DataW.trod_lt m _ _ _ hm
  obtain ⟨cs0, rfl, -⟩ := okWide_struct Tryz.underlying31 (hval 0 31 v0 rfl rfl)
  have wt0 := (wt_arg hsz (j := 0) rfl rfl)
  obtain ⟨fu0, hf0⟩ := h0
  obtain ⟨c0a, c0b, c0c, c0d, A0, len0, cap0, m0, B0, nb0, cb0, H0, nh0, ch0, V0, nv0, cv0, rs0, by0, es0, ht0, hrs0, hl0, hrc0, hnl0, ⟨hh0, hhd0, hhl0, hhv0⟩, hby0, hbn0, hbl0, hes0, hvc0, hvl0, hcf0, hef0⟩ := open_told3 Tryz.underlying31 (by kernel_rfl) (by kernel_rfl) Tryz.underlying23 (by kernel_rfl) (by kernel_rfl) Tryz.underlying3 (by kernel_rfl) (by kernel_rfl) Tryz.underlying24 (by kernel_rfl) Tryz.underlying45 (by kernel_rfl) (by kernel_rfl) (by kernel_rfl) rfl Tryz.underlying43 Tryz.underlying85 (by kernel_rfl) (by kernel_rfl) (by kernel_rfl) rfl Tryz.underlying9 Tryz.underlying4 Tryz.underlying28 (by kernel_rfl) (by kernel_rfl) Tryz.underlying25 (by kernel_rfl) Tryz.underlying26 (by kernel_rfl) Tryz.underlying29 (by kernel_rfl) Tryz.underlying51 (by kernel_rfl) (by kernel_rfl) (by kernel_rfl) rfl Tryz.underlying49 Tryz.underlying89 (by kernel_rfl) (by kernel_rfl) (by kernel_rfl) rfl Tryz.underlying87 Tryz.underlying152 (by kernel_rfl) (by kernel_rfl) (by kernel_rfl) rfl hf0 wt0
  obtain rfl : cs0 = #[.int .i64 c0a, .int .i64 c0b, .int .i64 c0c, .int .i64 c0d, .slice A0 len0 cap0, .int .i64 m0, .slice B0 nb0 cb0, .slice H0 nh0 ch0, .slice V0 nv0 cv0] := by
    have : cs0.toList = _ := ht0
    rw [← Array.toArray_toList (xs := cs0), this]
  clear hA0 hval0 hsz0
  refine (lawchecks_any ⟨c0a, c0b, c0c, c0d⟩ rs0 A0 len0 cap0 m0 B0 nb0 cb0 by0 H0 nh0 ch0 hh0 V0 nv0 cv0 es0 W hrs0 hby0 hhd0 hes0 hbn0 hrc0 hnl0 (by omega) (by omega) (by omega) (fun h hm => by have := hhv0 h hm; omega) (by omega)).mono fun e W' ⟨he, bel⟩ => ?_
  subst he
  exact ⟨_, rfl, _, _, _, [], _, [], hW', trodAll_mk1 (shut_bool Tryz.underlying4 _), (trodAll_cons_mk (Below.trod laidOut (by kernel_rfl) (of_decide_eq_true (by kernel_rfl)) k0 bel lt0) trodAll_mk0), rfl, bel.frame _, fun h => by cases h⟩
theorem over : Rows.traceChecksRow.holds Tryz.pinned (OpenSpec.ofChange Rows.traceChecksSpec) :=
  OpenClaim.holds_of_wide 3 Tryz.f3 rfl rfl rfl rfl rfl rfl rfl ⟨rfl, rfl, rfl, rfl, rfl⟩ rfl rfl rfl rfl rfl (by kernel_rfl) Tryz.func3 (by kernel_rfl)
    (of_decide_eq_true (by kernel_rfl)) (by unfold Func.isWrapper; first | (rw [if_pos (by decide +kernel)]; kernel_rfl) | (rw [if_neg (by decide +kernel)]; exact ⟨rfl, rfl⟩))
    (fun os started H enc _ => lifted os started H enc)
theorem proved : Rows.TraceChecksSaid := over
end traceChecks

end Go.Proofs.YtcjmppjppmiggaaGreat

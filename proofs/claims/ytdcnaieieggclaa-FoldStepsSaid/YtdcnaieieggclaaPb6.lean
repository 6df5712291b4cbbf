/- FoldSteps: of any transactions and any question, one more transaction changes exactly its own keys, and scans cut the store where they should. -/
import Derived.Test.YtdcnaieieggclaaFs
import Derived.Test.YtdcnaieieggclaaMD
namespace Go.Proofs.Ytdcnaieieggclaa
open Go.RowKit
set_option linter.unusedVariables false
set_option linter.unusedSimpArgs false

open Go.ChangeShapes Go.WideShapes Go.ChangeAt Go.Deep Go.Joins
namespace foldSteps
set_option maxRecDepth 100000 in
theorem lifted (os : Os) (started : os.Started) (H : Type) (enc : TypeId × Value → H) :
    ReturnsInHanded {} Try.checked os 7 .any (Rows.foldStepsSpec.pre6 enc Try.prog Try.f7 Rows.foldStepsRow.domain false) (Rows.foldStepsSpec.post enc Try.prog Try.f7 false true false false) := by
  refine returnsInHanded_of_change_sized (C := Try.checked) own started (by kernel_rfl) Try.func7
    (ChangeSpec.witness6 (enc := enc) (C := Try.checked) false ⟨#[], #[.slice none 0 0, .agg #[.int .i64 0, .int .i64 0, .string ⟨#[]⟩, .string ⟨#[]⟩]], []⟩ 8 (by kernel_rfl) (by kernel_rfl) (by kernel_rfl) (by kernel_rfl)) ?_
  intro W base args ds gs before hval0 hW hcnd hsz0 _
  have hsz : (DataW.weightsEach Try.prog (Try.f7.params.toList ++ Rows.foldStepsSpec.plain.varTypes Try.prog) (ds ++ gs)).all (· ≤ reachBytes) = true := hsz0
  have hval : ∀ (j : Nat) t v, Try.f7.params[j]? = some t → args[j]? = some v → Value.okWide Try.prog W .any base t v := hval0
  have hW' := hW
  obtain ⟨p, q, hA0, hV, rfl, hfz, hnd⟩ := hW
  have hA : DataW.TrodAll enc Try.prog W 0 (fun _ => true) true Try.f7.params.toList args.toList ds p := hA0
  rw [Try.params7] at hA hval hsz
  obtain ⟨v0, vs0, d0, ds0, p0, q0, hargs, rfl, rfl, h0, r0⟩ := trodAll_cons hA
  obtain ⟨v1, vs1, d1, ds1, p1, q1, rfl, rfl, rfl, h1, r1⟩ := trodAll_cons r0
  obtain ⟨rfl, rfl, rfl⟩ := trodAll_nil r1
  obtain rfl : args = #[v0, v1] := by cases args; simp_all
  obtain ⟨rfl, rfl⟩ := trodVars_none hV
  have k0 := h0
  have lt0 : ∀ x ∈ p0, x.block < W.heap.size := by obtain ⟨m, hm⟩ := k0; exact DataW.trod_lt m _ _ _ hm
  have k1 := h1
  have lt1 : ∀ x ∈ p1, x.block < W.heap.size := by obtain ⟨m, hm⟩ := k1; exact DataW.trod_lt m _ _ _ hm
  obtain ⟨A0, len0, cap0, rfl⟩ := okWide_slice Try.underlying22 (hval 0 22 v0 rfl rfl)
  have wt0 := (wt_arg hsz (j := 0) rfl rfl)
  obtain ⟨fu0, hf0⟩ := h0
  obtain ⟨rs0, hrs0, hlc0, hl0, hwf0⟩ := open_txs Try.underlying22 Try.underlying37 (by kernel_rfl) (by kernel_rfl) (by kernel_rfl) rfl Try.underlying3 Try.underlying35 Try.underlying39 (by kernel_rfl) (by kernel_rfl) (by kernel_rfl) rfl Try.underlying9 Try.underlying4 hf0 wt0
  obtain ⟨a1a, a1b, a1c, a1d, y1a, y1b, y1c, y1d, m1, rfl, hd1, -, t1a, t1b, t1c, t1d⟩ := open_agg4 Try.underlying49 (by kernel_rfl) (by kernel_rfl) (hval 1 49 v1 rfl rfl) h1
  have wt1 := (wt_arg hsz (j := 1) rfl rfl)
  rw [hd1] at wt1
  obtain ⟨c1a, e1a, -, -⟩ := DataW.trod_int Try.underlying3 t1a
  obtain ⟨c1b, e1b, -, -⟩ := DataW.trod_int Try.underlying3 t1b
  obtain ⟨c1c, e1c, z1c, -⟩ := DataW.trod_string Try.underlying9 t1c
  obtain ⟨c1d, e1d, z1d, -⟩ := DataW.trod_string Try.underlying9 t1d
  have hs1c := wt_string (wt_field Try.underlying49 wt1 (j := 2) rfl (by rw [z1c]; rfl))
  have hs1d := wt_string (wt_field Try.underlying49 wt1 (j := 3) rfl (by rw [z1d]; rfl))
  simp only [List.cons.injEq, and_true] at e1a e1b e1c e1d
  subst e1a e1b e1c e1d
  clear hA0 hval0 hsz0
  refine (lawsteps_any A0 len0 cap0 rs0 c1a c1b c1c c1d W hrs0 hl0 hlc0 (fun r hr => (hwf0 r hr).2) hs1c hs1d).mono fun e W' ⟨he, bel⟩ => ?_
  subst he
  exact ⟨_, rfl, _, _, _, [], _, [], hW', trodAll_mk1 (shut_bool Try.underlying4 _), (trodAll_cons_mk (Below.trod laidOut (by kernel_rfl) (of_decide_eq_true (by kernel_rfl)) k0 bel lt0) (trodAll_cons_mk (Below.trod laidOut (by kernel_rfl) (of_decide_eq_true (by kernel_rfl)) k1 bel lt1) trodAll_mk0)), rfl, bel.frame _, fun h => by cases h⟩
theorem over : Rows.foldStepsRow.holds Try.pinned (OpenSpec.ofChange Rows.foldStepsSpec) :=
  OpenClaim.holds_of_wide 7 Try.f7 rfl rfl rfl rfl rfl rfl rfl ⟨rfl, rfl, rfl, rfl, rfl⟩ rfl rfl rfl rfl rfl (by kernel_rfl) Try.func7 (by kernel_rfl)
    (of_decide_eq_true (by kernel_rfl)) (by unfold Func.isWrapper; first | (rw [if_pos (by decide +kernel)]; kernel_rfl) | (rw [if_neg (by decide +kernel)]; exact ⟨rfl, rfl⟩))
    (fun os started H enc _ => lifted os started H enc)
theorem proved : Rows.FoldStepsSaid := over
end foldSteps

end Go.Proofs.Ytdcnaieieggclaa

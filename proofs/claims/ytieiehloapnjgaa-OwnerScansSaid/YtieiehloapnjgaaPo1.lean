/- OwnerScans: for every list of keys with versions, every stretch and every mark: what an owner's scan answers is what its gets say, key by key. No condition. -/
import Derived.Test.YtieiehloapnjgaaOl1
import Derived.Test.YtieiehloapnjgaaOP
namespace Go.Proofs.Ytieiehloapnjgaa
open Go.RowKit
set_option linter.unusedVariables false
set_option linter.unusedSimpArgs false

open Go.ChangeShapes Go.WideShapes Go.ChangeAt Go.Deep Go.Joins
namespace ownerScans
set_option maxRecDepth 100000 in
theorem lifted (os : Os) (started : os.Started) (H : Type) (enc : TypeId × Value → H) :
    ReturnsInHanded {} Try.checked os 3 .any (Rows.ownerScansSpec.pre6 enc Try.prog Try.f3 Rows.ownerScansRow.domain false) (Rows.ownerScansSpec.post enc Try.prog Try.f3 false true false false) := by
  refine returnsInHanded_of_change_sized (C := Try.checked) own started (by kernel_rfl) Try.func3
    (ChangeSpec.witness6 (enc := enc) (C := Try.checked) false ⟨#[], #[.agg #[.slice none 0 0, .string ⟨#[]⟩, .string ⟨#[]⟩, .int .i64 0]], []⟩ 8 (by kernel_rfl) (by kernel_rfl) (by kernel_rfl) (by kernel_rfl)) ?_
  intro W base args ds gs before hval0 hW hcnd hsz0 _
  have hsz : (DataW.weightsEach Try.prog (Try.f3.params.toList ++ Rows.ownerScansSpec.plain.varTypes Try.prog) (ds ++ gs)).all (· ≤ reachBytes) = true := hsz0
  have hval : ∀ (j : Nat) t v, Try.f3.params[j]? = some t → args[j]? = some v → Value.okWide Try.prog W .any base t v := hval0
  have hW' := hW
  obtain ⟨p, q, hA0, hV, rfl, hfz, hnd⟩ := hW
  have hA : DataW.TrodAll enc Try.prog W 0 (fun _ => true) true Try.f3.params.toList args.toList ds p := hA0
  rw [Try.params3] at hA hval hsz
  obtain ⟨v0, vs0, d0, ds0, p0, q0, hargs, rfl, rfl, h0, r0⟩ := trodAll_cons hA
  obtain ⟨rfl, rfl, rfl⟩ := trodAll_nil r0
  obtain rfl : args = #[v0] := by cases args; simp_all
  obtain ⟨rfl, rfl⟩ := trodVars_none hV
  have k0 := h0
  have lt0 : ∀ x ∈ p0, x.block < W.heap.size := by obtain ⟨m, hm⟩ := k0; exact DataW.trod_lt m _ _ _ hm
  obtain ⟨a0a, a0b, a0c, a0d, y0a, y0b, y0c, y0d, m0, rfl, hd0, -, t0a, t0b, t0c, t0d⟩ := open_agg4 Try.underlying24 (by kernel_rfl) (by kernel_rfl) (hval 0 24 v0 rfl rfl) h0
  have wt0 := (wt_arg hsz (j := 0) rfl rfl)
  rw [hd0] at wt0
  obtain ⟨A0, len0, cap0, ea0⟩ := shape_slice Try.underlying22 t0a
  subst ea0
  obtain ⟨hs0, hhs0, hlc0, hl0, hlv0, -⟩ := open_heldsl Try.underlying22 Try.underlying45 (by kernel_rfl) (by kernel_rfl) (by kernel_rfl) rfl Try.underlying9 Try.underlying43 Try.underlying81 (by kernel_rfl) (by kernel_rfl) (by kernel_rfl) rfl Try.underlying3 Try.underlying4 t0a (wt_field Try.underlying24 wt0 (j := 0) rfl rfl)
  obtain ⟨c0b, e0b, -, -⟩ := DataW.trod_string Try.underlying9 t0b
  obtain ⟨c0c, e0c, -, -⟩ := DataW.trod_string Try.underlying9 t0c
  obtain ⟨c0d, e0d, -, -⟩ := DataW.trod_int Try.underlying3 t0d
  simp only [List.cons.injEq, and_true] at e0b e0c e0d
  subst e0b e0c e0d
  clear hA0 hval0 hsz0
  refine (lawscans_any A0 len0 cap0 hs0 c0b c0c c0d W hhs0 (by omega) hlv0).mono fun e W' ⟨he, bel⟩ => ?_
  subst he
  exact ⟨_, rfl, _, _, _, [], _, [], hW', trodAll_mk1 (shut_bool Try.underlying4 _), (trodAll_cons_mk (Below.trod laidOut (by kernel_rfl) (of_decide_eq_true (by kernel_rfl)) k0 bel lt0) trodAll_mk0), rfl, bel.frame _, fun h => by cases h⟩
theorem over : Rows.ownerScansRow.holds Try.pinned (OpenSpec.ofChange Rows.ownerScansSpec) :=
  OpenClaim.holds_of_wide 3 Try.f3 rfl rfl rfl rfl rfl rfl rfl ⟨rfl, rfl, rfl, rfl, rfl⟩ rfl rfl rfl rfl rfl (by kernel_rfl) Try.func3 (by kernel_rfl)
    (of_decide_eq_true (by kernel_rfl)) (by unfold Func.isWrapper; first | (rw [if_pos (by decide +kernel)]; kernel_rfl) | (rw [if_neg (by decide +kernel)]; exact ⟨rfl, rfl⟩))
    (fun os started H enc _ => lifted os started H enc)
theorem proved : Rows.OwnerScansSaid := over
end ownerScans

end Go.Proofs.Ytieiehloapnjgaa

/- OwnerPlays: for every way to make an owner and all requests: every answer, and how it stands behind each, are as documented. No condition. -/
import Derived.Test.YtfpcgfgofemhoaaGreatOs4
import Derived.Test.YtfpcgfgofemhoaaGreatOP
import Derived.Test.YtfpcgfgofemhoaaGreatOpenQ
namespace Go.Proofs.YtfpcgfgofemhoaaGreat
open Go.RowKit
set_option linter.unusedVariables false
set_option linter.unusedSimpArgs false

open Go.ChangeShapes Go.WideShapes Go.ChangeAt Go.Deep Go.Joins
namespace ownerPlays
set_option maxRecDepth 100000 in
theorem lifted (os : Os) (started : os.Started) (H : Type) (enc : TypeId × Value → H) :
    ReturnsInHanded {} Tryz.checked os 3 .any (Rows.ownerPlaysSpec.pre6 enc Tryz.prog Tryz.f3 Rows.ownerPlaysRow.domain false) (Rows.ownerPlaysSpec.post enc Tryz.prog Tryz.f3 false true false false) := by
  refine returnsInHanded_of_change_sized (C := Tryz.checked) own started (by kernel_rfl) Tryz.func3
    (ChangeSpec.witness6 (enc := enc) (C := Tryz.checked) false ⟨#[], #[.agg #[.int .i64 0, .int .i64 0, .slice none 0 0], .slice none 0 0], []⟩ 8 (by kernel_rfl) (by kernel_rfl) (by kernel_rfl) (by kernel_rfl)) ?_
  intro W base args ds gs before hval0 hW hcnd hsz0 _
  have hsz : (DataW.weightsEach Tryz.prog (Tryz.f3.params.toList ++ Rows.ownerPlaysSpec.plain.varTypes Tryz.prog) (ds ++ gs)).all (· ≤ reachBytes) = true := hsz0
  have hval : ∀ (j : Nat) t v, Tryz.f3.params[j]? = some t → args[j]? = some v → Value.okWide Tryz.prog W .any base t v := hval0
  have hW' := hW
  obtain ⟨p, q, hA0, hV, rfl, hfz, hnd⟩ := hW
  have hA : DataW.TrodAll enc Tryz.prog W 0 (fun _ => true) true Tryz.f3.params.toList args.toList ds p := hA0
  rw [Tryz.params3] at hA hval hsz
  obtain ⟨v0, vs0, d0, ds0, p0, q0, hargs, rfl, rfl, h0, r0⟩ := trodAll_cons hA
  obtain ⟨v1, vs1, d1, ds1, p1, q1, rfl, rfl, rfl, h1, r1⟩ := trodAll_cons r0
  obtain ⟨rfl, rfl, rfl⟩ := trodAll_nil r1
  obtain rfl : args = #[v0, v1] := by cases args; simp_all
  obtain ⟨rfl, rfl⟩ := trodVars_none hV
  have k0 := h0
  have lt0 : ∀ x ∈ p0, x.block < W.heap.size := by obtain ⟨m, hm⟩ := k0; exact DataW.trod_lt m _ _ _ hm
  have k1 := h1
  have lt1 : ∀ x ∈ p1, x.block < W.heap.size := by obtain ⟨m, hm⟩ := k1; exact DataW.trod_lt m _ _ _ hm
  obtain ⟨a0a, a0b, a0c, y0a, y0b, y0c, m0, rfl, hd0, -, t0a, t0b, t0c⟩ := open_agg3 Tryz.underlying24 (by kernel_rfl) (by kernel_rfl) (hval 0 24 v0 rfl rfl) h0
  have wt0 := (wt_arg hsz (j := 0) rfl rfl)
  rw [hd0] at wt0
  obtain ⟨A0, len0, cap0, ea0⟩ := shape_slice Tryz.underlying22 t0c
  subst ea0
  obtain ⟨hs0, hhs0, hlc0, hl0, hlv0, -⟩ := open_heldsl2 Tryz.underlying22 Tryz.underlying70 (by kernel_rfl) (by kernel_rfl) (by kernel_rfl) rfl Tryz.underlying9 Tryz.underlying68 Tryz.underlying104 (by kernel_rfl) (by kernel_rfl) (by kernel_rfl) rfl Tryz.underlying3 Tryz.underlying4 t0c (wt_field Tryz.underlying24 wt0 (j := 2) rfl rfl)
  obtain ⟨c0a, e0a, -, -⟩ := DataW.trod_int Tryz.underlying3 t0a
  obtain ⟨c0b, e0b, -, -⟩ := DataW.trod_int Tryz.underlying3 t0b
  simp only [List.cons.injEq, and_true] at e0a e0b
  subst e0a e0b
  obtain ⟨A1, len1, cap1, rfl⟩ := okWide_slice Tryz.underlying25 (hval 1 25 v1 rfl rfl)
  have wt1 := (wt_arg hsz (j := 1) rfl rfl)
  obtain ⟨fu1, hf1⟩ := h1
  obtain ⟨as1, has1, hlc1, hl1⟩ := open_asks Tryz.underlying25 Tryz.underlying38 (by kernel_rfl) (by kernel_rfl) (by kernel_rfl) Tryz.underlying36 (by kernel_rfl) (by kernel_rfl) Tryz.underlying31 (by kernel_rfl) Tryz.underlying3 (by kernel_rfl) Tryz.underlying33 (by kernel_rfl) (by kernel_rfl) Tryz.underlying9 Tryz.underlying4 (by kernel_rfl) (by kernel_rfl) Tryz.underlying34 (by kernel_rfl) (by kernel_rfl) hf1 wt1
  clear hA0 hval0 hsz0
  refine (lawplays_any c0a c0b A0 len0 cap0 hs0 A1 len1 cap1 as1 W hhs0 hl0 hlv0 has1 (by omega)).mono fun e W' ⟨he, bel⟩ => ?_
  subst he
  exact ⟨_, rfl, _, _, _, [], _, [], hW', trodAll_mk1 (shut_bool Tryz.underlying4 _), (trodAll_cons_mk (Below.trod laidOut (by kernel_rfl) (of_decide_eq_true (by kernel_rfl)) k0 bel lt0) (trodAll_cons_mk (Below.trod laidOut (by kernel_rfl) (of_decide_eq_true (by kernel_rfl)) k1 bel lt1) trodAll_mk0)), rfl, bel.frame _, fun h => by cases h⟩
theorem over : Rows.ownerPlaysRow.holds Tryz.pinned (OpenSpec.ofChange Rows.ownerPlaysSpec) :=
  OpenClaim.holds_of_wide 3 Tryz.f3 rfl rfl rfl rfl rfl rfl rfl ⟨rfl, rfl, rfl, rfl, rfl⟩ rfl rfl rfl rfl rfl (by kernel_rfl) Tryz.func3 (by kernel_rfl)
    (of_decide_eq_true (by kernel_rfl)) (by unfold Func.isWrapper; first | (rw [if_pos (by decide +kernel)]; kernel_rfl) | (rw [if_neg (by decide +kernel)]; exact ⟨rfl, rfl⟩))
    (fun os started H enc _ => lifted os started H enc)
theorem proved : Rows.OwnerPlaysSaid := over
end ownerPlays

end Go.Proofs.YtfpcgfgofemhoaaGreat

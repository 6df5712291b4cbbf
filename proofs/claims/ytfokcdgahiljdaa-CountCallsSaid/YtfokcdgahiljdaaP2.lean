/- CountCalls: for every configuration and every call, may they be or not: the program's count of the steps of a call is the document's. No condition. -/
import Derived.Test.YtfokcdgahiljdaaCall
import Derived.Test.YtfokcdgahiljdaaP1
namespace Go.Proofs.Ytfokcdgahiljdaa
open Go.RowKit
set_option linter.unusedVariables false
set_option linter.unusedSimpArgs false

open Go.ChangeShapes Go.WideShapes Go.ChangeAt Go.Deep Go.Joins
namespace P2
theorem cells_cfg : Try.prog.cellsOf 31 = 4 := by kernel_rfl
theorem cells_call : Try.prog.cellsOf 41 = 3 := by kernel_rfl

set_option maxRecDepth 100000 in
theorem lifted (os : Os) (started : os.Started) (H : Type) (enc : TypeId × Value → H) :
    ReturnsInHanded {} Try.checked os 5 .any (Rows.countCallsSpec.pre6 enc Try.prog Try.f5 Rows.countCallsRow.domain false) (Rows.countCallsSpec.post enc Try.prog Try.f5 false true false false) := by
  refine returnsInHanded_of_change (C := Try.checked) own started (by kernel_rfl) Try.func5
    (ChangeSpec.witness6 (enc := enc) (C := Try.checked) false ⟨#[], #[.agg #[.int .i64 0, .int .i64 0, .int .i64 0, .int .i64 0], .agg #[.int .u8 0, .string ⟨#[]⟩, .string ⟨#[]⟩]], []⟩ 8 (by kernel_rfl) (by kernel_rfl) (by kernel_rfl) (by kernel_rfl)) ?_
  intro W base args ds gs before hval0 hW hcnd _
  have hval : ∀ (j : Nat) t v, Try.f5.params[j]? = some t → args[j]? = some v → Value.okWide Try.prog W .any base t v := hval0
  have hW' := hW
  obtain ⟨p, q, hA0, hV, rfl, hfz, hnd⟩ := hW
  have hA : DataW.TrodAll enc Try.prog W 0 (fun _ => true) true Try.f5.params.toList args.toList ds p := hA0
  rw [Try.params5] at hA hval
  obtain ⟨v0, vs0, d0, ds0, p0, q0, hargs, rfl, rfl, h0, r0⟩ := trodAll_cons hA
  obtain ⟨v1, vs1, d1, ds1, p1, q1, rfl, rfl, rfl, h1, r1⟩ := trodAll_cons r0
  obtain ⟨rfl, rfl, rfl⟩ := trodAll_nil r1
  obtain rfl : args = #[v0, v1] := by cases args; simp_all
  obtain ⟨rfl, rfl⟩ := trodVars_none hV
  have k0 := h0
  have k1 := h1
  have lt0 : ∀ x ∈ p0, x.block < W.heap.size := by obtain ⟨m, hm⟩ := k0; exact DataW.trod_lt m _ _ _ hm
  have lt1 : ∀ x ∈ p1, x.block < W.heap.size := by obtain ⟨m, hm⟩ := k1; exact DataW.trod_lt m _ _ _ hm
  obtain ⟨a, b, c, d, y0, y1, y2, y3, m, rfl, hd0, hp0, t0, t1, t2, t3⟩ := open_agg4 Try.underlying31 (by kernel_rfl) cells_cfg (hval 0 31 v0 rfl rfl) h0
  obtain ⟨n0, e0, -, -⟩ := DataW.trod_int Try.underlying3 t0
  obtain ⟨n1, e1, -, -⟩ := DataW.trod_int Try.underlying3 t1
  obtain ⟨n2, e2, -, -⟩ := DataW.trod_int Try.underlying3 t2
  obtain ⟨n3, e3, -, -⟩ := DataW.trod_int Try.underlying3 t3
  simp only [List.cons.injEq, and_true] at e0 e1 e2 e3
  subst e0 e1 e2 e3
  obtain ⟨a', b', c', z0, z1, z2, m', rfl, hd1, hp1, s0, s1, s2⟩ := open_agg3 Try.underlying41 (by kernel_rfl) cells_call (hval 1 41 v1 rfl rfl) h1
  obtain ⟨kd, f0, -, -⟩ := DataW.trod_int Try.underlying39 s0
  obtain ⟨ky, f1, -, -⟩ := DataW.trod_string Try.underlying9 s1
  obtain ⟨en, f2, -, -⟩ := DataW.trod_string Try.underlying9 s2
  simp only [List.cons.injEq, and_true] at f0 f1 f2
  subst f0 f1 f2
  clear hA0 hval0
  refine (lawcall_any ⟨n0, n1, n2, n3⟩ ⟨kd, ky, en⟩ W).mono fun e W' ⟨he, bel⟩ => ?_
  subst he
  exact ⟨_, rfl, _, _, _, [], _, [], hW', trodAll_mk1 (shut_bool Try.underlying4 _), (trodAll_cons_mk (Below.trod laidOut (by kernel_rfl) (of_decide_eq_true (by kernel_rfl)) k0 bel lt0) (trodAll_cons_mk (Below.trod laidOut (by kernel_rfl) (of_decide_eq_true (by kernel_rfl)) k1 bel lt1) trodAll_mk0)), rfl, bel.frame _, fun h => by cases h⟩

theorem over : Rows.countCallsRow.holds Try.pinned (OpenSpec.ofChange Rows.countCallsSpec) :=
  OpenClaim.holds_of_wide 5 Try.f5 rfl rfl rfl rfl rfl rfl rfl ⟨rfl, rfl, rfl, rfl, rfl⟩ rfl rfl rfl rfl rfl (by kernel_rfl) Try.func5 (by kernel_rfl)
    (of_decide_eq_true (by kernel_rfl)) (by unfold Func.isWrapper; first | (rw [if_pos (by decide +kernel)]; kernel_rfl) | (rw [if_neg (by decide +kernel)]; exact ⟨rfl, rfl⟩))
    (fun os started H enc _ => lifted os started H enc)

theorem proved : Rows.CountCallsSaid := over
end P2
end Go.Proofs.Ytfokcdgahiljdaa

/- TraceStops: for every configuration, log, beginning and events, of the size that the statement names: the place that is told is the first; what stands ahead of it passes, and with it does not; what stands behind changes nothing. -/
import Derived.Test.YtbiamjgkedmceaaTl3
import Derived.Test.YtbiamjgkedmceaaOpT
import Derived.Test.YtbiamjgkedmceaaRows
import Derived.OpenShut
import Derived.ShutString
import Derived.ChangeOld
import Derived.ChangeShapes
import Derived.Deep.DeepHandedRow
import Derived.JoinedCond
namespace Go.Proofs.Ytbiamjgkedmceaa
open Go.RowKit
set_option linter.unusedVariables false
set_option linter.unusedSimpArgs false

open Go.ChangeShapes Go.WideShapes Go.ChangeAt Go.Deep Go.Joins
theorem bulk_part {H : Type} {d : DataW H} {l : List (DataW H)} (h : d ∈ l) : Rows.uptoBulk d ≤ Rows.uptoBulkAll l := by
  induction l with
  | nil => cases h
  | cons x r ih =>
    simp only [Rows.uptoBulkAll]
    cases List.mem_cons.1 h with
    | inl e => subst e; omega
    | inr e => have := ih e; omega
theorem bulk_one {H : Type} (d : DataW H) : 1 ≤ Rows.uptoBulk d := by
  cases d with
  | lit l => cases l <;> simp [Rows.uptoBulk]
  | nil => simp [Rows.uptoBulk]
  | ptr d => simp [Rows.uptoBulk]
  | slice elems spare => simp [Rows.uptoBulk]
  | agg parts => simp [Rows.uptoBulk]
  | iface t d => simp [Rows.uptoBulk]
  | map entries => simp [Rows.uptoBulk]
  | held h => simp [Rows.uptoBulk]
theorem bulk_length {H : Type} (l : List (DataW H)) : l.length ≤ Rows.uptoBulkAll l := by
  induction l with
  | nil => simp [Rows.uptoBulkAll]
  | cons x r ih => have := bulk_one x; simp only [Rows.uptoBulkAll, List.length_cons]; omega
theorem bulk_bound {H : Type} {l : List (DataW H)} (hk : Rows.uptoSmall H l = true) : Rows.uptoBulkAll l ≤ 1048576 := of_decide_eq_true hk
theorem bulk_slice {H : Type} {enc : TypeId × Value → H} {P : Program} {w : World} {base : Nat} {spare : Nat → Bool} {held : Bool} {fuel : Nat} {t e : TypeId} {A : Option Addr} {len cap : Nat} {x : DataW H × List MemPlace} (ht : P.underlying t = some (.slice e))
    (h : DataW.trod enc P w base spare held fuel t [.slice A len cap] = some x) : len ≤ Rows.uptoBulk x.1 := by
  rcases DataW.trod_slice ht h with ⟨hc, rfl⟩ | ⟨a, len', cap', elems, rest, n, -, hc, rfl, -, -, -, hl, -⟩
  · simp at hc; omega
  · simp at hc
    obtain ⟨-, rfl, -⟩ := hc
    have := bulk_length (elems.map (·.1))
    simp only [List.length_map] at this
    simp only [Rows.uptoBulk]
    omega
theorem nil_slice {H : Type} {enc : TypeId × Value → H} {P : Program} {w : World} {base : Nat} {spare : Nat → Bool} {held : Bool} {fuel : Nat} {t e : TypeId} {A : Option Addr} {len cap : Nat} {x : DataW H × List MemPlace} (ht : P.underlying t = some (.slice e))
    (h : DataW.trod enc P w base spare held fuel t [.slice A len cap] = some x) : A = none → cap = 0 := by
  rcases DataW.trod_slice ht h with ⟨hc, rfl⟩ | ⟨a, len', cap', elems, rest, n, -, hc, rfl, -, -, -, hl, -⟩
  · simp at hc; exact fun _ => hc.2.2
  · simp at hc
    obtain ⟨rfl, -, -⟩ := hc
    exact fun h => by cases h
theorem bulk_field {H : Type} {enc : TypeId × Value → H} {P : Program} {w : World} {base : Nat} {spare : Nat → Bool} {held : Bool} {fuel : Nat} {t tv ev : TypeId} {fs : Array Field} {cs : List Value} {x : DataW H × List MemPlace} (hr : P.underlying t = some (.struct fs))
    (h : DataW.trod enc P w base spare held fuel t cs = some x) (j o : Nat) (hj : (fs.toList.map (fun f => (f.type, f.offset)))[j]? = some (tv, o)) (hv : P.underlying tv = some (.slice ev)) (hc : P.cellsOf tv = 1) {A : Option Addr} {len cap : Nat} (hs : (cs.drop o).take 1 = [.slice A len cap]) : len ≤ Rows.uptoBulk x.1 := by
  obtain ⟨ys, n, -, hx, hcl, hyl, hf⟩ := DataW.trod_struct hr h
  obtain ⟨f, e, g, o'⟩ := fld_at rfl j hj
  subst g o'
  have hjl : j < ys.length := by rw [hyl]; exact (Array.getElem?_eq_some_iff.1 e).1
  have hy : ys[j]? = some ys[j] := List.getElem?_eq_getElem hjl
  have h1 := (hf j f e).trans hy
  rw [hc, hs] at h1
  have h2 := bulk_slice hv h1
  rw [hx]
  have h3 := bulk_part (d := ys[j].1) (l := ys.map (·.1)) (List.mem_map.2 ⟨_, List.mem_of_getElem? hy, rfl⟩)
  simp only [Rows.uptoBulk]
  omega
namespace traceStops
open Go
theorem laid_met (os : Os) : laidMet Try.prog Rows.traceStopsUptoRow.laid ((World.doorLaid Try.prog 24 os).forCall (fun _ _ => 0) ⟨#[], #[.agg #[.int .i64 0, .int .i64 0, .int .i64 0, .int .i64 0, .slice none 0 0, .int .i64 0, .slice none 0 0, .slice none 0 0, .slice none 0 0], .slice none 0 0], []⟩).memory := laidMet_of_run' 8 (by kernel_rfl) (by kernel_rfl)
theorem reads (os : Os) {H : Type} (enc : TypeId × Value → H) : ∃ places, DataW.whole enc Try.prog ((World.doorLaid Try.prog 24 os).forCall (fun _ _ => 0) ⟨#[], #[.agg #[.int .i64 0, .int .i64 0, .int .i64 0, .int .i64 0, .slice none 0 0, .int .i64 0, .slice none 0 0, .slice none 0 0, .slice none 0 0], .slice none 0 0], []⟩).memory Try.f4.params.toList Rows.traceStopsSpec.vars false #[.agg #[.int .i64 0, .int .i64 0, .int .i64 0, .int .i64 0, .slice none 0 0, .int .i64 0, .slice none 0 0, .slice none 0 0, .slice none 0 0], .slice none 0 0].toList 8 = some ([.agg [.agg [.lit (.int .i64 0), .lit (.int .i64 0), .lit (.int .i64 0), .lit (.int .i64 0)], .nil, .agg [.lit (.int .i64 0), .nil, .nil], .nil], .nil], [], places) := ⟨[], by kernel_rfl⟩
set_option maxRecDepth 100000 in
theorem lifted (os : Os) (started : os.Started) (H : Type) (enc : TypeId × Value → H) (F : Stop.Interp) :
    ReturnsInHanded {} Try.checked os 4 .any ((Rows.OpenSpec.upto Rows.traceStopsSpec).preRow enc Try.prog Try.f4 Rows.traceStopsUptoRow.domain false Rows.traceStopsUptoRow.laid) (((Rows.OpenSpec.upto Rows.traceStopsSpec).at F).post enc Try.prog Try.f4 false true false false) := by
  obtain ⟨places, hx⟩ := reads os enc
  refine returnsInHanded_of_row (C := Try.checked) (s := Rows.OpenSpec.upto Rows.traceStopsSpec) own started (by kernel_rfl) Try.func4
    (witness_row_at (enc := enc) (C := Try.checked) false (World.doorLaid Try.prog 24 os) #[.agg #[.int .i64 0, .int .i64 0, .int .i64 0, .int .i64 0, .slice none 0 0, .int .i64 0, .slice none 0 0, .slice none 0 0, .slice none 0 0], .slice none 0 0] rfl (by kernel_rfl) (by kernel_rfl) (by kernel_rfl)
      (OpenSpec.preRow_of_cond 8 hx (by kernel_rfl) (fun k hk => by cases hk; kernel_rfl) (by kernel_rfl) (laid_met os))) ?_
  intro W base args ds gs before hval0 hW hcnd hcond hsz0 hL _ _
  have hk := hcond _ rfl
  have hsz : (DataW.weightsEach Try.prog (Try.f4.params.toList ++ Rows.traceStopsSpec.plain.varTypes Try.prog) (ds ++ gs)).all (· ≤ reachBytes) = true := hsz0
  have hval : ∀ (j : Nat) t v, Try.f4.params[j]? = some t → args[j]? = some v → Value.okWide Try.prog W .any base t v := hval0
  have hW' := hW
  obtain ⟨p, q, hA0, hV, rfl, hfz, hnd⟩ := hW
  have hA : DataW.TrodAll enc Try.prog W 0 (fun _ => true) true Try.f4.params.toList args.toList ds p := hA0
  rw [Try.params4] at hA hval hsz
  obtain ⟨v0, vs0, d0, ds0, p0, q0, hargs, rfl, rfl, h0, r0⟩ := trodAll_cons hA
  obtain ⟨v1, vs1, d1, ds1, p1, q1, rfl, rfl, rfl, h1, r1⟩ := trodAll_cons r0
  obtain ⟨rfl, rfl, rfl⟩ := trodAll_nil r1
  obtain rfl : args = #[v0, v1] := by cases args; simp_all
  obtain ⟨rfl, rfl⟩ := trodVars_none hV
  have k0 := h0
  have lt0 : ∀ x ∈ p0, x.block < W.heap.size := by obtain ⟨m, hm⟩ := k0; exact DataW.trod_lt m _ _ _ hm
  have k1 := h1
  have lt1 : ∀ x ∈ p1, x.block < W.heap.size := by obtain ⟨m, hm⟩ := k1; exact DataW.trod_lt m _ _ _ hm
  obtain ⟨cs0, rfl, -⟩ := okWide_struct Try.underlying31 (hval 0 31 v0 rfl rfl)
  have wt0 := (wt_arg hsz (j := 0) rfl rfl)
  obtain ⟨fu0, hf0⟩ := h0
  obtain ⟨c0a, c0b, c0c, c0d, A0, len0, cap0, m0, B0, nb0, cb0, H0, nh0, ch0, V0, nv0, cv0, rs0, by0, es0, ht0, hrs0, hl0, hrc0, hby0, hbn0, hbl0, hes0, hvc0, hvl0, hcf0, hef0⟩ := open_told Try.underlying31 (by kernel_rfl) (by kernel_rfl) Try.underlying23 (by kernel_rfl) (by kernel_rfl) Try.underlying3 (by kernel_rfl) (by kernel_rfl) Try.underlying24 (by kernel_rfl) Try.underlying63 (by kernel_rfl) (by kernel_rfl) (by kernel_rfl) rfl Try.underlying61 Try.underlying60 (by kernel_rfl) (by kernel_rfl) (by kernel_rfl) rfl Try.underlying9 Try.underlying4 Try.underlying28 (by kernel_rfl) (by kernel_rfl) Try.underlying25 (by kernel_rfl) Try.underlying26 (by kernel_rfl) Try.underlying29 (by kernel_rfl) Try.underlying38 (by kernel_rfl) (by kernel_rfl) (by kernel_rfl) rfl Try.underlying36 hf0 wt0
  obtain rfl : cs0 = #[.int .i64 c0a, .int .i64 c0b, .int .i64 c0c, .int .i64 c0d, .slice A0 len0 cap0, .int .i64 m0, .slice B0 nb0 cb0, .slice H0 nh0 ch0, .slice V0 nv0 cv0] := by
    have : cs0.toList = _ := ht0
    rw [← Array.toArray_toList (xs := cs0), this]
  obtain ⟨A1, len1, cap1, rfl⟩ := okWide_slice Try.underlying29 (hval 1 29 v1 rfl rfl)
  have wt1 := (wt_arg hsz (j := 1) rfl rfl)
  obtain ⟨fu1, hf1⟩ := h1
  obtain ⟨es1, hes1, hlc1, hl1, hwf1⟩ := open_es Try.underlying29 Try.underlying38 (by kernel_rfl) (by kernel_rfl) (by kernel_rfl) rfl Try.underlying3 Try.underlying36 hf1 wt1
  have hbk := bulk_bound hk
  have hb0 : nv0 ≤ 1048576 := Nat.le_trans (bulk_field Try.underlying31 hf0 3 8 (by kernel_rfl) Try.underlying29 (by kernel_rfl) rfl) (Nat.le_trans (bulk_part (by simp)) hbk)
  have hb1 : len1 ≤ 1048576 := Nat.le_trans (bulk_slice Try.underlying29 hf1) (Nat.le_trans (bulk_part (by simp)) hbk)
  have hnil1 : A1 = none → cap1 = 0 := nil_slice Try.underlying29 hf1
  clear hA0 hval0 hsz0 hk
  refine (lawstops_any ⟨c0a, c0b, c0c, c0d⟩ rs0 A0 len0 cap0 m0 B0 nb0 cb0 by0 H0 nh0 ch0 V0 nv0 cv0 es0 A1 len1 cap1 es1 W hrs0 hby0 hes0 hes1 hbn0 hrc0 hb0 hvc0 hnil1 hb1 (by omega) (by omega)).mono fun e W' ⟨he, bel⟩ => ?_
  subst he
  exact ⟨_, rfl, _, _, _, [], _, [], hW', trodAll_mk1 (shut_bool Try.underlying4 _), (trodAll_cons_mk (Below.trod laidOut (by kernel_rfl) (of_decide_eq_true (by kernel_rfl)) k0 bel lt0) (trodAll_cons_mk (Below.trod laidOut (by kernel_rfl) (of_decide_eq_true (by kernel_rfl)) k1 bel lt1) trodAll_mk0)), rfl, bel.frame _, fun h => by cases h⟩
theorem said : Rows.TraceStopsUptoSaid :=
  OpenClaim.holds_of_cond 4 Try.f4 rfl rfl rfl rfl rfl rfl rfl ⟨rfl, rfl, rfl, rfl, rfl⟩ rfl rfl rfl rfl rfl (by kernel_rfl) Try.func4 (by kernel_rfl)
    (of_decide_eq_true (by kernel_rfl)) (by unfold Func.isWrapper; first | (rw [if_pos (by decide +kernel)]; kernel_rfl) | (rw [if_neg (by decide +kernel)]; exact ⟨rfl, rfl⟩))
    (fun os started H enc _ F => by rw [OpenClaim.pre_eq_preRow]; exact lifted os started H enc F)
theorem proved : Rows.TraceStopsUptoSaid := said
end traceStops

end Go.Proofs.Ytbiamjgkedmceaa

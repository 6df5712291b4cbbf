/- OwnerOwn: for every list of keys with versions and every request, of the size that the statement names: what an owner answers is new memory. The tied card of the bounded form. -/
import Derived.Test.YtafghiekpgjniaaGreatDoorOx2
import Derived.Test.YtafghiekpgjniaaGreatDoorOpenQ
import Derived.Test.YtafghiekpgjniaaGreatDoorTie
import Derived.Test.YtafghiekpgjniaaGreatDoorCards
import Derived.OpenShut
import Derived.ShutString
import Derived.ChangeOld
import Derived.Lib.LaidTab
import Derived.LaidMore
import Derived.Stop.LaidErr
import Derived.Stop.Joined
import Derived.SevenTiedAt
import Derived.MakeChecks
import Derived.Deep.DeepHandedRow
namespace Go.Proofs.YtafghiekpgjniaaGreatDoor
open Go.RowKit
set_option linter.unusedVariables false
set_option linter.unusedSimpArgs false

open Go.ChangeShapes Go.WideShapes Go.ChangeAt Go.Deep Go.Joins
theorem bulk_one {H : Type} (d : DataW H) : 1 ≤ Rows.uptoBulk d := by
  cases d with
  | lit l => cases l <;> simp [Rows.uptoBulk]
  | nil => simp [Rows.uptoBulk]
  | ptr d => simp [Rows.uptoBulk]
  | slice elems spare => simp [Rows.uptoBulk]
  | agg parts => simp [Rows.uptoBulk]
  | iface t d => simp [Rows.uptoBulk]
  | map entries => simp [Rows.uptoBulk]
  | held h => simp [Rows.uptoBulk]
theorem bulk_part {H : Type} {d : DataW H} {l : List (DataW H)} (h : d ∈ l) : Rows.uptoBulk d ≤ Rows.uptoBulkAll l := by
  induction l with
  | nil => cases h
  | cons x r ih =>
    simp only [Rows.uptoBulkAll]
    cases List.mem_cons.1 h with
    | inl e => subst e; omega
    | inr e => have := ih e; omega
theorem bulk_length {H : Type} (l : List (DataW H)) : l.length ≤ Rows.uptoBulkAll l := by
  induction l with
  | nil => simp [Rows.uptoBulkAll]
  | cons x r ih => have := bulk_one x; simp only [Rows.uptoBulkAll, List.length_cons]; omega
theorem bulk_bound {H : Type} {l : List (DataW H)} (hk : Rows.uptoSmall H l = true) : Rows.uptoBulkAll l ≤ 1048576 := of_decide_eq_true hk
theorem bulk_slice {H : Type} {enc : TypeId × Value → H} {P : Program} {w : World} {base : Nat} {spare : Nat → Bool} {held : Bool} {fuel : Nat} {t e : TypeId} {A : Option Addr} {len cap : Nat} {x : DataW H × List MemPlace} (ht : P.underlying t = some (.slice e))
    (h : DataW.trod enc P w base spare held fuel t [.slice A len cap] = some x) : len ≤ Rows.uptoBulk x.1 := by
  rcases DataW.trod_slice ht h with ⟨hc, rfl⟩ | ⟨a, len', cap', elems, rest, n, -, hc, rfl, -, -, -, hl, -⟩
  · simp at hc; omega
  · simp at hc
    obtain ⟨-, rfl, -⟩ := hc
    have := bulk_length (elems.map (·.1))
    simp only [List.length_map] at this
    simp only [Rows.uptoBulk]
    omega
namespace ownerOwn
open Go
noncomputable abbrev gT : Nat := (Tryz.prog.globalNamed "internal/strconv.uint64pow10").getD 0
theorem gTab : Tryz.prog.globalNamed "internal/strconv.uint64pow10" = some gT := by kernel_rfl
theorem gTabType : (Tryz.prog.globals[gT]?).map (·.type) = some 318 := by kernel_rfl
theorem table {W : World} (h : laidMetH Tryz.prog Rows.ownerOwnUptoRow.laid W) : TabB Tryz.prog W.heap.size W := by
  have h1 : laidMet Tryz.prog Rows.ownerOwnUptoRow.laid W := by rw [MakeChecks.laidMetH_plain _ _ _ (by kernel_rfl)] at h; exact h
  exact Lib.tabBelow_of_tabIs (Lib.tabIs_of_head (rest := []) gTab gTabType Tryz.underlying318 Tryz.underlying291 (by kernel_rfl) (by kernel_rfl) (show laidMet Tryz.prog [("internal/strconv.uint64pow10", Lib.tabData .u64 Lib.pow10Tab)] W from h1.tail.tail))
theorem laid_met (os : Os) : laidMet Tryz.prog Rows.ownerOwnUptoRow.laid ((World.doorLaid Tryz.prog 24 os).forCall (fun _ _ => 0) ⟨#[], #[.slice none 0 0, .agg #[.int .u8 0, .int .i64 0, .int .i64 0, .string ⟨#[]⟩, .string ⟨#[]⟩, .bool false, .string ⟨#[]⟩, .string ⟨#[]⟩, .slice none 0 0]], []⟩).memory := laidMet_of_run' 8 (by kernel_rfl) (by kernel_rfl)
theorem reads (os : Os) {H : Type} (enc : TypeId × Value → H) : ∃ places, DataW.whole enc Tryz.prog ((World.doorLaid Tryz.prog 24 os).forCall (fun _ _ => 0) ⟨#[], #[.slice none 0 0, .agg #[.int .u8 0, .int .i64 0, .int .i64 0, .string ⟨#[]⟩, .string ⟨#[]⟩, .bool false, .string ⟨#[]⟩, .string ⟨#[]⟩, .slice none 0 0]], []⟩).memory Tryz.f6.params.toList Rows.ownerOwnSpec.vars false #[.slice none 0 0, .agg #[.int .u8 0, .int .i64 0, .int .i64 0, .string ⟨#[]⟩, .string ⟨#[]⟩, .bool false, .string ⟨#[]⟩, .string ⟨#[]⟩, .slice none 0 0]].toList 8 = some ([.nil, .agg [.lit (.int .u8 0), .lit (.int .i64 0), .lit (.int .i64 0), .agg [.lit (.string []), .lit (.string []), .lit (.bool false)], .lit (.string []), .lit (.string []), .nil]], [], places) := ⟨[], by kernel_rfl⟩
set_option maxRecDepth 100000 in
theorem lifted (os : Os) (started : os.Started) (H : Type) (enc : TypeId × Value → H) (F : Stop.Interp) :
    ReturnsInHanded {} Tryz.checked os 6 .any ((Rows.OpenSpec.upto Rows.ownerOwnSpec).preRow enc Tryz.prog Tryz.f6 Rows.ownerOwnUptoRow.domain false Rows.ownerOwnUptoRow.laid) (((Rows.OpenSpec.upto Rows.ownerOwnSpec).at F).post enc Tryz.prog Tryz.f6 false true false false) := by
  obtain ⟨places, hx⟩ := reads os enc
  refine returnsInHanded_of_row (C := Tryz.checked) (s := Rows.OpenSpec.upto Rows.ownerOwnSpec) own started (by kernel_rfl) Tryz.func6
    (witness_row_at (enc := enc) (C := Tryz.checked) false (World.doorLaid Tryz.prog 24 os) #[.slice none 0 0, .agg #[.int .u8 0, .int .i64 0, .int .i64 0, .string ⟨#[]⟩, .string ⟨#[]⟩, .bool false, .string ⟨#[]⟩, .string ⟨#[]⟩, .slice none 0 0]] rfl (by kernel_rfl) (by kernel_rfl) (by kernel_rfl)
      (OpenSpec.preRow_of_cond 8 hx (by kernel_rfl) (fun k hk => by cases hk; kernel_rfl) (by kernel_rfl) (laid_met os))) ?_
  intro W base args ds gs before hval0 hW hcnd hcond hsz0 hL _ _
  have HT := table hL
  have hk := hcond _ rfl
  have hsz : (DataW.weightsEach Tryz.prog (Tryz.f6.params.toList ++ Rows.ownerOwnSpec.plain.varTypes Tryz.prog) (ds ++ gs)).all (· ≤ reachBytes) = true := hsz0
  have hval : ∀ (j : Nat) t v, Tryz.f6.params[j]? = some t → args[j]? = some v → Value.okWide Tryz.prog W .any base t v := hval0
  have hW' := hW
  obtain ⟨p, q, hA0, hV, rfl, hfz, hnd⟩ := hW
  have hA : DataW.TrodAll enc Tryz.prog W 0 (fun _ => true) true Tryz.f6.params.toList args.toList ds p := hA0
  rw [Tryz.params6] at hA hval hsz
  obtain ⟨v0, vs0, d0, ds0, p0, q0, hargs, rfl, rfl, h0, r0⟩ := trodAll_cons hA
  obtain ⟨v1, vs1, d1, ds1, p1, q1, rfl, rfl, rfl, h1, r1⟩ := trodAll_cons r0
  obtain ⟨rfl, rfl, rfl⟩ := trodAll_nil r1
  obtain rfl : args = #[v0, v1] := by cases args; simp_all
  obtain ⟨rfl, rfl⟩ := trodVars_none hV
  have k0 := h0
  have lt0 : ∀ x ∈ p0, x.block < W.heap.size := by obtain ⟨m, hm⟩ := k0; exact DataW.trod_lt m _ _ _ hm
  have k1 := h1
  have lt1 : ∀ x ∈ p1, x.block < W.heap.size := by obtain ⟨m, hm⟩ := k1; exact DataW.trod_lt m _ _ _ hm
  obtain ⟨A0, len0, cap0, rfl⟩ := okWide_slice Tryz.underlying67 (hval 0 67 v0 rfl rfl)
  have wt0 := (wt_arg hsz (j := 0) rfl rfl)
  obtain ⟨fu0, hf0⟩ := h0
  obtain ⟨hs0, hhs0, hlc0, hl0, hlv0, -⟩ := open_heldsl Tryz.underlying67 Tryz.underlying132 (by kernel_rfl) (by kernel_rfl) (by kernel_rfl) rfl Tryz.underlying9 Tryz.underlying130 Tryz.underlying140 (by kernel_rfl) (by kernel_rfl) (by kernel_rfl) rfl Tryz.underlying3 Tryz.underlying4 hf0 wt0
  obtain ⟨cs1, rfl, -⟩ := okWide_struct Tryz.underlying98 (hval 1 98 v1 rfl rfl)
  have wt1 := (wt_arg hsz (j := 1) rfl rfl)
  obtain ⟨fu1, hf1⟩ := h1
  obtain ⟨rq1, hrq1, hro1, hrl1, hrn1⟩ := open_rq Tryz.underlying98 (by kernel_rfl) (by kernel_rfl) Tryz.underlying96 (by kernel_rfl) Tryz.underlying3 (by kernel_rfl) Tryz.underlying87 (by kernel_rfl) (by kernel_rfl) Tryz.underlying9 Tryz.underlying4 (by kernel_rfl) (by kernel_rfl) Tryz.underlying88 (by kernel_rfl) (by kernel_rfl) hf1 wt1
  obtain rfl : cs1 = rq1.cells.toArray := by rw [← hrq1]; simp [Value.cells]
  have hbk := bulk_bound hk
  have hb0 : len0 ≤ 1048576 := Nat.le_trans (bulk_slice Tryz.underlying67 hf0) (Nat.le_trans (bulk_part (by simp)) hbk)
  clear hA0 hval0 hsz0 hk
  refine (lawown_any A0 len0 cap0 hs0 rq1 W hhs0 hb0 hlv0 hro1 hrn1 (Nat.le_trans hrl1 (by decide)) HT).mono fun e W' ⟨he, bel⟩ => ?_
  subst he
  exact ⟨_, rfl, _, _, _, [], _, [], hW', trodAll_mk1 (shut_bool Tryz.underlying4 _), (trodAll_cons_mk (Below.trod laidOut (by kernel_rfl) (of_decide_eq_true (by kernel_rfl)) k0 bel lt0) (trodAll_cons_mk (Below.trod laidOut (by kernel_rfl) (of_decide_eq_true (by kernel_rfl)) k1 bel lt1) trodAll_mk0)), rfl, bel.frame _, fun h => by cases h⟩
theorem said : Rows.OwnerOwnUptoSaid :=
  OpenClaim.holds_of_cond 6 Tryz.f6 rfl rfl rfl rfl rfl rfl rfl ⟨rfl, rfl, rfl, rfl, rfl⟩ rfl rfl rfl rfl rfl (by kernel_rfl) Tryz.func6 (by kernel_rfl)
    (of_decide_eq_true (by kernel_rfl)) (by unfold Func.isWrapper; first | (rw [if_pos (by decide +kernel)]; kernel_rfl) | (rw [if_neg (by decide +kernel)]; exact ⟨rfl, rfl⟩))
    (fun os started H enc _ F => by rw [OpenClaim.pre_eq_preRow]; exact lifted os started H enc F)
theorem proved : Rows.OwnerOwnUptoCardSaid :=
  Claim7.holds_tied_plain_at .later [] _ _ _ _ said (fun _ h => by cases h) (by kernel_rfl) (fun _ h => by cases h) ownerOwnUpto_row_tie rfl ⟨rfl, rfl⟩ (by kernel_rfl) rfl
    (fun f fn hf hfn => by
      obtain rfl : f = 6 := Option.some.inj ((show Tryz.prog.funcNamed "towpath/towpathlaw15.OwnerOwn" = some 6 by kernel_rfl).symm.trans hf) |>.symm
      obtain rfl : fn = Tryz.f6 := (Option.some.inj (Tryz.func6.symm.trans hfn)).symm
      exact ⟨by kernel_rfl, fun j t ht => by
        rw [Tryz.params6] at ht
        have hm : t ∈ [67, 98] := by simpa using Array.mem_of_getElem? ht
        have hall : ([67, 98].all fun u => !Tryz.prog.wantsStandIn u) = true := by kernel_rfl
        exact (show Tryz.prog.wantsStandIn t = false by simpa using List.all_eq_true.1 hall t hm)⟩)
    (by kernel_rfl)
end ownerOwn

end Go.Proofs.YtafghiekpgjniaaGreatDoor

/- chain: what is checked, and how many are at or below a mark. -/
import Derived.Test.YtfpcgfgofemhoaaGreatSh0
import Derived.Test.YtfpcgfgofemhoaaGreatProg
namespace Go.Proofs.YtfpcgfgofemhoaaGreat
open Go.RowKit
set_option linter.unusedVariables false
set_option linter.unusedSimpArgs false

/-- What the check of one version asks. -/
def preB (vs : List Ver) (j : Nat) (x : Ver) : Bool := decide (j = 0) || match vs[j-1]? with | some y => decide (y.num < x.num) | none => true
set_option maxHeartbeats 8000000 in
theorem chkv_any (A : Option Addr) (len cap : Nat) (vs : List Ver) (w : World) (hw : VsAt w w.heap.size A len vs) (hl : len ≤ 4398046511104) :
    Calls Tryz.prog 55 #[.slice A len cap] w fun e w' => e = .returned (.int .i64 (errOf (chkB vs))) ∧ Below w.heap.size w w' := by
  have hfin : ∀ (b : Bool) (w' : World), b = chkB vs → Below w.heap.size w w' → (Ending.returned (.int .i64 (errOf b)) = .returned (.int .i64 (errOf (chkB vs))) ∧ Below w.heap.size w w') := fun b w' h h' => ⟨by rw [h], h'⟩
  have Hf := Lib.hid hfin
  have hlen := Lib.hid hw.len
  clear hfin
  go_enter Tryz.func55, Tryz.ntmps55
  go_wp2_with fail
  go_loopw [7] (fun i wr => ∃ k : Nat, k ≤ len ∧ i = .int .i64 k ∧ Hid (chkB (vs.take k) = true) ∧ Below w.heap.size w wr) (fun i _ => len - (RowKit.intOf i).toNat)
  case atStart => exact ⟨0, Nat.zero_le _, rfl, Lib.hid rfl, Below.refl _ _⟩
  case round =>
    obtain ⟨k, hk, rfl, Hall, hb⟩ := hrel
    have hr := hw.below hb
    have Hb := Lib.hid hb
    have hs := hb.size
    clear hb
    by_cases hlt : k < len
    · obtain ⟨b, off, x, rfl, hbl, hx, x0, x1, x2⟩ := VsAt.cell3 hr hlt
      have hst : chkB (vs.take (k + 1)) = (chkB (vs.take k) && (verB x && preB vs k x)) := chkB_step hx
      have hno : chkB (vs.take (k + 1)) = false → chkB vs = false := fun h => by
        cases hc : chkB vs
        · rfl
        · rw [chkB_take _ hc] at h; cases h
      have Hst := Lib.hid hst
      have Hno := Lib.hid hno
      have Hx := Lib.hid hx
      obtain ⟨num, val, drop⟩ := x
      clear hx hst hno
      have hbel : ∀ (o : Obj) (n : Nat), Below w.heap.size w ((wr.alloc o).drewN n) := fun o n => below_drewN (bel_alloc Hb.out _) _
      have Hbel := Lib.hid hbel
      clear hbel Hb
      by_cases h1 : num < 1
      · have Hbad : Hid ((verB ⟨num, val, drop⟩ && preB vs k ⟨num, val, drop⟩) = false) := Lib.hid (by simp [verB]; omega)
        go_wp2_with fail
        go_quiet (fail)
        go_wp2_with fail
        go_ret
        exact Hf.out false _ (Hno.out (by rw [Hst.out, Hbad.out, Bool.and_false])).symm (Hbel.out _ _)
      have hq1 : decide (num < 1) = false := by simpa using h1
      by_cases h2 : 65536 < num
      · have Hbad : Hid ((verB ⟨num, val, drop⟩ && preB vs k ⟨num, val, drop⟩) = false) := Lib.hid (by simp [verB]; omega)
        go_wp2_with fail
        go_quiet (fail)
        go_wp2_with fail
        go_ret
        exact Hf.out false _ (Hno.out (by rw [Hst.out, Hbad.out, Bool.and_false])).symm (Hbel.out _ _)
      have hq2 : decide (65536 < num) = false := by simpa using h2
      by_cases h3 : 1024 < val.size
      · have hq5 : decide ((1024 : Int) < (val.size : Int)) = true := by simp; omega
        have hq6 : decide (1024 < val.size) = true := by simpa using h3
        have Hbad : Hid ((verB ⟨num, val, drop⟩ && preB vs k ⟨num, val, drop⟩) = false) := Lib.hid (by simp [verB, valB]; omega)
        go_wp2_with fail
        go_quiet (fail)
        go_wp2_with fail
        go_ret
        exact Hf.out false _ (Hno.out (by rw [Hst.out, Hbad.out, Bool.and_false])).symm (Hbel.out _ _)
      have hq3 : decide (1024 < val.size) = false := by simpa using h3
      have hq4 : decide ((1024 : Int) < (val.size : Int)) = false := by simp; omega
      by_cases h4 : (drop && decide (val.size ≠ 0)) = true
      · have hv0 : ¬ val.size = 0 := by intro e; simp [e] at h4
        obtain rfl : drop = true := by cases drop; simp at h4; rfl
        have hve : val.toList ≠ [] := fun e => hv0 ((toList_nil _).1 e)
        have hvi : val.toList.isEmpty = false := by simpa using hve
        have Hbad : Hid ((verB ⟨num, val, true⟩ && preB vs k ⟨num, val, true⟩) = false) := Lib.hid (by simp [verB, hv0])
        go_wp2_with fail
        go_quiet (fail)
        go_wp2_with fail
        go_ret
        exact Hf.out false _ (Hno.out (by rw [Hst.out, Hbad.out, Bool.and_false])).symm (Hbel.out _ _)
      have hvb : verB ⟨num, val, drop⟩ = true := by
        unfold verB valB
        cases drop <;> simp_all <;> omega
      have Hvb := Lib.hid hvb
      clear hvb
      have hdv : drop = false ∨ (drop = true ∧ val.toList = []) := by
        cases drop
        · exact .inl rfl
        · right; refine ⟨rfl, (toList_nil _).2 ?_⟩; simpa using h4
      clear h4
      rcases Nat.eq_zero_or_pos k with h0 | h0
      · have Hgd : Hid ((verB ⟨num, val, drop⟩ && preB vs k ⟨num, val, drop⟩) = true) := Lib.hid (by rw [Hvb.out]; simp [preB, h0])
        have hk5 : decide ((0 : Int) < (k : Int)) = false := by simp; omega
        have hk6 : decide (0 < k) = false := by simp; omega
        clear h0
        rcases hdv with rfl | ⟨rfl, hve⟩
        · skip
          go_wp2_with fail
          go_quiet (fail)
          go_wp2_with fail
          exact ⟨⟨k + 1, by omega, by go_num, Lib.hid (by rw [Hst.out, Hall.out, Hgd.out]; rfl), Hbel.out _ _⟩, by simp [RowKit.intOf]; omega⟩
        · have hvi : val.toList.isEmpty = true := by simp [hve]
          go_wp2_with fail
          go_quiet (fail)
          go_wp2_with fail
          exact ⟨⟨k + 1, by omega, by go_num, Lib.hid (by rw [Hst.out, Hall.out, Hgd.out]; rfl), Hbel.out _ _⟩, by simp [RowKit.intOf]; omega⟩
      · obtain ⟨b', off', y, he, hbl', hy, y0, -, -⟩ := VsAt.cell3 hr (i := k - 1) (by omega)
        injection he with he; injection he with he1 he2; subst he1 he2
        have hbw : b < wr.heap.size := by omega
        have hpr : preB vs k ⟨num, val, drop⟩ = decide (y.num < num) := by unfold preB; rw [hy]; simp; omega
        have Hpr := Lib.hid hpr
        have hk1 : ((k : Int) - 1).toNat = k - 1 := by omega
        have hk2 : (0 : Int) ≤ (k : Int) - 1 := by omega
        have hk7 : IntKind.i64.wrap ((k : Int) - 1) = (k : Int) - 1 := IntWalk.i64_in _ (by omega)
        have hk3 : (1 : Int) ≤ (k : Int) := by omega
        have hk4 : (k : Int) - 1 < (len : Int) := by omega
        have hk5 : decide ((0 : Int) < (k : Int)) = true := by simp; omega
        have hk6 : decide (0 < k) = true := by simp; omega
        obtain ⟨ynum, yval, ydrop⟩ := y
        simp only at y0 hpr Hpr
        clear hy hpr
        by_cases h6 : ynum < num
        · have hd1 : decide (num ≤ ynum) = false := by simp; omega
          have Hgd : Hid ((verB ⟨num, val, drop⟩ && preB vs k ⟨num, val, drop⟩) = true) := Lib.hid (by rw [Hvb.out, Hpr.out]; simpa using h6)
          rcases hdv with rfl | ⟨rfl, hve⟩
          · skip
            go_wp2_with fail
            go_quiet (fail)
            go_wp2_with fail
            exact ⟨⟨k + 1, by omega, by go_num, Lib.hid (by rw [Hst.out, Hall.out, Hgd.out]; rfl), Hbel.out _ _⟩, by simp [RowKit.intOf]; omega⟩
          · have hvi : val.toList.isEmpty = true := by simp [hve]
            go_wp2_with fail
            go_quiet (fail)
            go_wp2_with fail
            exact ⟨⟨k + 1, by omega, by go_num, Lib.hid (by rw [Hst.out, Hall.out, Hgd.out]; rfl), Hbel.out _ _⟩, by simp [RowKit.intOf]; omega⟩
        · have hd1 : decide (num ≤ ynum) = true := by simp; omega
          have Hbad : Hid ((verB ⟨num, val, drop⟩ && preB vs k ⟨num, val, drop⟩) = false) := Lib.hid (by rw [Hvb.out, Hpr.out]; simpa using h6)
          rcases hdv with rfl | ⟨rfl, hve⟩
          · skip
            go_wp2_with fail
            go_quiet (fail)
            go_wp2_with fail
            go_ret
            exact Hf.out false _ (Hno.out (by rw [Hst.out, Hbad.out, Bool.and_false])).symm (Hbel.out _ _)
          · have hvi : val.toList.isEmpty = true := by simp [hve]
            go_wp2_with fail
            go_quiet (fail)
            go_wp2_with fail
            go_ret
            exact Hf.out false _ (Hno.out (by rw [Hst.out, Hbad.out, Bool.and_false])).symm (Hbel.out _ _)
    · have hkl : k = len := by omega
      go_wp2
      go_ret
      refine Hf.out true _ ?_ Hb.out
      have h2 := Hall.out
      have h3 := hlen.out
      rw [List.take_of_length_le (by omega)] at h2
      exact h2.symm
end Go.Proofs.YtfpcgfgofemhoaaGreat

/- chain: Collect, Put. -/
import Derived.Test.YtfpcgfgofemhoaaGreatCh
namespace Go.Proofs.YtfpcgfgofemhoaaGreat
open Go.RowKit
set_option linter.unusedVariables false
set_option linter.unusedSimpArgs false

set_option maxRecDepth 100000
def CollEnd (w : World) (vs : List Ver) (m : Int) (e : Ending) (w' : World) : Prop :=
  ∃ A n, e = .returned (.tuple #[.slice A n n, .int .i64 (upto vs m - 1 : Nat), .int .i64 0]) ∧ VsAt w' w'.heap.size A n (collV vs m) ∧ (A = none → n = 0) ∧ TyV w' A n ∧ Below w.heap.size w w'
set_option maxHeartbeats 2000000 in
theorem collect_any (A : Option Addr) (len cap : Nat) (vs : List Ver) (m : Int) (w : World) (hw : VsAt w w.heap.size A len vs) (hn : A = none → cap = 0) (hl : len ≤ 4398046511104) (hc : chkB vs = true) :
    Calls Tryz.prog 94 #[.slice A len cap, .int .i64 m] w (CollEnd w vs m) := by
  have hasc := (chkB_iff.1 hc).2
  have hlen := Lib.hid hw.len
  have hlow : ∀ X, Below w.heap.size w X → VsAt X X.heap.size A len vs := fun X h => (hw.below h).more h.size
  have Hlow := Lib.hid hlow
  have hul := upto_le vs m
  have Hul := Lib.hid hul
  have Hc := Lib.hid hc
  have Hasc := Lib.hid hasc
  have Hn := Lib.hid hn
  have hup := upto_any A len cap vs m
  have hcv : collV vs m = vs.drop (upto vs m - 1) := rfl
  have Hcv := Lib.hid hcv
  have Hup := Lib.hid hup
  clear hlow hasc hc hw hul hn hup hcv
  generalize hu : upto vs m = u at *
  have Hu := Lib.hid hu
  have hpost : ∀ (A' : Option Addr) (n k : Nat) (X : World), k = u - 1 → VsAt X X.heap.size A' n (vs.drop k) → (A' = none → n = 0) → TyV X A' n → Below w.heap.size w X → CollEnd w vs m (.returned (.tuple #[.slice A' n n, .int .i64 k, .int .i64 0])) X := fun A' n k X h1 h2 h3 h5 h4 => by
    subst h1; exact ⟨A', n, by rw [Hu.out], by rw [Hcv.out]; exact h2, h3, h5, h4⟩
  have Hpost := Lib.hid hpost
  clear hu hpost
  go_enter Tryz.func94, Tryz.ntmps94
  go_wp2_with fail
  refine (chk_ok A len cap vs _ (Hlow.out _ (Below.refl _ _)) hl Hc.out).mono ?_
  rintro e w1 ⟨rfl, hb1⟩
  have Hb1 := Lib.hid hb1
  clear hb1
  go_wp2_with fail
  refine (Hup.out _ (Hlow.out _ Hb1.out) hl Hasc.out).mono ?_
  rintro e w2 ⟨rfl, hb2⟩
  have Hb2 := Lib.hid (Hb1.out.trans (hb2.mono Hb1.out.size))
  clear hb2
  have hul : u ≤ len := by have := Hul.out; rw [hlen.out] at this; exact this
  have hcl := clone_any A len cap vs w2 (Hlow.out _ Hb2.out) Hn.out hl
  have Hcl := Lib.hid hcl
  clear hcl
  rcases (show u = 0 ∨ u = 1 ∨ 2 ≤ u by omega) with rfl | rfl | h0
  · go_wp2_with fail
    refine Hcl.out.mono ?_
    rintro e w3 ⟨v, rfl, hown, hb3⟩
    have Hb3 := Lib.hid (Hb2.out.trans (hb3.mono Hb2.out.size))
    obtain ⟨A3, cap3, rfl, hrow, hA3, hc3⟩ := rowAt_own (len_ver vs) hown
    rw [hlen.out] at hrow hA3 hc3
    have hcm : cap3 ≤ 9223372036854775807 := by
      obtain ⟨-, ⟨h, -⟩ | ⟨g', cap', cur, h, -, -, -, hm, -⟩⟩ := hown
      · injection h with h1 h2 h3; omega
      · injection h with h1 h2 h3; unfold maxLen at hm; omega
    have Hty := Lib.hid (fun m => OwnV.ty hown m)
    have Hrow := Lib.hid hrow
    have HA3 := Lib.hid hA3
    have hl2 := hlen.out
    rw [hl2]
    clear hb3 hown hrow hA3 hl2
    go_wp2_with fail
    go_ret3
    exact Hpost.out A3 len 0 w3 rfl Hrow.out (fun h => (HA3.out h).1) (Hty.out _) Hb3.out
  · go_wp2_with fail
    refine Hcl.out.mono ?_
    rintro e w3 ⟨v, rfl, hown, hb3⟩
    have Hb3 := Lib.hid (Hb2.out.trans (hb3.mono Hb2.out.size))
    obtain ⟨A3, cap3, rfl, hrow, hA3, hc3⟩ := rowAt_own (len_ver vs) hown
    rw [hlen.out] at hrow hA3 hc3
    have hcm : cap3 ≤ 9223372036854775807 := by
      obtain ⟨-, ⟨h, -⟩ | ⟨g', cap', cur, h, -, -, -, hm, -⟩⟩ := hown
      · injection h with h1 h2 h3; omega
      · injection h with h1 h2 h3; unfold maxLen at hm; omega
    have Hty := Lib.hid (fun m => OwnV.ty hown m)
    have Hrow := Lib.hid hrow
    have HA3 := Lib.hid hA3
    have hl2 := hlen.out
    rw [hl2]
    clear hb3 hown hrow hA3 hl2
    go_wp2_with fail
    go_ret3
    exact Hpost.out A3 len 0 w3 rfl Hrow.out (fun h => (HA3.out h).1) (Hty.out _) Hb3.out
  · obtain ⟨q, rfl⟩ : ∃ q, u = q + 1 := ⟨u - 1, by omega⟩
    have hq1 : (((q + 1 : Nat) : Int) - 1) = (q : Int) := by omega
    have hq2 : (1 : Int) ≤ (q : Int) := by omega
    have hq3 : (q : Int) ≤ (len : Int) := by omega
    go_wp2_with fail
    refine Hcl.out.mono ?_
    rintro e w3 ⟨v, rfl, hown, hb3⟩
    have Hb3 := Lib.hid (Hb2.out.trans (hb3.mono Hb2.out.size))
    obtain ⟨A3, cap3, rfl, hrow, hA3, hc3⟩ := rowAt_own (len_ver vs) hown
    rw [hlen.out] at hrow hA3 hc3
    have hcm : cap3 ≤ 9223372036854775807 := by
      obtain ⟨-, ⟨h, -⟩ | ⟨g', cap', cur, h, -, -, -, hm, -⟩⟩ := hown
      · injection h with h1 h2 h3; omega
      · injection h with h1 h2 h3; unfold maxLen at hm; omega
    have Hty := Lib.hid (fun m => OwnV.ty hown m)
    have Hrow := Lib.hid hrow
    have HA3 := Lib.hid hA3
    have hl2 := hlen.out
    rw [hl2]
    clear hb3 hown hrow hA3 hl2
    have hne : ¬ len = q := by omega
    have hne2 : ¬ cap3 = q := by omega
    go_wp2_with fail
    go_ret3
    refine Hpost.out _ (len - q) q w3 rfl ?_ (fun h => ?_) ((Hty.out len).cut (by omega)) Hb3.out
    · have := Hrow.out.cut (k := q) (cap := len) (by omega) (Nat.le_refl _)
      rwa [if_neg hne] at this
    · cases A3 with
      | none => have := (HA3.out rfl).1; omega
      | some a => cases h
end Go.Proofs.YtfpcgfgofemhoaaGreat

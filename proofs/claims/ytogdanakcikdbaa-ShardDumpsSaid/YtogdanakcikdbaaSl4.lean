/- towpathlaw09: what is alive. -/
import Derived.Test.YtogdanakcikdbaaSl3
namespace Go.Proofs.Ytogdanakcikdbaa
open Go.RowKit
set_option linter.unusedVariables false
set_option linter.unusedSimpArgs false

set_option maxRecDepth 100000
def kA : ByteArray := ⟨#[97]⟩
def pA1 : Part := ⟨1, ⟨kA, ⟨#[120]⟩, false⟩⟩
def pA2 : Part := ⟨3, ⟨kA, ⟨#[]⟩, true⟩⟩
def pA3 : Part := ⟨3, ⟨kA, ⟨#[122]⟩, false⟩⟩
def vA1 : Ver := ⟨1, ⟨#[120]⟩, false⟩
def vA2 : Ver := ⟨3, ⟨#[]⟩, true⟩
theorem okA1 : okP pA1 = true := by rfl
theorem okA2 : okP pA2 = true := by rfl
theorem okA3 : okP pA3 = true := by rfl
def lA1 : Hs := instH [] pA1
def lA2 : Hs := instH lA1 pA2
theorem newA1 : newP [] pA1 = true := by rfl
theorem getA1 : hget lA1 kA = [vA1] := by
  unfold lA1 instH; rw [if_pos newA1, show pA1.w.key = kA from rfl, hget_hput, if_pos rfl]; rfl
theorem newA2 : newP lA1 pA2 = true := by
  unfold newP; rw [show pA2.w.key = kA from rfl, getA1]; rfl
theorem getA2 : hget lA2 kA = [vA1, vA2] := by
  unfold lA2 instH; rw [if_pos newA2, show pA2.w.key = kA from rfl, hget_hput, if_pos rfl, getA1]; rfl
theorem newA3 : newP lA2 pA3 = false := by
  unfold newP; rw [show pA3.w.key = kA from rfl, getA2]; rfl
theorem instA3 : instH lA2 pA3 = lA2 := by unfold instH; rw [newA3]; exact if_neg Bool.false_ne_true
theorem sizeA : sizeH lA2 = 2 := by
  have h := (Fill.nil.add newA1).add newA2
  exact h.size
theorem getvA2 : getV (hget lA2 kA) 2 = (⟨#[120]⟩, true) := by rw [getA2]; rfl
theorem getvA3 : getV (hget lA2 kA) 3 = (⟨#[]⟩, false) := by rw [getA2]; rfl
set_option maxHeartbeats 4000000 in
theorem alive_any (w : World) : Calls Try.prog 10 #[] w fun e w' => e = .returned (.bool true) ∧ Below w.heap.size w w' := by
  go_enter Try.func10, Try.ntmps10
  go_wp2_with fail
  refine (new_any _).mono ?_
  rintro e w1 ⟨rfl, hsh1, hb1⟩
  obtain ⟨t, ht⟩ : ∃ t : SB, t = ⟨w.heap.size + 1, w.heap.size⟩ := ⟨_, rfl⟩
  have htg : w.heap.size + 1 = t.g := by rw [ht]
  have htp : w.heap.size ≤ t.p := by rw [ht]; exact Nat.le_refl _
  rw [← ht] at hsh1
  rw [htg]
  have HS1 := Lib.hid hsh1
  have Hb1 := Lib.hid hb1
  have HX := Lib.hid htg
  have hlt1 := hsh1.lt
  clear hsh1 hb1 ht htg
  have hi1 : Calls Try.prog 33 #[.pointer (some ⟨t.g, 0, none⟩), .int .i64 1, .agg #[.string ⟨#[97]⟩, .string ⟨#[120]⟩, .bool false]] w1 (InstEnd w1 t [] pA1) := install_any t [] pA1 w1 HS1.out
  have Hi1 := Lib.hid hi1
  clear hi1
  go_wp2_with fail
  refine Hi1.out.mono ?_
  rintro e w2 ⟨rfl, hsh2, hk2⟩
  rw [newA1, okA1]
  have HS2 : Hid (ShAt w2 t lA1) := Lib.hid hsh2
  have HK2 : Hid (Kept w1 w2 (· = t.p)) := Lib.hid hk2
  clear hsh2 hk2
  have hi2 : Calls Try.prog 33 #[.pointer (some ⟨t.g, 0, none⟩), .int .i64 3, .agg #[.string ⟨#[97]⟩, .string ⟨#[]⟩, .bool true]] w2 (InstEnd w2 t lA1 pA2) := install_any t lA1 pA2 w2 HS2.out
  have Hi2 := Lib.hid hi2
  clear hi2
  go_wp2_with fail
  refine Hi2.out.mono ?_
  rintro e w3 ⟨rfl, hsh3, hk3⟩
  rw [newA2, okA2]
  have HS3 : Hid (ShAt w3 t lA2) := Lib.hid hsh3
  have HK3 : Hid (Kept w1 w3 (· = t.p)) := Lib.hid (HK2.out.trans hk3)
  clear hsh3 hk3
  have hi3 : Calls Try.prog 33 #[.pointer (some ⟨t.g, 0, none⟩), .int .i64 3, .agg #[.string ⟨#[97]⟩, .string ⟨#[122]⟩, .bool false]] w3 (InstEnd w3 t lA2 pA3) := install_any t lA2 pA3 w3 HS3.out
  have Hi3 := Lib.hid hi3
  clear hi3
  go_wp2_with fail
  refine Hi3.out.mono ?_
  rintro e w4 ⟨rfl, hsh4, hk4⟩
  rw [newA3, okA3]
  have HS4 : Hid (ShAt w4 t lA2) := Lib.hid (by rw [instA3] at hsh4; exact hsh4)
  have HK4 : Hid (Kept w1 w4 (· = t.p)) := Lib.hid (HK3.out.trans hk4)
  clear hsh4 hk4
  have hg1 := get_any t lA2 kA 2 w4 HS4.out
  rw [getvA2] at hg1
  have Hg1 : Hid (Calls Try.prog 20 #[.pointer (some ⟨t.g, 0, none⟩), .string ⟨#[97]⟩, .int .i64 2] w4 fun e w' => e = .returned (.tuple #[.string ⟨#[120]⟩, .bool true]) ∧ Below w4.heap.size w4 w') := Lib.hid hg1
  clear hg1
  go_wp2_with fail
  refine Hg1.out.mono ?_
  rintro e w5 ⟨rfl, hb5⟩
  have HS5 := Lib.hid (HS4.out.below hb5)
  have HK5 : Hid (Kept w1 w5 (· = t.p)) := Lib.hid (HK4.out.trans (Kept.of_below hb5))
  clear hb5
  have hg2 := get_any t lA2 kA 3 w5 HS5.out
  rw [getvA3] at hg2
  have Hg2 : Hid (Calls Try.prog 20 #[.pointer (some ⟨t.g, 0, none⟩), .string ⟨#[97]⟩, .int .i64 3] w5 fun e w' => e = .returned (.tuple #[.string ⟨#[]⟩, .bool false]) ∧ Below w5.heap.size w5 w') := Lib.hid hg2
  clear hg2
  go_wp2_with fail
  refine Hg2.out.mono ?_
  rintro e w6 ⟨rfl, hb6⟩
  have HS6 := Lib.hid (HS5.out.below hb6)
  have HK6 : Hid (Kept w1 w6 (· = t.p)) := Lib.hid (HK5.out.trans (Kept.of_below hb6))
  clear hb6
  have hl : Calls Try.prog 14 #[.slice (some ⟨w6.heap.size, 0, none⟩) 1 1] (w6.alloc (.cells #[.string ⟨#[97]⟩, .slice none 0 0] 53)) (LoadEnd (w6.alloc (.cells #[.string ⟨#[97]⟩, .slice none 0 0] 53)) [(kA, [])]) :=
    load_any (some ⟨w6.heap.size, 0, none⟩) 1 1 [⟨kA, none, 0, 0, []⟩] _ ⟨rowAt_block [⟨kA, none, 0, 0, []⟩] (len_hr _) (blk_new w6 _) (by simp) (fun j u hu => by simpa [HR.cells, kA] using hu), fun h hh => by
      simp at hh; subst hh; exact ⟨RowAt.nil_, Nat.le_refl _, fun _ => rfl⟩⟩ (by omega) (fun h hh => by simp at hh; subst hh; show 0 ≤ _; omega)
  have Hl := Lib.hid hl
  clear hl
  go_wp2_with fail
  refine Hl.out.mono ?_
  rintro e w7 ⟨-, hl2, hb7⟩
  have hl3 := hl2 (by rfl)
  subst hl3
  have HS7 := Lib.hid ((HS6.out.alloc (.cells #[.string ⟨#[97]⟩, .slice none 0 0] 53)).below hb7)
  have HK7 : Hid (Kept w1 w7 (· = t.p)) := Lib.hid ((HK6.out.alloc _).trans (Kept.of_below hb7))
  clear hb7 hl2
  have hsz := size_any t lA2 w7 HS7.out (by rw [sizeA]; omega)
  rw [sizeA] at hsz
  have Hsz := Lib.hid hsz
  clear hsz
  go_wp2_with fail
  refine Hsz.out.mono ?_
  rintro e w8 ⟨rfl, hb8⟩
  have HK8 : Hid (Kept w1 w8 (· = t.p)) := Lib.hid (HK7.out.trans (Kept.of_below hb8))
  clear hb8
  go_wp2_with fail
  go_ret
  exact ⟨rfl, Hb1.out.trans (HK8.out.below Hb1.out.size (fun q hq => by rw [hq]; exact htp))⟩
end Go.Proofs.Ytogdanakcikdbaa

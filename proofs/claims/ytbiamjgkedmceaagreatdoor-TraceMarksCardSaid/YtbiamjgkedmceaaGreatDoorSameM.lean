/- Lists of numbers that are the same. -/
import Derived.Test.YtbiamjgkedmceaaGreatDoorLg
import Derived.Test.YtbiamjgkedmceaaGreatDoorEv
namespace Go.Proofs.YtbiamjgkedmceaaGreatDoor
open Go.RowKit
set_option linter.unusedVariables false
set_option linter.unusedSimpArgs false

open Go.Maps
set_option maxHeartbeats 1000000 in
/-- Two rows of one list are the same. -/
theorem sameI_any (A1 : Option Addr) (len cap1 : Nat) (A2 : Option Addr) (cap2 : Nat) (xs : List Int) (w : World) (h1 : RowAt Icell 1 w w.heap.size A1 len xs) (h2 : RowAt Icell 1 w w.heap.size A2 len xs) (hl : len ≤ 4398046511104) :
    Calls Tryz.prog 5 #[.slice A1 len cap1, .slice A2 len cap2] w fun e w' => e = .returned (.bool true) ∧ Below w.heap.size w w' := by
  have hb0 := beq_self_eq_true (len : Int)
  go_enter Tryz.func5, Tryz.ntmps5
  go_wp2_with fail
  go_loopw [5] (fun i wr => ∃ k : Nat, k ≤ len ∧ i = .int .i64 k ∧ Below w.heap.size w wr) (fun i _ => len - (RowKit.intOf i).toNat)
  case atStart => exact ⟨0, Nat.zero_le _, rfl, Below.refl _ _⟩
  case round =>
    obtain ⟨k, hk, rfl, hb⟩ := hrel
    have hr := h1.below hb
    have ht := h2.below hb
    have Hb := Lib.hid hb
    have hs := hb.size
    clear hb
    by_cases hlt : k < len
    · obtain ⟨b, off, x, rfl, hbl, hx, hxc⟩ := hr.at_ hlt
      have x0 := hxc 0 _ rfl
      simp only [Nat.mul_one, Nat.add_zero] at x0
      obtain ⟨b', off', y, rfl, hbl', hy, hyc⟩ := ht.at_ hlt
      have y0 := hyc 0 _ rfl
      simp only [Nat.mul_one, Nat.add_zero] at y0
      obtain rfl : y = x := by rw [hx] at hy; exact (Option.some.inj hy).symm
      clear hx hy hxc hyc hr ht
      go_wp2_with fail
      go_quiet (fail)
      go_wp2_with fail
      exact ⟨⟨k + 1, by omega, by go_num, below_drewN Hb.out _⟩, by simp [RowKit.intOf]; omega⟩
    · obtain rfl : k = len := by omega
      go_wp2_with fail
      go_ret
      exact ⟨rfl, Hb.out⟩
end Go.Proofs.YtbiamjgkedmceaaGreatDoor

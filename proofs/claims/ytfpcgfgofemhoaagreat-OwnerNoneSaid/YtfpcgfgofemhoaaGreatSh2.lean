/- chain: how many are at or below a mark; the newest at a mark; copies. -/
import Derived.Test.YtfpcgfgofemhoaaGreatSh0
import Derived.Test.YtfpcgfgofemhoaaGreatApp
import Derived.Test.YtfpcgfgofemhoaaGreatProg
namespace Go.Proofs.YtfpcgfgofemhoaaGreat
open Go.RowKit
set_option linter.unusedVariables false
set_option linter.unusedSimpArgs false

set_option maxRecDepth 100000
theorem info_ver : (Tryz.prog.info? 104).map (fun i => (i.zero, i.size, i.bytes)) = some (some (.agg #[.int .i64 0, .string ⟨#[]⟩, .bool false]), 3, 32) := by kernel_rfl
set_option maxHeartbeats 1000000 in
theorem above_any (b off : Nat) (i len cap : Nat) (a num : Int) (w : World) (hi : i < len) (hl : len ≤ 4398046511104) (hb : b < w.heap.size) (hc : w.cell? ⟨b, off + i * 3, none⟩ = some (.int .i64 num)) :
    Calls Tryz.prog 107 #[.agg #[.slice (some ⟨b, off, none⟩) len cap, .int .i64 a], .int .i64 i] w fun e w' => e = .returned (.bool (decide (a < num))) ∧ Below w.heap.size w w' := by
  have h0 : (0 : Int) ≤ (i : Int) := by omega
  have h1 : (i : Int) < (len : Int) := by omega
  go_enter Tryz.func107, Tryz.ntmps107
  go_wp2_with fail
  go_quiet (fail)
  go_wp2_with fail
  go_ret
  exact ⟨rfl, below_drewN (bel_alloc (Below.refl _ _) _) _⟩
set_option maxHeartbeats 4000000 in
theorem search_any (A : Option Addr) (len cap : Nat) (vs : List Ver) (a : Int) (w : World) (hw : VsAt w w.heap.size A len vs) (hl : len ≤ 4398046511104) (hasc : Asc vs) :
    Calls Tryz.prog 106 #[.int .i64 len, .func (.func 107) #[.agg #[.slice A len cap, .int .i64 a]] #[]] w fun e w' => e = .returned (.int .i64 (upto vs a : Nat)) ∧ Below w.heap.size w w' := by
  have hup : upto vs a ≤ len := by have := upto_le vs a; rw [hw.len] at this; exact this
  have hlow : ∀ (i : Nat) (x : Ver), vs[i]? = some x → (i < upto vs a ↔ x.num ≤ a) := fun i x hx => upto_low hasc hx
  have Hlow := Lib.hid hlow
  clear hlow
  generalize hu : upto vs a = u at hup Hlow ⊢
  clear hu
  go_enter Tryz.func106, Tryz.ntmps106
  go_wp2_with fail
  go_loopg [5, 6] len (fun kx s5 s6 wr => ∃ lo hi : Nat, s5 = .int .i64 lo ∧ s6 = .int .i64 hi ∧ lo ≤ u ∧ u ≤ hi ∧ hi ≤ len ∧ hi - lo ≤ kx ∧ Hid (Below w.heap.size w wr))
  case atStart => exact ⟨0, len, rfl, rfl, Nat.zero_le _, hup, Nat.le_refl _, by omega, Lib.hid (Below.refl _ _)⟩
  case round =>
    obtain ⟨lo, hi, rfl, rfl, h1, h2, h3, hg, Hb⟩ := hrel
    by_cases hlt : lo < hi
    · obtain ⟨b, off, x, rfl, hbl, hx, x0⟩ := VsAt.num (hw.below Hb.out) (i := (lo + hi) / 2) (by omega)
      have hsz := Hb.out.size
      have hcon := above_any b off ((lo + hi) / 2) len cap a x.num wr (by omega) hl (by omega) x0
      rw [show (((lo + hi) / 2 : Nat) : Int) = ((lo : Int) + (hi : Int)) / 2 by omega] at hcon
      have hmid := Hlow.out _ x hx
      cases hp : decide (a < x.num) <;> rw [hp] at hcon
      · have Hm := Lib.hid (hmid.2 (by simpa using hp))
        clear hmid hp x0 hx
        go_wp2_with fail
        refine hcon.mono ?_
        rintro e w' ⟨rfl, hb'⟩
        have Hb' := Lib.hid (Hb.out.trans (hb'.mono hsz))
        clear hb' hcon Hb
        go_wp2_with fail
        go_roundg (hi - ((lo + hi) / 2 + 1))
        case measure => omega
        case rel => exact ⟨(lo + hi) / 2 + 1, hi, by rw [show ((lo : Int) + (hi : Int)) / 2 + 1 = (((lo + hi) / 2 + 1 : Nat) : Int) by omega], rfl, by have := Hm.out; omega, h2, h3, Nat.le_refl _, Hb'⟩
      · have Hm := Lib.hid (show ¬ ((lo + hi) / 2 < u) from fun h => by have := hmid.1 h; simp at hp; omega)
        clear hmid hp x0 hx
        go_wp2_with fail
        refine hcon.mono ?_
        rintro e w' ⟨rfl, hb'⟩
        have Hb' := Lib.hid (Hb.out.trans (hb'.mono hsz))
        clear hb' hcon Hb
        go_wp2_with fail
        go_roundg ((lo + hi) / 2 - lo)
        case measure => omega
        case rel => exact ⟨lo, (lo + hi) / 2, rfl, by rw [show ((lo : Int) + (hi : Int)) / 2 = (((lo + hi) / 2 : Nat) : Int) by omega], h1, by have := Hm.out; omega, by omega, Nat.le_refl _, Hb'⟩
    · obtain rfl : hi = lo := by omega
      obtain rfl : u = hi := by omega
      go_wp2_with fail
      go_ret
      exact ⟨rfl, Hb.out⟩
theorem upto_any (A : Option Addr) (len cap : Nat) (vs : List Ver) (a : Int) (w : World) (hw : VsAt w w.heap.size A len vs) (hl : len ≤ 4398046511104) (hasc : Asc vs) :
    Calls Tryz.prog 101 #[.slice A len cap, .int .i64 a] w fun e w' => e = .returned (.int .i64 (upto vs a : Nat)) ∧ Below w.heap.size w w' := by
  have hc := search_any A len cap vs a w hw hl hasc
  generalize upto vs a = u at hc ⊢
  clear hasc
  go_enter Tryz.func101, Tryz.ntmps101
  go_wp2_with fail
  refine hc.mono ?_
  rintro e w' ⟨rfl, hb'⟩
  have Hb' := Lib.hid hb'
  clear hb'
  go_wp2_with fail
  go_ret
  exact ⟨rfl, Hb'.out⟩
end Go.Proofs.YtfpcgfgofemhoaaGreat

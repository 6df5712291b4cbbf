/- Lemmas and contracts of functions that a statement of this seat stands on; each holds under the premises typed in its head. -/
import Derived.Test.YtafghiekpgjniaaGreatDoorCore
import Derived.Test.YtafghiekpgjniaaGreatDoorMa
import Derived.BigQuiet
namespace Go.Proofs.YtafghiekpgjniaaGreatDoor
open Go.RowKit
set_option linter.unusedVariables false
set_option linter.unusedSimpArgs false

theorem bel_drewN {B : Nat} {w X : World} (h : Below B w X) (n : Nat) : Below B w (X.drewN n) := ⟨h.os, h.tape, h.output, h.size, h.block⟩
theorem wsize_any (A : Option Addr) (len cap : Nat) (ws : List Wr) (w : World) (hw : WsAt w w.heap.size A len ws) (hl : len ≤ 4398046511104) (hs : ∀ x ∈ ws, x.key.size ≤ 140737488351232 ∧ x.val.size ≤ 140737488351232) :
    Calls Tryz.prog 131 #[.slice A len cap] w fun e w' => ∃ q : Int, e = .returned (.int .i64 q) ∧ 0 ≤ q ∧ q ≤ 1125899906842624 ∧ Below w.heap.size w w' := by
  have Hs := Lib.hid hs
  clear hs
  go_enter Tryz.func131, Tryz.ntmps131
  go_wp2_with fail
  go_loopw [3, 4] (fun n i wr => ∃ (j : Nat) (q : Int), j ≤ len ∧ i = .int .i64 j ∧ n = .int .i64 q ∧ 0 ≤ q ∧ q ≤ 1125899906842624 ∧ Below w.heap.size w wr) (fun _ i _ => len - (RowKit.intOf i).toNat)
  case atStart => exact ⟨0, len, by omega, rfl, rfl, by omega, by omega, Below.refl _ _⟩
  case round =>
    obtain ⟨j, q, hj, rfl, rfl, q0, q1, hb⟩ := hrel
    have hr := hw.below hb
    have Hb := Lib.hid hb
    clear hb
    by_cases hlt : j < len
    · obtain ⟨b, off, x, rfl, hbl, hx, x0, x1, x2⟩ := WsAt.cell3 hr hlt
      have hsz := Hs.out x (List.mem_of_getElem? hx)
      obtain ⟨z0, z1⟩ := hsz
      clear hx hr
      by_cases hq : q ≤ 1048576
      · go_wp2_with fail
        go_quiet (fail)
        go_wp2_with fail
        exact ⟨⟨j + 1, _, by omega, by go_num, rfl, by omega, by omega, bel_drewN Hb.out _⟩, by simp [RowKit.intOf]; omega⟩
      · go_wp2_with fail
        go_ret
        exact ⟨q, rfl, q0, q1, Hb.out⟩
    · go_wp2_with fail
      go_ret
      exact ⟨q, rfl, q0, q1, Hb.out⟩

theorem tsize_any (n : Int) (A : Option Addr) (len cap : Nat) (ws : List Wr) (w : World) (hw : WsAt w w.heap.size A len ws) (hl : len ≤ 4398046511104) (hs : ∀ x ∈ ws, x.key.size ≤ 140737488351232 ∧ x.val.size ≤ 140737488351232) :
    Calls Tryz.prog 42 #[.agg #[.int .i64 n, .slice A len cap]] w fun e w' => ∃ q : Int, e = .returned (.int .i64 q) ∧ 0 ≤ q ∧ q ≤ 1125899906842625 ∧ Below w.heap.size w w' := by
  have hw2 : ∀ o, WsAt (w.alloc o) (w.alloc o).heap.size A len ws := fun o => (hw.below ((Below.refl _ _).alloc (Nat.le_refl _) _)).more (by simp)
  go_enter Tryz.func42, Tryz.ntmps42
  go_wp2_with fail
  refine (wsize_any A len cap ws _ (hw2 _) hl hs).mono ?_
  rintro e w1 ⟨q, rfl, q0, q1, hb1⟩
  have Hb1 := Lib.hid (((Below.refl _ _).alloc (Nat.le_refl _) _).trans (hb1.mono (by simp)))
  clear hb1
  go_wp2_with fail
  go_ret
  exact ⟨_, rfl, by omega, by omega, Hb1.out⟩

theorem txsize_any (A : Option Addr) (len cap : Nat) (rs : List RTx) (w : World) (hw : TxsAt w w.heap.size A len rs) (hl : len ≤ 4398046511104) (hs : ∀ r ∈ rs, ∀ x ∈ r.ws, x.key.size ≤ 140737488351232 ∧ x.val.size ≤ 140737488351232) :
    Calls Tryz.prog 8 #[.slice A len cap] w fun e w' => ∃ q : Int, e = .returned (.int .i64 q) ∧ 0 ≤ q ∧ q ≤ 2251799813685248 ∧ Below w.heap.size w w' := by
  have Hs := Lib.hid hs
  clear hs
  go_enter Tryz.func8, Tryz.ntmps8
  go_wp2_with fail
  go_loopw [3, 4] (fun n i wr => ∃ (j : Nat) (q : Int), j ≤ len ∧ i = .int .i64 j ∧ n = .int .i64 q ∧ 0 ≤ q ∧ q ≤ 2251799813685248 ∧ Below w.heap.size w wr) (fun _ i _ => len - (RowKit.intOf i).toNat)
  case atStart => exact ⟨0, len, by omega, rfl, rfl, by omega, by omega, Below.refl _ _⟩
  case round =>
    obtain ⟨j, q, hj, rfl, rfl, q0, q1, hb⟩ := hrel
    have hr := hw.below hb
    have hsz := hb.size
    have Hb := Lib.hid hb
    clear hb
    by_cases hlt : j < len
    · obtain ⟨b, off, r, rfl, hbl, hx, x0, x1, hws, hrl⟩ := hr.cell2 hlt
      have hws2 := hws.more hsz
      have hsr := Hs.out r (List.mem_of_getElem? hx)
      have Hsr := Lib.hid hsr
      clear hx hr hsr
      by_cases hq : q ≤ 1048576
      · go_wp2_with fail
        refine (tsize_any r.number r.A r.len r.cap r.ws _ hws2 (by omega) Hsr.out).mono ?_
        rintro e w1 ⟨p, rfl, p0, p1, hb1⟩
        have Hb1 := Lib.hid (Hb.out.trans (hb1.mono hsz))
        clear hb1
        go_wp2_with fail
        exact ⟨⟨j + 1, _, by omega, by go_num, rfl, by omega, by omega, Hb1.out⟩, by simp [RowKit.intOf]; omega⟩
      · go_wp2_with fail
        go_ret
        exact ⟨q, rfl, q0, q1, Hb.out⟩
    · go_wp2_with fail
      go_ret
      exact ⟨q, rfl, q0, q1, Hb.out⟩

theorem beyond_any (A : Option Addr) (len cap : Nat) (l : List Int) (w : World) (hi : RowAt Icell 1 w w.heap.size A len l) (hl : len ≤ 1000) (hb : ∀ x ∈ l, 0 ≤ x ∧ x ≤ 2251799813685248) :
    Calls Tryz.prog 7 #[.slice A len cap] w fun e w' => ∃ b : Bool, e = .returned (.bool b) ∧ Below w.heap.size w w' := by
  have Hs := Lib.hid hb
  clear hb
  go_enter Tryz.func7, Tryz.ntmps7
  go_wp2_with fail
  go_loopw [3, 4] (fun n i wr => ∃ (j : Nat) (q : Int), j ≤ len ∧ i = .int .i64 j ∧ n = .int .i64 q ∧ 0 ≤ q ∧ q ≤ 1048576 ∧ Below w.heap.size w wr) (fun _ i _ => len - (RowKit.intOf i).toNat)
  case atStart => exact ⟨0, 0, by omega, rfl, rfl, by omega, by omega, Below.refl _ _⟩
  case round =>
    obtain ⟨j, q, hj, rfl, rfl, q0, q1, hb⟩ := hrel
    have hr := hi.below hb
    have Hb := Lib.hid hb
    clear hb
    by_cases hlt : j < len
    · obtain ⟨b, off, x, rfl, hbl, hx, hc⟩ := hr.at_ hlt
      have x0 := hc 0 _ rfl
      simp only [Nat.mul_one, Nat.add_zero] at x0
      obtain ⟨z0, z1⟩ := Hs.out x (List.mem_of_getElem? hx)
      clear hx hr hc
      by_cases hq : 1048576 < q + x
      · go_wp2_with fail
        go_ret
        exact ⟨_, rfl, Hb.out⟩
      · go_wp2_with fail
        exact ⟨⟨j + 1, _, by omega, by go_num, rfl, by omega, by omega, Hb.out⟩, by simp [RowKit.intOf]; omega⟩
    · go_wp2_with fail
      go_ret
      exact ⟨_, rfl, Hb.out⟩
end Go.Proofs.YtafghiekpgjniaaGreatDoor

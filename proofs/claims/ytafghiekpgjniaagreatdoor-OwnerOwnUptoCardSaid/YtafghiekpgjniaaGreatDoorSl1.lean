/- Lists that are the same: versions, entries, keys with versions. -/
import Derived.Test.YtafghiekpgjniaaGreatDoorPT
namespace Go.Proofs.YtafghiekpgjniaaGreatDoor
open Go.RowKit
set_option linter.unusedVariables false
set_option linter.unusedSimpArgs false

open Go.Maps
set_option maxRecDepth 100000
set_option maxHeartbeats 1000000 in
/-- Two rows of one list are the same. -/
theorem sameV_any (A1 : Option Addr) (len cap1 : Nat) (A2 : Option Addr) (cap2 : Nat) (xs : List Ver) (w : World) (h1 : RowAt Ver.cells 3 w w.heap.size A1 len xs) (h2 : RowAt Ver.cells 3 w w.heap.size A2 len xs) (hl : len ≤ 4398046511104) :
    Calls Tryz.prog 191 #[.slice A1 len cap1, .slice A2 len cap2] w fun e w' => e = .returned (.bool true) ∧ Below w.heap.size w w' := by
  have hb0 := beq_self_eq_true (len : Int)
  go_enter Tryz.func191, Tryz.ntmps191
  go_wp2_with fail
  go_loopw [5] (fun i wr => ∃ k : Nat, k ≤ len ∧ i = .int .i64 k ∧ Below w.heap.size w wr) (fun i _ => len - (RowKit.intOf i).toNat)
  case atStart => exact ⟨0, Nat.zero_le _, rfl, Below.refl _ _⟩
  case round =>
    obtain ⟨k, hk, rfl, hb⟩ := hrel
    have hr := h1.below hb
    have ht := h2.below hb
    have Hb := Lib.hid hb
    have hs := hb.size
    clear hb
    by_cases hlt : k < len
    · obtain ⟨b, off, x, rfl, hbl, hx, hxc⟩ := hr.at_ hlt
      have x0 := hxc 0 _ rfl
      have x1 := hxc 1 _ rfl
      have x2 := hxc 2 _ rfl
      simp only [Nat.add_zero] at x0
      obtain ⟨b', off', y, rfl, hbl', hy, hyc⟩ := ht.at_ hlt
      have y0 := hyc 0 _ rfl
      have y1 := hyc 1 _ rfl
      have y2 := hyc 2 _ rfl
      simp only [Nat.add_zero] at y0
      obtain rfl : y = x := by rw [hx] at hy; exact (Option.some.inj hy).symm
      clear hx hy hxc hyc hr ht
      go_wp2_with fail
      go_quiet (fail)
      go_wp2_with fail
      exact ⟨⟨k + 1, by omega, by go_num, below_drewN Hb.out _⟩, by simp [RowKit.intOf]; omega⟩
    · obtain rfl : k = len := by omega
      go_wp2_with fail
      go_ret
      exact ⟨rfl, Hb.out⟩
set_option maxHeartbeats 1000000 in
/-- Two rows of one list are the same. -/
theorem sameE_any (A1 : Option Addr) (len cap1 : Nat) (A2 : Option Addr) (cap2 : Nat) (xs : List (ByteArray × ByteArray)) (w : World) (h1 : RowAt EnC 2 w w.heap.size A1 len xs) (h2 : RowAt EnC 2 w w.heap.size A2 len xs) (hl : len ≤ 4398046511104) :
    Calls Tryz.prog 12 #[.slice A1 len cap1, .slice A2 len cap2] w fun e w' => e = .returned (.bool true) ∧ Below w.heap.size w w' := by
  have hb0 := beq_self_eq_true (len : Int)
  go_enter Tryz.func12, Tryz.ntmps12
  go_wp2_with fail
  go_loopw [5] (fun i wr => ∃ k : Nat, k ≤ len ∧ i = .int .i64 k ∧ Below w.heap.size w wr) (fun i _ => len - (RowKit.intOf i).toNat)
  case atStart => exact ⟨0, Nat.zero_le _, rfl, Below.refl _ _⟩
  case round =>
    obtain ⟨k, hk, rfl, hb⟩ := hrel
    have hr := h1.below hb
    have ht := h2.below hb
    have Hb := Lib.hid hb
    have hs := hb.size
    clear hb
    by_cases hlt : k < len
    · obtain ⟨b, off, x, rfl, hbl, hx, hxc⟩ := hr.at_ hlt
      have x0 := hxc 0 _ rfl
      have x1 := hxc 1 _ rfl
      simp only [Nat.add_zero] at x0
      obtain ⟨b', off', y, rfl, hbl', hy, hyc⟩ := ht.at_ hlt
      have y0 := hyc 0 _ rfl
      have y1 := hyc 1 _ rfl
      simp only [Nat.add_zero] at y0
      obtain rfl : y = x := by rw [hx] at hy; exact (Option.some.inj hy).symm
      clear hx hy hxc hyc hr ht
      go_wp2_with fail
      go_quiet (fail)
      go_wp2_with fail
      exact ⟨⟨k + 1, by omega, by go_num, below_drewN Hb.out _⟩, by simp [RowKit.intOf]; omega⟩
    · obtain rfl : k = len := by omega
      go_wp2_with fail
      go_ret
      exact ⟨rfl, Hb.out⟩
set_option maxHeartbeats 1000000 in
theorem sameHd_any (k : ByteArray) (A1 A2 : Option Addr) (len cap1 cap2 : Nat) (vs : List Ver) (w : World) (h1 : VsAt w w.heap.size A1 len vs) (h2 : VsAt w w.heap.size A2 len vs) (hl : len ≤ 4398046511104) :
    Calls Tryz.prog 123 #[.agg #[.string k, .slice A1 len cap1], .agg #[.string k, .slice A2 len cap2]] w fun e w' => e = .returned (.bool true) ∧ Below w.heap.size w w' := by
  have hb0 : (k.toList == k.toList) = true := by simp
  have hs := fun X (hX : Below w.heap.size w X) => sameV_any A1 len cap1 A2 cap2 vs X ((h1.below hX).more hX.size) ((h2.below hX).more hX.size) hl
  have Hs := Lib.hid hs
  clear hs h1 h2
  go_enter Tryz.func123, Tryz.ntmps123
  go_wp2_with fail
  refine (Hs.out _ (bel_alloc (bel_alloc (Below.refl _ _) _) _)).mono ?_
  rintro e w1 ⟨rfl, hb1⟩
  have Hb1 := Lib.hid ((bel_alloc (bel_alloc (Below.refl _ w) _) _).trans (hb1.mono (by simp; omega)))
  clear hb1
  go_wp2_with fail
  go_ret
  exact ⟨rfl, Hb1.out⟩
set_option maxHeartbeats 2000000 in
theorem sameH_any (A1 A2 : Option Addr) (len cap1 cap2 : Nat) (hs1 hs2 : List HR) (w : World) (h1 : HdsAt w w.heap.size A1 len hs1) (h2 : HdsAt w w.heap.size A2 len hs2) (he : plainR hs1 = plainR hs2) (hl : len ≤ 3518437208883) (hv : ∀ h ∈ hs1, h.len ≤ 4398046511104) :
    Calls Tryz.prog 34 #[.slice A1 len cap1, .slice A2 len cap2] w fun e w' => e = .returned (.bool true) ∧ Below w.heap.size w w' := by
  have hb0 := beq_self_eq_true (len : Int)
  have He := Lib.hid he
  have Hv := Lib.hid hv
  clear he hv
  go_enter Tryz.func34, Tryz.ntmps34
  go_wp2_with fail
  go_loopw [5] (fun i wr => ∃ k : Nat, k ≤ len ∧ i = .int .i64 k ∧ Below w.heap.size w wr) (fun i _ => len - (RowKit.intOf i).toNat)
  case atStart => exact ⟨0, Nat.zero_le _, rfl, Below.refl _ _⟩
  case round =>
    obtain ⟨k, hk, rfl, hb⟩ := hrel
    have hr := h1.below hb
    have ht := h2.below hb
    have Hb := Lib.hid hb
    have hs := hb.size
    clear hb
    by_cases hlt : k < len
    · obtain ⟨b, off, x, rfl, hbl, hx, x0, x1, xv, -, -⟩ := hr.cell2 hlt
      obtain ⟨b', off', y, rfl, hbl', hy, y0, y1, yv, -, -⟩ := ht.cell2 hlt
      have hxy : x.key = y.key ∧ x.vs = y.vs := by
        have e := congrArg (fun l => l[k]?) He.out
        simp only [plainR, List.getElem?_map, hx, hy, Option.map_some, Option.some.injEq, Prod.mk.injEq] at e
        exact e
      have hxl := Hv.out x (List.mem_of_getElem? hx)
      obtain ⟨xk, xA, xlen, xcap, xvs⟩ := x
      obtain ⟨yk, yA, ylen, ycap, yvs⟩ := y
      simp only at x0 x1 xv y0 y1 yv hxy hxl
      obtain ⟨rfl, rfl⟩ := hxy
      obtain rfl : xlen = ylen := by rw [← xv.len, ← yv.len]
      have k1 : ∀ n : Ext wr, n.X.cell? ⟨b, off + k * 2, none⟩ = some (.string xk) := fun n => (n.h.cell (p := ⟨b, off + k * 2, none⟩) (by show b < _; omega)).trans x0
      have k2 : ∀ n : Ext wr, n.X.cell? ⟨b, off + k * 2 + 1, none⟩ = some (.slice xA xlen xcap) := fun n => (n.h.cell (p := ⟨b, off + k * 2 + 1, none⟩) (by show b < _; omega)).trans x1
      have k3 : ∀ n : Ext wr, n.X.cell? ⟨b', off' + k * 2, none⟩ = some (.string xk) := fun n => (n.h.cell (p := ⟨b', off' + k * 2, none⟩) (by show b' < _; omega)).trans y0
      have k4 : ∀ n : Ext wr, n.X.cell? ⟨b', off' + k * 2 + 1, none⟩ = some (.slice yA xlen ycap) := fun n => (n.h.cell (p := ⟨b', off' + k * 2 + 1, none⟩) (by show b' < _; omega)).trans y1
      have hC := Lib.hid (fun q : Ext wr => Ext.call (sameHd_any xk xA yA xlen xcap ycap xvs q.X (((xv.more hs).below q.h).more q.h.size) (((yv.more hs).below q.h).more q.h.size) hxl))
      have e0 : (0 : Int) ≤ (k : Int) := by omega
      have e1 : (k : Int) < (len : Int) := by omega
      clear hx hy xv yv hr ht x0 x1 y0 y1
      go_wp2_with fail
      refine wp_region_ext (by kernel_rfl) (by kernel_rfl) ?_
      repeat (go_big_quiet_step ((go_at_call 123; exact hC.out _)))
      refine Ext.end_ fun X hX => ?_
      have HX := Lib.hid (Hb.out.trans (hX.mono hs))
      clear k1 k2 k3 k4 hX
      go_wp2_with fail
      exact ⟨⟨k + 1, by omega, by go_num, HX.out⟩, by simp [RowKit.intOf]; omega⟩
    · obtain rfl : k = len := by omega
      go_wp2_with fail
      go_ret
      exact ⟨rfl, Hb.out⟩
end Go.Proofs.YtafghiekpgjniaaGreatDoor

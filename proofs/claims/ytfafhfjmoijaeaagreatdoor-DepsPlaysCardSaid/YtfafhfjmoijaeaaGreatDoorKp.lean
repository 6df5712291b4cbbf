/- deps.Table: what its functions refuse; a table that is not there. -/
import Derived.Test.YtfafhfjmoijaeaaGreatDoorDx
import Derived.Test.YtfafhfjmoijaeaaGreatDoorKt
import Derived.Deep.QuietTactic
import Derived.BigQuiet
namespace Go.Proofs.YtfafhfjmoijaeaaGreatDoor
open Go.RowKit
set_option linter.unusedVariables false
set_option linter.unusedSimpArgs false

open Go.Maps Go.Sort
set_option maxRecDepth 100000
set_option maxHeartbeats 2000000
theorem tdone_arg (t : TB) (d : DT) (n : Int) (w : World) (h : TabAt w t d) (ho : mget d.opn n = none) :
    Calls Tryz.prog 15 #[.pointer (some ⟨t.g, 0, none⟩), .int .i64 n] w fun e w' => e = .returned (.tuple #[.slice none 0 0, .int .i64 1]) ∧ w = w' := by
  obtain ⟨-, c1, -⟩ := h.cells
  have hm := h.opn
  go_enter Tryz.func15, Tryz.ntmps15
  go_wp2_with fail
  refine (gone_any t d _ h).mono ?_
  rintro e w1 ⟨rfl, rfl⟩
  go_wp2_with (at_lookup; refine wpList_lookup_ok_M (κ := Value.int .i64) (ν := Value.int .i64) (b := t.q) (m := d.opn) rfl _ _ rfl hm kint Tryz.underlying29 zint n rfl rfl ?_; rw [int_or, ho])
  go_ret2
  exact ⟨rfl, rfl⟩
theorem tdone_order (t : TB) (d : DT) (n c : Int) (w : World) (h : TabAt w t d) (ho : mget d.opn n = some c) (hc : 0 < c) :
    Calls Tryz.prog 15 #[.pointer (some ⟨t.g, 0, none⟩), .int .i64 n] w fun e w' => e = .returned (.tuple #[.slice none 0 0, .int .i64 6]) ∧ w = w' := by
  obtain ⟨-, c1, -⟩ := h.cells
  have hm := h.opn
  go_enter Tryz.func15, Tryz.ntmps15
  go_wp2_with fail
  refine (gone_any t d _ h).mono ?_
  rintro e w1 ⟨rfl, rfl⟩
  go_wp2_with (at_lookup; refine wpList_lookup_ok_M (κ := Value.int .i64) (ν := Value.int .i64) (b := t.q) (m := d.opn) rfl _ _ rfl hm kint Tryz.underlying29 zint n rfl rfl ?_; rw [int_or, ho])
  go_ret2
  exact ⟨rfl, rfl⟩
theorem twaits_arg (t : TB) (d : DT) (n : Int) (w : World) (h : TabAt w t d) (ho : mget d.opn n = none) :
    Calls Tryz.prog 19 #[.pointer (some ⟨t.g, 0, none⟩), .int .i64 n] w fun e w' => e = .returned (.tuple #[.slice none 0 0, .int .i64 1]) ∧ w = w' := by
  obtain ⟨-, c1, -⟩ := h.cells
  have hm := h.opn
  go_enter Tryz.func19, Tryz.ntmps19
  go_wp2_with fail
  refine (gone_any t d _ h).mono ?_
  rintro e w1 ⟨rfl, rfl⟩
  go_wp2_with (at_lookup; refine wpList_lookup_ok_M (κ := Value.int .i64) (ν := Value.int .i64) (b := t.q) (m := d.opn) rfl _ _ rfl hm kint Tryz.underlying29 zint n rfl rfl ?_; rw [int_or, ho])
  go_ret2
  exact ⟨rfl, rfl⟩
theorem tadd_bad (t : TB) (d : DT) (n : Int) (A : Option Addr) (len cap : Nat) (ws : List Wr) (w : World) (h : TabAt w t d) (hws : WsAt w w.heap.size A len ws) (hb : txB n ws = false) (hl : len ≤ 9223372036854775807) :
    Calls Tryz.prog 11 #[.pointer (some ⟨t.g, 0, none⟩), .agg #[.int .i64 n, .slice A len cap]] w fun e w' => e = .returned (.tuple #[.int .i64 0, .int .i64 1]) ∧ Below w.heap.size w w' := by
  obtain ⟨W1, hW1⟩ : ∃ W1 : World, W1 = w.alloc (.cells #[.int .i64 n, .slice A len cap] 50) := ⟨_, rfl⟩
  have hT1 : TabAt W1 t d := by rw [hW1]; exact h.alloc _
  have hB1 : Below w.heap.size w W1 := by rw [hW1]; exact (Below.refl _ _).alloc (Nat.le_refl _) _
  have hz : W1.heap.size = w.heap.size + 1 := by rw [hW1]; simp
  have hblk : W1.heap[w.heap.size]? = some (.cells #[.int .i64 n, .slice A len cap] 50 (0, 0)) := by rw [hW1]; exact blk_new _ _
  have x0 := blk_cell hblk 0
  have x1 := blk_cell hblk 1
  have HC := Lib.hid (check_any n A len cap ws W1 ((hws.below hB1).more hB1.size) hl)
  rw [hb] at HC
  have HB1 := Lib.hid hB1
  have Hz := Lib.hid hz
  clear hws hl hB1 hz
  go_enter Tryz.func11, Tryz.ntmps11
  go_wp2_with fail
  rw [← hW1]
  refine (gone_any t d _ hT1).mono ?_
  rintro e w1 ⟨rfl, rfl⟩
  clear hW1
  go_wp2_with fail
  refine HC.out.mono ?_
  rintro e w2 ⟨rfl, hb2⟩
  have e0 : errOf false = 1 := rfl
  rw [e0]
  have HB2 := Lib.hid (HB1.out.trans (hb2.mono (by have := Hz.out; omega)))
  clear hb2
  go_wp2_with fail
  go_ret2
  exact ⟨rfl, HB2.out⟩
theorem tadd_order (t : TB) (d : DT) (n : Int) (A : Option Addr) (len cap : Nat) (ws : List Wr) (w : World) (h : TabAt w t d) (hws : WsAt w w.heap.size A len ws) (hb : txB n ws = true) (hl : len ≤ 9223372036854775807) (hn : n ≤ d.top) :
    Calls Tryz.prog 11 #[.pointer (some ⟨t.g, 0, none⟩), .agg #[.int .i64 n, .slice A len cap]] w fun e w' => e = .returned (.tuple #[.int .i64 0, .int .i64 6]) ∧ Below w.heap.size w w' := by
  obtain ⟨W1, hW1⟩ : ∃ W1 : World, W1 = w.alloc (.cells #[.int .i64 n, .slice A len cap] 50) := ⟨_, rfl⟩
  have hT1 : TabAt W1 t d := by rw [hW1]; exact h.alloc _
  have hB1 : Below w.heap.size w W1 := by rw [hW1]; exact (Below.refl _ _).alloc (Nat.le_refl _) _
  have hz : W1.heap.size = w.heap.size + 1 := by rw [hW1]; simp
  have hblk : W1.heap[w.heap.size]? = some (.cells #[.int .i64 n, .slice A len cap] 50 (0, 0)) := by rw [hW1]; exact blk_new _ _
  have x0 := blk_cell hblk 0
  have x1 := blk_cell hblk 1
  have HC := Lib.hid (check_any n A len cap ws W1 ((hws.below hB1).more hB1.size) hl)
  rw [hb] at HC
  have HB1 := Lib.hid hB1
  have Hz := Lib.hid hz
  have Hblk := Lib.hid hblk
  clear hws hl hB1 hblk
  go_enter Tryz.func11, Tryz.ntmps11
  go_wp2_with fail
  rw [← hW1]
  refine (gone_any t d _ hT1).mono ?_
  rintro e w1 ⟨rfl, rfl⟩
  clear hW1
  go_wp2_with fail
  refine HC.out.mono ?_
  rintro e w2 ⟨rfl, hb2⟩
  have e0 : errOf true = 0 := rfl
  rw [e0]
  have HT2 := Lib.hid (hT1.below hb2)
  have hk := (hb2.block _ (by omega)).trans Hblk.out
  have y0 := blk_cell hk 0
  obtain ⟨-, -, -, c3⟩ := HT2.out.cells
  have HB2 := Lib.hid (HB1.out.trans (hb2.mono (by have := Hz.out; omega)))
  have hle : decide (n ≤ d.top) = true := decide_eq_true hn
  clear hb2 x0 x1 hk hT1
  go_wp2_with fail
  go_quiet (fail)
  go_wp2_with fail
  go_ret2
  exact ⟨rfl, bel_drewN HB2.out _⟩
/-- A table that no call made. -/
def ZeroT (w : World) (g : Nat) : Prop := w.heap[g]? = some (.cells #[.map none, .map none, .map none, .int .i64 0] 32 (0, 0))
theorem zgone_any (g : Nat) (w : World) (h : ZeroT w g) : Calls Tryz.prog 60 #[.pointer (some ⟨g, 0, none⟩)] w fun e w' => e = .returned (.bool true) ∧ w = w' := by
  have c0 := blk_cell h 0
  have he := eqmap_none
  go_enter Tryz.func60, Tryz.ntmps60
  go_wp2_with fail
  go_ret
  exact ⟨rfl, rfl⟩
theorem zadd_any (g : Nat) (w : World) (h : ZeroT w g) (n : Int) (A : Option Addr) (len cap : Nat) : Calls Tryz.prog 11 #[.pointer (some ⟨g, 0, none⟩), .agg #[.int .i64 n, .slice A len cap]] w fun e w' => e = .returned (.tuple #[.int .i64 0, .int .i64 2]) ∧ Below w.heap.size w w' := by
  have hB : ∀ o, Below w.heap.size w (w.alloc o) := fun o => (Below.refl _ _).alloc (Nat.le_refl _) _
  have hz : ∀ o, ZeroT (w.alloc o) g := fun o => ((hB o).block _ (blk_lt h)).trans h
  have HB := Lib.hid hB
  clear hB h
  go_enter Tryz.func11, Tryz.ntmps11
  go_wp2_with fail
  refine (zgone_any g _ (hz _)).mono ?_
  rintro e w1 ⟨rfl, rfl⟩
  go_wp2_with fail
  go_ret2
  exact ⟨rfl, HB.out _⟩
theorem zdone_any (g : Nat) (w : World) (h : ZeroT w g) (n : Int) : Calls Tryz.prog 15 #[.pointer (some ⟨g, 0, none⟩), .int .i64 n] w fun e w' => e = .returned (.tuple #[.slice none 0 0, .int .i64 2]) ∧ w = w' := by
  go_enter Tryz.func15, Tryz.ntmps15
  go_wp2_with fail
  refine (zgone_any g _ h).mono ?_
  rintro e w1 ⟨rfl, rfl⟩
  go_wp2_with fail
  go_ret2
  exact ⟨rfl, rfl⟩
theorem zwaits_any (g : Nat) (w : World) (h : ZeroT w g) (n : Int) : Calls Tryz.prog 19 #[.pointer (some ⟨g, 0, none⟩), .int .i64 n] w fun e w' => e = .returned (.tuple #[.slice none 0 0, .int .i64 2]) ∧ w = w' := by
  go_enter Tryz.func19, Tryz.ntmps19
  go_wp2_with fail
  refine (zgone_any g _ h).mono ?_
  rintro e w1 ⟨rfl, rfl⟩
  go_wp2_with fail
  go_ret2
  exact ⟨rfl, rfl⟩
theorem zopen_any (g : Nat) (w : World) (h : ZeroT w g) : Calls Tryz.prog 23 #[.pointer (some ⟨g, 0, none⟩)] w fun e w' => e = .returned (.slice none 0 0) ∧ w = w' := by
  go_enter Tryz.func23, Tryz.ntmps23
  go_wp2_with fail
  refine (zgone_any g _ h).mono ?_
  rintro e w1 ⟨rfl, rfl⟩
  go_wp2_with fail
  go_ret
  exact ⟨rfl, rfl⟩
theorem zlast_any (g : Nat) (w : World) (h : ZeroT w g) (k : ByteArray) : Calls Tryz.prog 21 #[.pointer (some ⟨g, 0, none⟩), .string k] w fun e w' => e = .returned (.int .i64 0) ∧ w = w' := by
  go_enter Tryz.func21, Tryz.ntmps21
  go_wp2_with fail
  refine (zgone_any g _ h).mono ?_
  rintro e w1 ⟨rfl, rfl⟩
  go_wp2_with fail
  go_ret
  exact ⟨rfl, rfl⟩
end Go.Proofs.YtfafhfjmoijaeaaGreatDoor

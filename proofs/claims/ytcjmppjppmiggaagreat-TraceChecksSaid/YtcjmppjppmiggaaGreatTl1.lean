/- towpathlaw21: one transaction, one lane. -/
import Derived.Test.YtcjmppjppmiggaaGreatMD
import Derived.Deep.QuietTactic
import Derived.BigQuiet
namespace Go.Proofs.YtcjmppjppmiggaaGreat
open Go.RowKit
set_option linter.unusedVariables false
set_option linter.unusedSimpArgs false

set_option maxRecDepth 100000
def lvC : Cfg := ⟨1, 1, 4, 1⟩
def lvR (A : Option Addr) (n c : Nat) : List RTx := [⟨1, A, n, c, [⟨⟨#[97]⟩, ⟨#[49]⟩, false⟩]⟩]
def lvE : List Ev := [⟨0, 1, 1, 0, 0, 0⟩, ⟨0, 3, 1, 0, 0, 0⟩, ⟨1, 4, 1, 0, 0, 0⟩, ⟨1, 5, 1, 0, 0, 0⟩, ⟨2, 7, 1, 0, 0, 0⟩, ⟨1, 6, 1, 0, 0, 0⟩, ⟨3, 8, 1, 0, 1, 1⟩]
theorem lv_all (A : Option Addr) (n c : Nat) : checkR lvC (lvR A n c) 0 [] lvE = (7, 0) := by kernel_rfl
theorem lv_tail (A : Option Addr) (n c : Nat) : checkR lvC (lvR A n c) 0 [] (lvE.drop 1) = (0, 14) := by kernel_rfl
set_option maxHeartbeats 2000000 in
theorem lives21_any (w : World) : Calls Tryz.prog 12 #[] w fun e w' => e = .returned (.bool true) ∧ Below w.heap.size w w' := by
  obtain ⟨W1, hW1⟩ : ∃ W1, W1 = (((w.alloc (.cells #[.int .i64 1, .int .i64 1, .int .i64 4, .int .i64 1] 23)).alloc (.cells #[.string ⟨#[97]⟩, .string ⟨#[49]⟩, .bool false] 85)).alloc (.cells #[.int .i64 1, .slice (some ⟨w.heap.size + 1, 0, none⟩) 1 1] 45)).alloc (.cells #[.int .i64 0, .int .u8 1, .int .i64 1, .int .i64 0, .int .i64 0, .int .i64 0, .int .i64 0, .int .u8 3, .int .i64 1, .int .i64 0, .int .i64 0, .int .i64 0, .int .i64 1, .int .u8 4, .int .i64 1, .int .i64 0, .int .i64 0, .int .i64 0, .int .i64 1, .int .u8 5, .int .i64 1, .int .i64 0, .int .i64 0, .int .i64 0, .int .i64 2, .int .u8 7, .int .i64 1, .int .i64 0, .int .i64 0, .int .i64 0, .int .i64 1, .int .u8 6, .int .i64 1, .int .i64 0, .int .i64 0, .int .i64 0, .int .i64 3, .int .u8 8, .int .i64 1, .int .i64 0, .int .i64 1, .int .i64 1] 51) := ⟨_, rfl⟩
  have hb1 : Below w.heap.size w W1 := hW1 ▸ bel_alloc (bel_alloc (bel_alloc (bel_alloc (Below.refl _ _) _) _) _) _
  have hz : W1.heap.size = w.heap.size + 4 := by rw [hW1]; simp
  have g0 : W1.heap[w.heap.size]? = some (.cells #[.int .i64 1, .int .i64 1, .int .i64 4, .int .i64 1] 23 (0, 0)) := by rw [hW1, Below.heap_alloc _ _ _ (by simp <;> omega), Below.heap_alloc _ _ _ (by simp <;> omega), Below.heap_alloc _ _ _ (by simp)]; exact blk_new _ _
  have g1 : W1.heap[w.heap.size + 1]? = some (.cells #[.string ⟨#[97]⟩, .string ⟨#[49]⟩, .bool false] 85 (0, 0)) := by
    rw [hW1, Below.heap_alloc _ _ _ (by simp <;> omega), Below.heap_alloc _ _ _ (by simp)]
    have := blk_new (w.alloc (.cells #[.int .i64 1, .int .i64 1, .int .i64 4, .int .i64 1] 23)) (.cells #[.string ⟨#[97]⟩, .string ⟨#[49]⟩, .bool false] 85); simpa using this
  have g2 : W1.heap[w.heap.size + 1 + 1]? = some (.cells #[.int .i64 1, .slice (some ⟨w.heap.size + 1, 0, none⟩) 1 1] 45 (0, 0)) := by
    rw [hW1, Below.heap_alloc _ _ _ (by simp)]
    have := blk_new ((w.alloc (.cells #[.int .i64 1, .int .i64 1, .int .i64 4, .int .i64 1] 23)).alloc (.cells #[.string ⟨#[97]⟩, .string ⟨#[49]⟩, .bool false] 85)) (.cells #[.int .i64 1, .slice (some ⟨w.heap.size + 1, 0, none⟩) 1 1] 45); simpa using this
  have g3 : W1.heap[w.heap.size + 1 + 1 + 1]? = some (.cells #[.int .i64 0, .int .u8 1, .int .i64 1, .int .i64 0, .int .i64 0, .int .i64 0, .int .i64 0, .int .u8 3, .int .i64 1, .int .i64 0, .int .i64 0, .int .i64 0, .int .i64 1, .int .u8 4, .int .i64 1, .int .i64 0, .int .i64 0, .int .i64 0, .int .i64 1, .int .u8 5, .int .i64 1, .int .i64 0, .int .i64 0, .int .i64 0, .int .i64 2, .int .u8 7, .int .i64 1, .int .i64 0, .int .i64 0, .int .i64 0, .int .i64 1, .int .u8 6, .int .i64 1, .int .i64 0, .int .i64 0, .int .i64 0, .int .i64 3, .int .u8 8, .int .i64 1, .int .i64 0, .int .i64 1, .int .i64 1] 51 (0, 0)) := by
    rw [hW1]
    have := blk_new (((w.alloc (.cells #[.int .i64 1, .int .i64 1, .int .i64 4, .int .i64 1] 23)).alloc (.cells #[.string ⟨#[97]⟩, .string ⟨#[49]⟩, .bool false] 85)).alloc (.cells #[.int .i64 1, .slice (some ⟨w.heap.size + 1, 0, none⟩) 1 1] 45)) (.cells #[.int .i64 0, .int .u8 1, .int .i64 1, .int .i64 0, .int .i64 0, .int .i64 0, .int .i64 0, .int .u8 3, .int .i64 1, .int .i64 0, .int .i64 0, .int .i64 0, .int .i64 1, .int .u8 4, .int .i64 1, .int .i64 0, .int .i64 0, .int .i64 0, .int .i64 1, .int .u8 5, .int .i64 1, .int .i64 0, .int .i64 0, .int .i64 0, .int .i64 2, .int .u8 7, .int .i64 1, .int .i64 0, .int .i64 0, .int .i64 0, .int .i64 1, .int .u8 6, .int .i64 1, .int .i64 0, .int .i64 0, .int .i64 0, .int .i64 3, .int .u8 8, .int .i64 1, .int .i64 0, .int .i64 1, .int .i64 1] 51); simpa using this
  have hws : WsAt W1 W1.heap.size (some ⟨w.heap.size + 1, 0, none⟩) 1 [⟨⟨#[97]⟩, ⟨#[49]⟩, false⟩] := rowAt_block _ (len_wr _) g1 (blk_lt g1) (fun j u hu => by rw [List.getElem?_toArray]; exact hu)
  have hl : TxsAt W1 W1.heap.size (some ⟨w.heap.size + 1 + 1, 0, none⟩) 1 (lvR (some ⟨w.heap.size + 1, 0, none⟩) 1 1) := ⟨rowAt_block _ (fun _ _ => rfl) g2 (blk_lt g2) (fun j u hu => by rw [List.getElem?_toArray]; exact hu), fun r hr => by simp [lvR] at hr; subst hr; exact ⟨hws, by simp⟩⟩
  have he : EsAt W1 W1.heap.size (some ⟨w.heap.size + 1 + 1 + 1, 0, none⟩) 7 lvE := rowAt_block _ (fun _ _ => rfl) g3 (blk_lt g3) (fun j u hu => by rw [List.getElem?_toArray]; exact hu)
  have hc : ∀ r ∈ lvR (some ⟨w.heap.size + 1, 0, none⟩) 1 1, r.len ≤ r.cap := fun r hr => by simp [lvR] at hr; subst hr; simp
  have C1 := Lib.hid (tcheck_any lvC _ _ 1 1 0 none 0 0 [] none 0 0 _ 7 7 lvE W1 hl RowAt.nil_ he (fun _ => rfl) hc (by omega) (by omega) (by omega))
  rw [lv_all] at C1
  have HL := Lib.hid hl
  have HE := Lib.hid he
  have HC := Lib.hid hc
  have HB1 := Lib.hid hb1
  have HG0 := Lib.hid g0
  have HW1 := Lib.hid hW1
  clear hb1 hz g0 g1 g2 g3 hws hl he hc hW1
  go_enter Tryz.func12, Tryz.ntmps12
  go_wp2_with fail
  rw [← HW1.out]
  refine C1.out.mono ?_
  rintro e w2 ⟨rfl, hb2⟩
  have HB2 := Lib.hid (HB1.out.trans (hb2.mono HB1.out.size))
  have HL2 := Lib.hid (HL.out.below hb2)
  have HE2 := Lib.hid (HE.out.below hb2)
  have HG2 := Lib.hid ((hb2.block _ (blk_lt HG0.out)).trans HG0.out)
  have HS2 : Hid (W1.heap.size ≤ w2.heap.size) := Lib.hid hb2.size
  have k0 : ∀ n : Ext w2, n.X.cell? ⟨w.heap.size, 0, none⟩ = some (.int .i64 1) := fun n => (n.h.cell (p := ⟨w.heap.size, 0, none⟩) (blk_lt HG2.out)).trans (blk_cell HG2.out 0)
  have k1 : ∀ n : Ext w2, n.X.cell? ⟨w.heap.size, 1, none⟩ = some (.int .i64 1) := fun n => (n.h.cell (p := ⟨w.heap.size, 1, none⟩) (blk_lt HG2.out)).trans (blk_cell HG2.out 1)
  have k2 : ∀ n : Ext w2, n.X.cell? ⟨w.heap.size, 2, none⟩ = some (.int .i64 4) := fun n => (n.h.cell (p := ⟨w.heap.size, 2, none⟩) (blk_lt HG2.out)).trans (blk_cell HG2.out 2)
  have k3 : ∀ n : Ext w2, n.X.cell? ⟨w.heap.size, 3, none⟩ = some (.int .i64 1) := fun n => (n.h.cell (p := ⟨w.heap.size, 3, none⟩) (blk_lt HG2.out)).trans (blk_cell HG2.out 3)
  have C2 := Lib.hid (fun n : Ext w2 => Ext.call (by
    have := tcheck_any lvC _ _ 1 1 0 none 0 0 [] none 0 0 _ 6 6 (lvE.drop 1) n.X ((HL2.out.more HS2.out).below n.h |>.more n.h.size) RowAt.nil_ ((((HE2.out.drop_ (k := 1) (by omega)).more HS2.out).below n.h).more n.h.size) (fun _ => rfl) HC.out (by omega) (by omega) (by omega)
    rw [lv_tail] at this
    exact this))
  clear hb2
  go_wp2_with fail
  refine wp_region_ext (by kernel_rfl) (by kernel_rfl) ?_
  repeat (go_big_quiet_step ((go_at_call 7; exact C2.out _)))
  refine Ext.end_ fun X hX => ?_
  have HX := Lib.hid (HB2.out.trans (hX.mono HB2.out.size))
  clear hX k0 k1 k2 k3
  go_wp2_with fail
  go_ret
  exact ⟨rfl, HX.out⟩
end Go.Proofs.YtcjmppjppmiggaaGreat

/- owner: Serve where nothing waits. -/
import Derived.Test.YtafghiekpgjniaaGreatDoorPX
import Derived.Test.YtafghiekpgjniaaGreatDoorOR
namespace Go.Proofs.YtafghiekpgjniaaGreatDoor
open Go.RowKit
set_option linter.unusedVariables false
set_option linter.unusedSimpArgs false

set_option maxRecDepth 100000
set_option maxHeartbeats 4000000 in
theorem rtake_none2 (p b cap first : Nat) (w : World) (h : RingAt w p b cap first []) :
    Calls Tryz.prog 129 #[.pointer (some ⟨p, 0, none⟩)] w fun e w' => e = .returned (.tuple #[zeroRq.val, .bool false]) ∧ Below w.heap.size w w' := by
  have H := Lib.hid h
  have hg : ∀ X, Below w.heap.size w X → Calls Tryz.prog 194 #[.pointer (some ⟨p, 0, none⟩)] X fun e w' => e = .returned (.tuple #[zeroRq.val, .bool false]) ∧ Below X.heap.size X w' := fun X hX => rfirst_none p _ cap first X (H.out.below hX).rg
  have Hg := Lib.hid hg
  clear h hg
  unfold Rq.val at Hg
  go_enter Tryz.func129, Tryz.ntmps129
  go_wp2_with fail
  obtain ⟨W, hW⟩ : ∃ W, W = w.alloc (.cells zeroRq.cells.toArray 98) := ⟨_, rfl⟩
  change Calls _ _ _ (w.alloc (.cells zeroRq.cells.toArray 98)) _
  rw [← hW]
  have hB : Below w.heap.size w W := hW ▸ bel_alloc (Below.refl _ _) _
  have hnew : W.heap[w.heap.size]? = some (.cells zeroRq.cells.toArray 98 (0, 0)) := hW ▸ blk_new _ _
  have HB := Lib.hid hB
  have HN := Lib.hid hnew
  clear hW hB hnew
  refine (Hg.out _ HB.out).mono ?_
  rintro e w1 ⟨rfl, hb1⟩
  have HB1 : Hid (Below w.heap.size w w1) := Lib.hid (HB.out.trans (hb1.mono HB.out.size))
  have HN1 : Hid (w1.heap[w.heap.size]? = some (.cells zeroRq.cells.toArray 98 (0, 0))) := Lib.hid ((hb1.block _ (blk_lt HN.out)).trans HN.out)
  clear hb1 HB HN
  go_upto_region 7 with (with_reducible refine wpList_store_row rfl 98 _ _ rfl w.heap.size zeroRq.cells.toArray rfl rfl 98 _ HN1.out rfl rfl (rq_one zeroRq) ?_)
  have HB7 : Hid (Below w.heap.size w (w1.setRow w.heap.size zeroRq.cells.toArray)) := Lib.hid (below_setRow HB1.out (Nat.le_refl _) _)
  have HN7 : Hid ((w1.setRow w.heap.size zeroRq.cells.toArray).heap[w.heap.size]? = some (.cells zeroRq.cells.toArray 98 (0, 0))) := Lib.hid (setRow_heap w1 w.heap.size _ _ 98 (0, 0) HN1.out)
  clear HB1 HN1
  generalize w1.setRow w.heap.size zeroRq.cells.toArray = W7 at HB7 HN7 ⊢
  go_wp2_with (with_reducible first | refine wpList_load_row rfl 98 _ rfl w.heap.size rfl 98 zeroRq.cells.toArray (0, 0) _ HN7.out Tryz.underlying98 rfl (by kernel_rfl) ?_ | refine wpList_store_row rfl 98 _ _ rfl w.heap.size zeroRq.cells.toArray rfl rfl 98 _ HN7.out rfl rfl (rq_one zeroRq) ?_)
  have HN8 : Hid ((W7.setRow w.heap.size zeroRq.cells.toArray).heap[w.heap.size]? = some (.cells zeroRq.cells.toArray 98 (0, 0))) := Lib.hid (setRow_heap W7 w.heap.size _ _ 98 (0, 0) HN7.out)
  exact bodyPost_ret (results_ct_row rfl _ _ w.heap.size _ _ _ _ rfl HN8.out Tryz.underlying98 rfl (by kernel_rfl)) rfl ⟨rfl, below_setRow HB7.out (Nat.le_refl _) _⟩
set_option maxHeartbeats 4000000 in
theorem oserve_none (o : OB) (first : Nat) (L : Hs) (w : World) (h : OwAt w o first L []) :
    Calls Tryz.prog 39 #[.pointer (some ⟨o.g, 0, none⟩)] w fun e w' => e = .returned (.tuple #[.agg respZ, .int .i64 9]) ∧ Below w.heap.size w w' := by
  have H := Lib.hid h
  have hth : ∀ X, Below w.heap.size w X → Calls Tryz.prog 125 #[.pointer (some ⟨o.g, 0, none⟩)] X fun e w' => e = .returned (.bool true) ∧ w' = X := fun X hX => othere_any o first L _ X (h.below hX)
  have Hth := Lib.hid hth
  clear h hth
  go_enter Tryz.func39, Tryz.ntmps39
  go_wp2_with fail
  obtain ⟨W1, hW⟩ : ∃ W1, W1 = w.alloc (.cells respZ 105) := ⟨_, rfl⟩
  change Calls _ _ _ (w.alloc (.cells respZ 105)) _
  rw [← hW]
  have HB1 : Hid (Below w.heap.size w W1) := Lib.hid (hW ▸ bel_alloc (Below.refl _ _) _)
  have HZ1 : Hid (W1.heap[w.heap.size]? = some (.cells respZ 105 (0, 0))) := Lib.hid (hW ▸ blk_new _ _)
  have HO1 := Lib.hid (H.out.below HB1.out)
  clear hW
  refine (Hth.out _ HB1.out).mono ?_
  rintro e w1 ⟨rfl, rfl⟩
  have c1 := HO1.out.c1
  go_wp2_with fail
  refine (rtake_none2 o.p o.b o.cap first w1 HO1.out.rg).mono ?_
  rintro e w2 ⟨rfl, hb2⟩
  have HB2 : Hid (Below w.heap.size w w2) := Lib.hid (HB1.out.trans (hb2.mono HB1.out.size))
  have HZ2 : Hid (w2.heap[w.heap.size]? = some (.cells respZ 105 (0, 0))) := Lib.hid ((hb2.block _ (blk_lt HZ1.out)).trans HZ1.out)
  clear hb2
  unfold Rq.val zeroRq
  have hzl : (w2.alloc (.cells #[.int .u8 0, .int .i64 0, .int .i64 0, .string ⟨#[]⟩, .string ⟨#[]⟩, .bool false, .string ⟨#[]⟩, .string ⟨#[]⟩, .slice none 0 0] 98)).heap[w2.heap.size]? = some (.cells #[.int .u8 0, .int .i64 0, .int .i64 0, .string ⟨#[]⟩, .string ⟨#[]⟩, .bool false, .string ⟨#[]⟩, .string ⟨#[]⟩, .slice none 0 0] 98 (0, 0)) := blk_new _ _
  have Hzl := Lib.hid hzl
  clear hzl
  have hlt2 := blk_lt HZ2.out
  go_upto_region 4 with (with_reducible refine wpList_store_row rfl 98 _ _ rfl w2.heap.size zeroRq.cells.toArray rfl rfl 98 _ Hzl.out rfl rfl (rq_one zeroRq) ?_)
  have HB3 : Hid (Below w.heap.size w ((w2.alloc (.cells #[.int .u8 0, .int .i64 0, .int .i64 0, .string ⟨#[]⟩, .string ⟨#[]⟩, .bool false, .string ⟨#[]⟩, .string ⟨#[]⟩, .slice none 0 0] 98)).setRow w2.heap.size zeroRq.cells.toArray)) := Lib.hid (below_setRow (bel_alloc HB2.out _) HB2.out.size _)
  have HZ3 : Hid (((w2.alloc (.cells #[.int .u8 0, .int .i64 0, .int .i64 0, .string ⟨#[]⟩, .string ⟨#[]⟩, .bool false, .string ⟨#[]⟩, .string ⟨#[]⟩, .slice none 0 0] 98)).setRow w2.heap.size zeroRq.cells.toArray).heap[w.heap.size]? = some (.cells respZ 105 (0, 0))) := Lib.hid ((setRow_other _ _ _ _ (by omega)).trans ((Below.heap_alloc _ _ _ hlt2).trans HZ2.out))
  generalize (w2.alloc (.cells #[.int .u8 0, .int .i64 0, .int .i64 0, .string ⟨#[]⟩, .string ⟨#[]⟩, .bool false, .string ⟨#[]⟩, .string ⟨#[]⟩, .slice none 0 0] 98)).setRow w2.heap.size zeroRq.cells.toArray = W3 at HB3 HZ3 ⊢
  go_wp2_with (with_reducible refine wpList_store_row rfl 105 _ _ rfl w.heap.size #[.int .i64 0, .bool false, .slice none 0 0, .slice none 0 0, .int .i64 0] rfl rfl 105 _ HZ3.out (resp_info _ _ _ _ _) rfl (resp_one _ _ _ _ _ _ _ _ _) ?_)
  have HZ8 := setRow_heap W3 w.heap.size _ #[.int .i64 0, .bool false, .slice none 0 0, .slice none 0 0, .int .i64 0] 105 (0, 0) HZ3.out
  exact bodyPost_ret (results_ct_row rfl _ _ w.heap.size _ _ _ _ rfl HZ8 Tryz.underlying105 rfl (resp_info _ _ _ _ _)) rfl ⟨rfl, below_setRow HB3.out (Nat.le_refl _) _⟩
end Go.Proofs.YtafghiekpgjniaaGreatDoor

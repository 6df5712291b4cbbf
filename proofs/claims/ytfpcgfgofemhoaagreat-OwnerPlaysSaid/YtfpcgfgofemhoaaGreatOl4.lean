/- towpathlaw01: SameEntries and SameResp of what reads the same. -/
import Derived.Test.YtfpcgfgofemhoaaGreatOl0
import Derived.Test.YtfpcgfgofemhoaaGreatSl1
namespace Go.Proofs.YtfpcgfgofemhoaaGreat
open Go.RowKit
set_option linter.unusedVariables false
set_option linter.unusedSimpArgs false

set_option maxRecDepth 100000
set_option maxHeartbeats 2000000 in
theorem sameR_any (tt : Int) (ok : Bool) (d : Int) (A1 A2 A3 A4 : Option Addr) (n m c1 c2 c3 c4 : Nat) (es : List (ByteArray × ByteArray)) (hs1 hs2 : List HR) (w : World) (h1 : RowAt EnC 2 w w.heap.size A1 n es) (h2 : RowAt EnC 2 w w.heap.size A2 n es) (hl : n ≤ 4398046511104)
    (h3 : HdsAt w w.heap.size A3 m hs1) (h4 : HdsAt w w.heap.size A4 m hs2) (he : plainR hs1 = plainR hs2) (hm : m ≤ 3518437208883) (hv : ∀ h ∈ hs1, h.len ≤ 4398046511104) :
    Calls Tryz.prog 15 #[.agg #[.int .i64 tt, .bool ok, .slice A1 n c1, .slice A3 m c3, .int .i64 d], .agg #[.int .i64 tt, .bool ok, .slice A2 n c2, .slice A4 m c4, .int .i64 d]] w fun e w' => e = .returned (.bool true) ∧ Below w.heap.size w w' := by
  have hE : ∀ X, Below w.heap.size w X → Calls Tryz.prog 40 #[.slice A1 n c1, .slice A2 n c2] X fun e w' => e = .returned (.bool true) ∧ Below X.heap.size X w' := fun X hX => sameE_any A1 n c1 A2 c2 es X ((h1.below hX).more hX.size) ((h2.below hX).more hX.size) (by omega)
  have hH : ∀ X, Below w.heap.size w X → Calls Tryz.prog 24 #[.slice A3 m c3, .slice A4 m c4] X fun e w' => e = .returned (.bool true) ∧ Below X.heap.size X w' := fun X hX => sameH_any A3 A4 m c3 c4 hs1 hs2 X ((h3.below hX).more hX.size) ((h4.below hX).more hX.size) he hm hv
  have HE := Lib.hid hE
  have HH := Lib.hid hH
  clear hE hH h1 h2 h3 h4 he
  go_enter Tryz.func15, Tryz.ntmps15
  go_upto_region 1 with fail
  obtain ⟨W, hW⟩ : ∃ W, W = (w.alloc (.cells #[.int .i64 tt, .bool ok, .slice A1 n c1, .slice A3 m c3, .int .i64 d] 56)).alloc (.cells #[.int .i64 tt, .bool ok, .slice A2 n c2, .slice A4 m c4, .int .i64 d] 56) := ⟨_, rfl⟩
  rw [← hW]
  have HB : Hid (Below w.heap.size w W) := Lib.hid (hW ▸ bel_alloc (bel_alloc (Below.refl _ _) _) _)
  have hn1 : W.heap[w.heap.size]? = some (.cells #[.int .i64 tt, .bool ok, .slice A1 n c1, .slice A3 m c3, .int .i64 d] 56 (0, 0)) := by
    rw [hW]; exact (Below.heap_alloc _ _ _ (by simp)).trans (blk_new _ _)
  have hn2 : W.heap[w.heap.size + 1]? = some (.cells #[.int .i64 tt, .bool ok, .slice A2 n c2, .slice A4 m c4, .int .i64 d] 56 (0, 0)) := by
    rw [hW]; exact blk_new2 _ _ _
  have hk : ∀ X, Below W.heap.size W X → X.cell? ⟨w.heap.size, 0, none⟩ = some (.int .i64 tt) ∧ X.cell? ⟨w.heap.size, 1, none⟩ = some (.bool ok) ∧ X.cell? ⟨w.heap.size, 2, none⟩ = some (.slice A1 n c1) ∧ X.cell? ⟨w.heap.size, 3, none⟩ = some (.slice A3 m c3) ∧ X.cell? ⟨w.heap.size, 4, none⟩ = some (.int .i64 d) ∧
      X.cell? ⟨w.heap.size + 1, 0, none⟩ = some (.int .i64 tt) ∧ X.cell? ⟨w.heap.size + 1, 1, none⟩ = some (.bool ok) ∧ X.cell? ⟨w.heap.size + 1, 2, none⟩ = some (.slice A2 n c2) ∧ X.cell? ⟨w.heap.size + 1, 3, none⟩ = some (.slice A4 m c4) ∧ X.cell? ⟨w.heap.size + 1, 4, none⟩ = some (.int .i64 d) := fun X hX => by
    have m1 := (hX.block _ (blk_lt hn1)).trans hn1
    have m2 := (hX.block _ (blk_lt hn2)).trans hn2
    exact ⟨blk_cell m1 0, blk_cell m1 1, blk_cell m1 2, blk_cell m1 3, blk_cell m1 4, blk_cell m2 0, blk_cell m2 1, blk_cell m2 2, blk_cell m2 3, blk_cell m2 4⟩
  have HK := Lib.hid hk
  clear hW hn1 hn2 hk
  obtain ⟨a0, a1, a2, a3, a4, b0, b1, b2, b3, b4⟩ := HK.out W (Below.refl _ _)
  go_wp2_with fail
  refine (HE.out W HB.out).mono ?_
  rintro e w2 ⟨rfl, hb2⟩
  have HB2 := Lib.hid (HB.out.trans (hb2.mono HB.out.size))
  have HC2 := Lib.hid hb2
  clear hb2 a0 a1 a2 a3 a4 b0 b1 b2 b3 b4
  obtain ⟨a0, a1, a2, a3, a4, b0, b1, b2, b3, b4⟩ := HK.out w2 HC2.out
  go_wp2_with fail
  refine (HH.out w2 HB2.out).mono ?_
  rintro e w3 ⟨rfl, hb3⟩
  have HB3 := Lib.hid (HB2.out.trans (hb3.mono HB2.out.size))
  have HC3 := Lib.hid (HC2.out.trans (hb3.mono HC2.out.size))
  clear hb3 a0 a1 a2 a3 a4 b0 b1 b2 b3 b4
  obtain ⟨a0, a1, a2, a3, a4, b0, b1, b2, b3, b4⟩ := HK.out w3 HC3.out
  go_wp2_with fail
  go_ret
  exact ⟨rfl, HB3.out⟩
end Go.Proofs.YtfpcgfgofemhoaaGreat

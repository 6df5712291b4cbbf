/- shard: Dump. -/
import Derived.Test.YtafghiekpgjniaaGreatDoorShA
import Derived.Test.YtafghiekpgjniaaGreatDoorPT
import Derived.Test.YtafghiekpgjniaaGreatDoorPA
namespace Go.Proofs.YtafghiekpgjniaaGreatDoor
open Go.RowKit
set_option linter.unusedVariables false
set_option linter.unusedSimpArgs false

set_option maxRecDepth 100000
set_option maxHeartbeats 4000000 in
theorem dump1_any (t : SB) (L : Hs) (k : ByteArray) (mark : Int) (g1 g2 g3 : Nat) (Ab : Option Addr) (lb cb : Nat) (bs : List Int) (w : World) (h : ShAt w t L) (hwb : RowAt Icell 1 w w.heap.size Ab lb bs) (hlb : lb ≤ 17592186044416)
    (c1 : w.cell? ⟨g1, 0, none⟩ = some (.pointer (some ⟨t.g, 0, none⟩))) (c2 : w.cell? ⟨g2, 0, none⟩ = some (.int .i64 mark)) (c3 : w.cell? ⟨g3, 0, none⟩ = some (.slice Ab lb cb)) :
    Calls Tryz.prog 120 #[.string k, .pointer (some ⟨g1, 0, none⟩), .pointer (some ⟨g2, 0, none⟩), .pointer (some ⟨g3, 0, none⟩)] w (PickEnd w (dumpV (hget L k) mark bs)) := by
  have c0 := h.cell
  obtain ⟨sv, hv1, hv2, hv3, hv4, hv5⟩ := h.look k
  obtain ⟨hl1, hl2⟩ := h.look_len hv1 hv2
  have hlk := hv5 w rfl
  have hlt := h.lt
  have hS : ∀ X : World, Below w.heap.size w X → X.cell? ⟨g1, 0, none⟩ = some (.pointer (some ⟨t.g, 0, none⟩)) ∧ X.cell? ⟨t.g, 0, none⟩ = some (.map (some t.p)) ∧ X.cell? ⟨g2, 0, none⟩ = some (.int .i64 mark) ∧ X.cell? ⟨g3, 0, none⟩ = some (.slice Ab lb cb) ∧ (Instr.lookup 80 (.map (some t.p)) (.string k) false).run Tryz.prog X = .ok (.slice sv.A sv.len sv.cap) X := fun X hX =>
    ⟨(hX.cell (p := ⟨g1, 0, none⟩) (World.block_lt_of_cell? _ _ c1)).trans c1, (hX.cell (p := ⟨t.g, 0, none⟩) hlt.1).trans c0, (hX.cell (p := ⟨g2, 0, none⟩) (World.block_lt_of_cell? _ _ c2)).trans c2, (hX.cell (p := ⟨g3, 0, none⟩) (World.block_lt_of_cell? _ _ c3)).trans c3, hv5 X (hX.block _ hlt.2)⟩
  have HS := Lib.hid hS
  have hcl := dumpc_any sv.A sv.len sv.cap sv.vs mark Ab lb cb bs w.drew hv2 hv3 hl1 hl2 hwb hlb
  rw [hv1] at hcl
  have Hcl := Lib.hid hcl
  clear hcl hv1 hv2 hv3 hv4 hv5 hl1 hl2 h hwb hS
  go_enter Tryz.func120, Tryz.ntmps120
  go_wp2_with fail
  go_region_held3 (fun X => X.cell? ⟨g1, 0, none⟩ = some (.pointer (some ⟨t.g, 0, none⟩)) ∧ X.cell? ⟨t.g, 0, none⟩ = some (.map (some t.p)) ∧ X.cell? ⟨g2, 0, none⟩ = some (.int .i64 mark) ∧ X.cell? ⟨g3, 0, none⟩ = some (.slice Ab lb cb) ∧ (Instr.lookup 80 (.map (some t.p)) (.string k) false).run Tryz.prog X = .ok (.slice sv.A sv.len sv.cap) X)
    (first | (refine HS.out _ ?_; (first | exact bel_drew (Below.refl _ _) | exact HB2.out)))
    ((go_at_call 121; (with_reducible refine Hcl.out.mono ?_); rintro e w2 ⟨v, rfl, hown, hb2⟩; have HB2 : Hid (Below w.heap.size w w2) := Lib.hid ((bel_drew (Below.refl _ _)).trans hb2); have Hown : Hid (OwnV w2 w.heap.size v (dumpV (hget L k) mark bs)) := Lib.hid hown; clear hown hb2))
  go_wp2_with fail
  go_ret
  exact ⟨_, rfl, Hown.out, HB2.out⟩
set_option maxHeartbeats 4000000 in
theorem dump_any (t : SB) (L : Hs) (mark : Int) (Ab : Option Addr) (lb cb : Nat) (bs : List Int) (w : World) (h : ShAt w t L) (hn : L.length ≤ 3518437208883) (hwb : RowAt Icell 1 w w.heap.size Ab lb bs) (hlb : lb ≤ 17592186044416) :
    Calls Tryz.prog 32 #[.pointer (some ⟨t.g, 0, none⟩), .int .i64 mark, .slice Ab lb cb] w (HeldsEnd w (dumpH L mark bs)) := by
  obtain ⟨W, hW⟩ : ∃ W : World, W = ((w.alloc (.cells #[.pointer (some ⟨t.g, 0, none⟩)] 72)).alloc (.cells #[.int .i64 mark] 3)).alloc (.cells #[.slice Ab lb cb] 88) := ⟨_, rfl⟩
  have hBW : Below w.heap.size w W := by rw [hW]; exact bel_alloc (bel_alloc (bel_alloc (Below.refl _ _) _) _) _
  have hz : w.heap.size + 3 = W.heap.size := by rw [hW]; simp
  have hc1 : W.cell? ⟨w.heap.size, 0, none⟩ = some (.pointer (some ⟨t.g, 0, none⟩)) := by
    rw [hW]
    exact (blk_cell ((Below.heap_alloc _ _ _ (by simp; omega)).trans ((Below.heap_alloc _ _ _ (by simp)).trans (blk_new w _))) 0).trans rfl
  have hc2 : W.cell? ⟨w.heap.size + 1, 0, none⟩ = some (.int .i64 mark) := by
    rw [hW]
    exact (blk_cell ((Below.heap_alloc _ _ _ (by simp)).trans (blk_new2 w _ _)) 0).trans rfl
  have hc3 : W.cell? ⟨w.heap.size + 2, 0, none⟩ = some (.slice Ab lb cb) := by
    rw [hW]
    have := blk_new ((w.alloc (.cells #[.pointer (some ⟨t.g, 0, none⟩)] 72)).alloc (.cells #[.int .i64 mark] 3)) (.cells #[.slice Ab lb cb] 88)
    simp only [World.size_alloc] at this
    exact (blk_cell this 0).trans rfl
  have hh := heldsD_any t L W (h.below hBW) hn w.heap.size (w.heap.size + 1) (w.heap.size + 2) (fun l => dumpV l mark bs) (fun X k hX => dump1_any t L k mark w.heap.size (w.heap.size + 1) (w.heap.size + 2) Ab lb cb bs X (h.below (hBW.trans (hX.mono (by omega)))) ((hwb.below (hBW.trans (hX.mono (by omega)))).more (by have := hX.size; omega)) hlb ((hX.cell (p := ⟨w.heap.size, 0, none⟩) (by show w.heap.size < _; omega)).trans hc1) ((hX.cell (p := ⟨w.heap.size + 1, 0, none⟩) (by show w.heap.size + 1 < _; omega)).trans hc2) ((hX.cell (p := ⟨w.heap.size + 2, 0, none⟩) (by show w.heap.size + 2 < _; omega)).trans hc3))
  have Hh := Lib.hid hh
  have HBW := Lib.hid hBW
  clear hh h hwb hc2 hc3
  go_enter Tryz.func32, Tryz.ntmps32
  go_wp2_with fail
  rw [← hW]
  have HW := Lib.hid hW
  clear hW
  refine Hh.out.mono ?_
  rintro e w2 ⟨v, hs, rfl, h1, h2, h3⟩
  have H1 := Lib.hid h1
  have H2 := Lib.hid h2
  have H3 := Lib.hid h3
  clear h1 h2 h3
  go_wp2_with fail
  go_ret
  exact ⟨_, hs, rfl, H1.out.base (by omega), H2.out, HBW.out.trans (H3.out.mono (by omega))⟩
end Go.Proofs.YtafghiekpgjniaaGreatDoor

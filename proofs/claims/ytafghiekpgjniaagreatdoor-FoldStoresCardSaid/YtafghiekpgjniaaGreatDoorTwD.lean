/- Twins of transactions: the writes of no two lie in one block. -/
import Derived.Test.YtafghiekpgjniaaGreatDoorTwL
namespace Go.Proofs.YtafghiekpgjniaaGreatDoor
open Go.RowKit
set_option linter.unusedVariables false
set_option linter.unusedSimpArgs false

/-- No two transactions' writes lie in one block. -/
def DisT (rs : List RTx) : Prop := rs.Pairwise fun r r' => ∀ a c, r.A = some a → r'.A = some c → a.block ≠ c.block
theorem TwAll.blocks {w : World} {g : Nat} {rs rs' : List RTx} (h : TwAll w g rs rs') (hl : rs'.length ≤ rs.length) : ∀ r' ∈ rs', ∃ b, r'.A = some ⟨b, 0, none⟩ ∧ b < w.heap.size := fun r' hr' => by
  obtain ⟨i, hi⟩ := List.getElem?_of_mem hr'
  have hil : i < rs.length := by have := (List.getElem?_eq_some_iff.1 hi).1; omega
  obtain ⟨e1, e2, e3, b, h4, h5, h6, -⟩ := h i _ r' (List.getElem?_eq_getElem hil) hi
  exact ⟨b, h6, h5⟩
theorem DisT.snoc {rs : List RTx} {r : RTx} {n b : Nat} (h : DisT rs) (hb : ∀ r' ∈ rs, ∃ b, r'.A = some ⟨b, 0, none⟩ ∧ b < n) (hr : r.A = some ⟨b, 0, none⟩) (hn : n < b) : DisT (rs ++ [r]) :=
  List.pairwise_append.2 ⟨h, List.pairwise_singleton _ _, fun x hx y hy a c ea ec => by
    simp at hy; subst hy
    obtain ⟨q, e1, e2⟩ := hb x hx
    rw [e1] at ea; rw [hr] at ec
    injection ea with ea; injection ec with ec
    subst ea ec
    simp only [ne_eq]; omega⟩
set_option maxHeartbeats 1000000 in
theorem twinsD_any (A : Option Addr) (len cap : Nat) (rs : List RTx) (w : World) (hw : TxsAt w w.heap.size A len rs) (hreach : len * 32 ≤ 140737488351232) :
    Calls Tryz.prog 9 #[.slice A len cap] w fun e w' => ∃ rs', rs'.length = len ∧ e = .returned (.slice (some ⟨w.heap.size, 0, none⟩) len (len + 1)) ∧ w'.heap[w.heap.size]? = some (.cells ((rs' ++ [spT]).flatMap RTx.cells).toArray 64 (0, 0)) ∧ TwAll w' w.heap.size rs rs' ∧ DisT rs' ∧ Below w.heap.size w w' := by
  have hlen := Lib.hid hw.1.len
  obtain ⟨i0, hi, hz0, hz1, hz2⟩ := info_parts info_tx
  go_enter Tryz.func9, Tryz.ntmps9
  go_wp2_with (at_make; refine wpList_make_own _ rfl _ _ 22 rfl w.heap.size 64 i0 _ 2 Tryz.underlying22 hi hz0 hz1 _ _ _ (len + 1) rfl rfl (by omega) (by rw [hz2]; omega) (by simp only [maxLen]; omega) (Nat.le_refl _) ?_; intro w1 hown1 hgrow1)
  have hs1 : w.heap.size < w1.heap.size := (hown1.lt _ rfl).2
  have hbw1 : Below w.heap.size w w1 := (Below.refl _ _).grown hgrow1 (Nat.le_refl _) (fun k hk => by cases hk)
  go_wp2_with fail
  go_loopw [3, 4] (fun v i wr => ∃ (k : Nat) (rs' : List RTx), k ≤ len ∧ i = .int .i64 k ∧ v = .slice (some ⟨w.heap.size, 0, none⟩) k (len + 1) ∧ rs'.length = k ∧ wr.ownsRow w.heap.size 64 2 (.slice (some ⟨w.heap.size, 0, none⟩) k (len + 1)) k (rs'.flatMap RTx.cells) ∧ TwAll wr w.heap.size rs rs' ∧ Hid (DisT rs') ∧ Below w.heap.size w wr) (fun _ i _ => len - (RowKit.intOf i).toNat)
  case atStart => exact ⟨0, [], Nat.zero_le _, rfl, rfl, rfl, hown1, fun i r r' _ h => by simp at h, Lib.hid List.Pairwise.nil, hbw1⟩
  case round =>
    obtain ⟨k, rs', hk, rfl, rfl, hl', hown, htw, HD, hb⟩ := hrel
    have hr := hw.below hb
    have Hb := Lib.hid hb
    have Hl' := Lib.hid hl'
    have HTW := Lib.hid (htw.blocks (by rw [hl', hlen.out]; exact hk))
    have hs := hb.size
    have hgl := (hown.lt _ rfl).2
    clear hb hown1 hgrow1 hbw1 hl'
    by_cases hlt : k < len
    · obtain ⟨b, off, r, rfl, hbl, hx, x0, x1, hws, hrl⟩ := hr.cell2 hlt
      have Hx := Lib.hid hx
      have hws' := hws.more hs
      clear hx
      go_wp2_with fail
      refine (twintx_any r.number r.A r.len r.cap r.ws _ hws' hrl).mono ?_
      rintro e w2 ⟨b2, hb21, hb22, rfl, hblk, hb2⟩
      have Hblk := Lib.hid hblk
      have hown2 := ownsRow_below hown hb2
      have htw2 := htw.keep hb2.size (fun b _ hbl => hb2.block b hbl)
      have Hb2 := Lib.hid hb2
      have hs2 := hb2.size
      clear hblk hb2
      go_wp2_with (at_builtin; refine wpList_append_fits _ rfl _ _ 22 rfl w.heap.size 64 i0 2 Tryz.underlying22 hi hz1 w.heap.size k (len + 1) _ rfl (hown2.alloc _) ⟨w2.heap.size, 0, none⟩ 1 1 (RTx.cells ⟨r.number, some ⟨b2, 0, none⟩, r.len, r.len + 1, r.ws⟩) rfl rfl (cells_new _ _ _) (one_tx _) (by omega) ?_; intro w3 hown3 hg3)
      have hbl3 := below_grown_new hown2 hg3 (by omega)
      have hk3 : ∀ b, w.heap.size < b → b < w2.heap.size → w3.heap[b]? = w2.heap[b]? := fun b h1 h2 => (hg3.block b (by simp; omega) (by simp; omega)).trans (Below.heap_alloc _ _ _ h2)
      have hz3 : w2.heap.size ≤ w3.heap.size := by have := hg3.size; simp at this; omega
      have hws3 := (hws.len)
      refine ⟨⟨k + 1, rs' ++ [⟨r.number, some ⟨b2, 0, none⟩, r.len, r.len + 1, r.ws⟩], by omega, by go_num, rfl, by simp [Hl'.out], ?_, ?_, Lib.hid (HD.out.snoc HTW.out rfl hb21), (Hb.out.trans (Hb2.out.mono (by omega))).trans hbl3⟩, by simp [RowKit.intOf]; omega⟩
      · rw [List.flatMap_append]; simpa using hown3
      · refine (htw2.keep hz3 hk3).snoc (r := r) (by rw [Hl'.out]; exact Hx.out) ⟨rfl, rfl, rfl, b2, by omega, by omega, rfl, rfl, ?_, hws3⟩
        rw [hk3 b2 (by omega) hb22]; exact Hblk.out
    · have hkl : k = len := by omega
      subst hkl
      go_wp2_with (at_builtin; refine wpList_append_fits _ rfl _ _ 22 rfl w.heap.size 64 i0 2 Tryz.underlying22 hi hz1 w.heap.size k (k + 1) _ rfl (hown.alloc _) ⟨wr.heap.size, 0, none⟩ 1 1 spT.cells rfl rfl (cells_new _ _ _) (one_tx _) (by omega) ?_; intro w2 hown2 hg2)
      have hbl2 := below_grown_new hown hg2 (by omega)
      have hk3 : ∀ b, w.heap.size < b → b < wr.heap.size → w2.heap[b]? = wr.heap[b]? := fun b h1 h2 => (hg2.block b (by simp; omega) (by simp; omega)).trans (Below.heap_alloc _ _ _ h2)
      have hz3 : wr.heap.size ≤ w2.heap.size := by have := hg2.size; simp at this; omega
      have htw3 := htw.keep hz3 hk3
      clear hk3 htw hown
      go_wp2_with fail
      go_ret
      exact ⟨rs', Hl'.out, rfl, by simpa using blk_of_own hown2, htw3, HD.out, Hb.out.trans hbl2⟩
end Go.Proofs.YtafghiekpgjniaaGreatDoor

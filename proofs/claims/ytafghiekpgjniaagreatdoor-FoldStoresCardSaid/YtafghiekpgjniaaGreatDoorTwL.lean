/- Lemmas and contracts of functions that a statement of this seat stands on; each holds under the premises typed in its head. -/
import Derived.Test.YtafghiekpgjniaaGreatDoorTwT
import Derived.Test.YtafghiekpgjniaaGreatDoorMa
namespace Go.Proofs.YtafghiekpgjniaaGreatDoor
open Go.RowKit
set_option linter.unusedVariables false
set_option linter.unusedSimpArgs false

/-- A slice of transactions that came in: its elements, and the writes of each. -/
def TxsAt (w : World) (B : Nat) (A : Option Addr) (n : Nat) (rs : List RTx) : Prop := RowAt RTx.cells 2 w B A n rs ∧ ∀ r ∈ rs, WsAt w B r.A r.len r.ws ∧ r.len * 40 ≤ 140737488351232
theorem TxsAt.below {w w' : World} {B n : Nat} {A : Option Addr} {rs : List RTx} (h : TxsAt w B A n rs) (hb : Below B w w') : TxsAt w' B A n rs := ⟨h.1.below hb, fun r hr => ⟨(h.2 r hr).1.below hb, (h.2 r hr).2⟩⟩
theorem TxsAt.more {w : World} {B B' n : Nat} {A : Option Addr} {rs : List RTx} (h : TxsAt w B A n rs) (hB : B ≤ B') : TxsAt w B' A n rs := ⟨h.1.more hB, fun r hr => ⟨(h.2 r hr).1.more hB, (h.2 r hr).2⟩⟩
theorem TxsAt.cell2 {w : World} {B n i : Nat} {A : Option Addr} {rs : List RTx} (h : TxsAt w B A n rs) (hi : i < n) :
    ∃ b off r, A = some ⟨b, off, none⟩ ∧ b < B ∧ rs[i]? = some r ∧ w.cell? ⟨b, off + i * 2, none⟩ = some (.int .i64 r.number) ∧ w.cell? ⟨b, off + i * 2 + 1, none⟩ = some (.slice r.A r.len r.cap) ∧ WsAt w B r.A r.len r.ws ∧ r.len * 40 ≤ 140737488351232 := by
  obtain ⟨b, off, r, e, hb, hx, hc⟩ := h.1.at_ hi
  obtain ⟨h1, h2⟩ := h.2 r (List.mem_of_getElem? hx)
  exact ⟨b, off, r, e, hb, hx, hc 0 _ rfl, hc 1 _ rfl, h1, h2⟩

/-- r' is r's twin in w, its writes in a block above g. -/
def TwOk (w : World) (g : Nat) (r r' : RTx) : Prop := r'.number = r.number ∧ r'.ws = r.ws ∧ r'.len = r.len ∧ ∃ b, g < b ∧ b < w.heap.size ∧ r'.twin w b
theorem TwOk.keep {w w' : World} {g : Nat} {r r' : RTx} (h : TwOk w g r r') (hz : w.heap.size ≤ w'.heap.size) (hk : ∀ b, g < b → b < w.heap.size → w'.heap[b]? = w.heap[b]?) : TwOk w' g r r' := by
  obtain ⟨h1, h2, h3, b, h4, h5, h6, h7, h8, h9⟩ := h
  exact ⟨h1, h2, h3, b, h4, by omega, h6, h7, (hk b h4 h5).trans h8, h9⟩
def TwAll (w : World) (g : Nat) (rs rs' : List RTx) : Prop := ∀ (i : Nat) (r r' : RTx), rs[i]? = some r → rs'[i]? = some r' → TwOk w g r r'
theorem TwAll.keep {w w' : World} {g : Nat} {rs rs' : List RTx} (h : TwAll w g rs rs') (hz : w.heap.size ≤ w'.heap.size) (hk : ∀ b, g < b → b < w.heap.size → w'.heap[b]? = w.heap[b]?) : TwAll w' g rs rs' :=
  fun i r r' hr hr' => (h i r r' hr hr').keep hz hk
theorem TwAll.snoc {w : World} {g : Nat} {rs rs' : List RTx} {r r' : RTx} (h : TwAll w g rs rs') (hr : rs[rs'.length]? = some r) (hok : TwOk w g r r') : TwAll w g rs (rs' ++ [r']) := by
  intro i a b ha hb
  rw [List.getElem?_append] at hb
  split at hb
  · exact h i a b ha hb
  · rename_i hi
    have hlt := (List.getElem?_eq_some_iff.1 hb).1
    simp at hlt
    have : i = rs'.length := by omega
    subst this
    rw [hr] at ha
    simp at hb ha
    subst ha hb
    exact hok
def spT : RTx := ⟨7777, none, 0, 0, []⟩
theorem info_tx : (Tryz.prog.info? 64).map (fun i => (i.zero, i.size, i.bytes)) = some (some (.agg #[.int .i64 0, .slice none 0 0]), 2, 32) := by kernel_rfl

set_option maxHeartbeats 1000000 in
theorem twins_any (A : Option Addr) (len cap : Nat) (rs : List RTx) (w : World) (hw : TxsAt w w.heap.size A len rs) (hreach : len * 32 ≤ 140737488351232) :
    Calls Tryz.prog 9 #[.slice A len cap] w fun e w' => ∃ rs', rs'.length = len ∧ e = .returned (.slice (some ⟨w.heap.size, 0, none⟩) len (len + 1)) ∧ w'.heap[w.heap.size]? = some (.cells ((rs' ++ [spT]).flatMap RTx.cells).toArray 64 (0, 0)) ∧ TwAll w' w.heap.size rs rs' ∧ Below w.heap.size w w' := by
  have hlen := Lib.hid hw.1.len
  obtain ⟨i0, hi, hz0, hz1, hz2⟩ := info_parts info_tx
  go_enter Tryz.func9, Tryz.ntmps9
  go_wp2_with (at_make; refine wpList_make_own _ rfl _ _ 22 rfl w.heap.size 64 i0 _ 2 Tryz.underlying22 hi hz0 hz1 _ _ _ (len + 1) rfl rfl (by omega) (by rw [hz2]; omega) (by simp only [maxLen]; omega) (Nat.le_refl _) ?_; intro w1 hown1 hgrow1)
  have hs1 : w.heap.size < w1.heap.size := (hown1.lt _ rfl).2
  have hbw1 : Below w.heap.size w w1 := (Below.refl _ _).grown hgrow1 (Nat.le_refl _) (fun k hk => by cases hk)
  go_wp2_with fail
  go_loopw [3, 4] (fun v i wr => ∃ (k : Nat) (rs' : List RTx), k ≤ len ∧ i = .int .i64 k ∧ v = .slice (some ⟨w.heap.size, 0, none⟩) k (len + 1) ∧ rs'.length = k ∧ wr.ownsRow w.heap.size 64 2 (.slice (some ⟨w.heap.size, 0, none⟩) k (len + 1)) k (rs'.flatMap RTx.cells) ∧ TwAll wr w.heap.size rs rs' ∧ Below w.heap.size w wr) (fun _ i _ => len - (RowKit.intOf i).toNat)
  case atStart => exact ⟨0, [], Nat.zero_le _, rfl, rfl, rfl, hown1, fun i r r' _ h => by simp at h, hbw1⟩
  case round =>
    obtain ⟨k, rs', hk, rfl, rfl, hl', hown, htw, hb⟩ := hrel
    have hr := hw.below hb
    have Hb := Lib.hid hb
    have Hl' := Lib.hid hl'
    have hs := hb.size
    have hgl := (hown.lt _ rfl).2
    clear hb hown1 hgrow1 hbw1 hl'
    by_cases hlt : k < len
    · obtain ⟨b, off, r, rfl, hbl, hx, x0, x1, hws, hrl⟩ := hr.cell2 hlt
      have Hx := Lib.hid hx
      have hws' := hws.more hs
      clear hx
      go_wp2_with fail
      refine (twintx_any r.number r.A r.len r.cap r.ws _ hws' hrl).mono ?_
      rintro e w2 ⟨b2, hb21, hb22, rfl, hblk, hb2⟩
      have Hblk := Lib.hid hblk
      have hown2 := ownsRow_below hown hb2
      have htw2 := htw.keep hb2.size (fun b _ hbl => hb2.block b hbl)
      have Hb2 := Lib.hid hb2
      have hs2 := hb2.size
      clear hblk hb2
      go_wp2_with (at_builtin; refine wpList_append_fits _ rfl _ _ 22 rfl w.heap.size 64 i0 2 Tryz.underlying22 hi hz1 w.heap.size k (len + 1) _ rfl (hown2.alloc _) ⟨w2.heap.size, 0, none⟩ 1 1 (RTx.cells ⟨r.number, some ⟨b2, 0, none⟩, r.len, r.len + 1, r.ws⟩) rfl rfl (cells_new _ _ _) (one_tx _) (by omega) ?_; intro w3 hown3 hg3)
      have hbl3 := below_grown_new hown2 hg3 (by omega)
      have hk3 : ∀ b, w.heap.size < b → b < w2.heap.size → w3.heap[b]? = w2.heap[b]? := fun b h1 h2 => (hg3.block b (by simp; omega) (by simp; omega)).trans (Below.heap_alloc _ _ _ h2)
      have hz3 : w2.heap.size ≤ w3.heap.size := by have := hg3.size; simp at this; omega
      have hws3 := (hws.len)
      refine ⟨⟨k + 1, rs' ++ [⟨r.number, some ⟨b2, 0, none⟩, r.len, r.len + 1, r.ws⟩], by omega, by go_num, rfl, by simp [Hl'.out], ?_, ?_, (Hb.out.trans (Hb2.out.mono (by omega))).trans hbl3⟩, by simp [RowKit.intOf]; omega⟩
      · rw [List.flatMap_append]; simpa using hown3
      · refine (htw2.keep hz3 hk3).snoc (r := r) (by rw [Hl'.out]; exact Hx.out) ⟨rfl, rfl, rfl, b2, by omega, by omega, rfl, rfl, ?_, hws3⟩
        rw [hk3 b2 (by omega) hb22]; exact Hblk.out
    · have hkl : k = len := by omega
      subst hkl
      go_wp2_with (at_builtin; refine wpList_append_fits _ rfl _ _ 22 rfl w.heap.size 64 i0 2 Tryz.underlying22 hi hz1 w.heap.size k (k + 1) _ rfl (hown.alloc _) ⟨wr.heap.size, 0, none⟩ 1 1 spT.cells rfl rfl (cells_new _ _ _) (one_tx _) (by omega) ?_; intro w2 hown2 hg2)
      have hbl2 := below_grown_new hown hg2 (by omega)
      have hk3 : ∀ b, w.heap.size < b → b < wr.heap.size → w2.heap[b]? = wr.heap[b]? := fun b h1 h2 => (hg2.block b (by simp; omega) (by simp; omega)).trans (Below.heap_alloc _ _ _ h2)
      have hz3 : wr.heap.size ≤ w2.heap.size := by have := hg2.size; simp at this; omega
      have htw3 := htw.keep hz3 hk3
      clear hk3 htw hown
      go_wp2_with fail
      go_ret
      exact ⟨rs', Hl'.out, rfl, by simpa using blk_of_own hown2, htw3, Hb.out.trans hbl2⟩

set_option maxHeartbeats 1000000 in
theorem lefttx_any (n : Int) (b : Nat) (A : Option Addr) (len cap : Nat) (xs : List Wr) (w : World) (hg : w.heap[b]? = some (.cells ((xs ++ [spW]).flatMap Wr.cells).toArray 87 (0, 0))) (hw : WsAt w w.heap.size A len xs) (hreach : len * 40 ≤ 140737488351232) :
    Calls Tryz.prog 47 #[.agg #[.int .i64 n, .slice (some ⟨b, 0, none⟩) len (len + 1)], .agg #[.int .i64 n, .slice A len cap]] w fun e w' => e = .returned (.bool true) ∧ Below w.heap.size w w' := by
  have hgl : b < w.heap.size := (Array.getElem?_eq_some_iff.1 hg).1
  have hg2 : ∀ o p, ((w.alloc o).alloc p).heap[b]? = some (.cells ((xs ++ [spW]).flatMap Wr.cells).toArray 87 (0, 0)) := fun o p => (Below.heap_alloc _ _ _ (by simp; omega)).trans ((Below.heap_alloc _ _ _ hgl).trans hg)
  have hw2 : ∀ o p, WsAt ((w.alloc o).alloc p) ((w.alloc o).alloc p).heap.size A len xs := fun o p => (hw.below (((Below.refl _ _).alloc (Nat.le_refl _) _).alloc (by simp) _)).more (by simp; omega)
  have Hg2 := Lib.hid hg2
  clear hg hg2
  go_enter Tryz.func47, Tryz.ntmps47
  go_wp2_with fail
  refine (leftW_any b A len cap xs _ (Hg2.out _ _) (hw2 _ _) hreach).mono ?_
  rintro e w2 ⟨rfl, hb2⟩
  go_wp2_with fail
  go_ret
  exact ⟨rfl, below_two (hb2.mono (by simp))⟩

set_option maxHeartbeats 1000000 in
theorem lefts_any (g : Nat) (A : Option Addr) (len cap : Nat) (rs rs' : List RTx) (w : World) (hl' : rs'.length = len) (hg : w.heap[g]? = some (.cells ((rs' ++ [spT]).flatMap RTx.cells).toArray 64 (0, 0))) (htw : TwAll w g rs rs') (hw : TxsAt w w.heap.size A len rs) (hreach : len * 32 ≤ 140737488351232) :
    Calls Tryz.prog 13 #[.slice (some ⟨g, 0, none⟩) len (len + 1), .slice A len cap] w fun e w' => e = .returned (.bool true) ∧ Below w.heap.size w w' := by
  have hgl : g < w.heap.size := (Array.getElem?_eq_some_iff.1 hg).1
  have hrow := row_of_blk (len_tx _) hg hgl
  rw [hl'] at hrow
  have hb0 := beq_self_eq_true (len : Int)
  have Hl' := Lib.hid hl'
  have Htw := Lib.hid htw
  clear hl' htw hg
  go_enter Tryz.func13, Tryz.ntmps13
  go_wp2_with fail
  go_loopw [5] (fun i wr => ∃ k : Nat, k ≤ len ∧ i = .int .i64 k ∧ Below w.heap.size w wr) (fun i _ => len - (RowKit.intOf i).toNat)
  case atStart => exact ⟨0, Nat.zero_le _, rfl, Below.refl _ _⟩
  case round =>
    obtain ⟨k, hk, rfl, hb⟩ := hrel
    have hr := hw.below hb
    have ht := hrow.below hb
    have Hb := Lib.hid hb
    have hs := hb.size
    clear hb
    by_cases hlt : k < len
    · obtain ⟨b, off, r, rfl, hbl, hx, x0, x1, hws, hrl⟩ := hr.cell2 hlt
      obtain ⟨b', off', r', he, hbl', hy, hyc⟩ := ht.at_ (show k < len + 1 by omega)
      simp only [Option.some.injEq, Addr.mk.injEq, and_true] at he
      obtain ⟨rfl, rfl⟩ := he
      rw [List.getElem?_append_left (by have := Hl'.out; omega)] at hy
      obtain ⟨e1, e2, e3, bb, h4, h5, h6, h7, h8, h9⟩ := Htw.out k r r' hx hy
      have y0 := hyc 0 _ rfl
      have y1 := hyc 1 _ rfl
      rw [e1] at y0
      rw [h6, e3, h7, e3] at y1
      rw [e2] at h8
      simp only [Nat.zero_add, Nat.add_zero] at y0 y1
      have hblk : wr.drew.heap[bb]? = _ := (Hb.out.block bb h5).trans h8
      have hwsd : WsAt wr.drew wr.drew.heap.size r.A r.len r.ws := hws.more hs
      have Hblk := Lib.hid hblk
      clear hx hy e1 e2 e3 h6 h7 h8 h9 hyc hblk
      go_wp2_with fail
      go_region_held3 (fun w' => w'.cell? ⟨b, off + k * 2, none⟩ = some (.int .i64 r.number) ∧ w'.cell? ⟨b, off + k * 2 + 1, none⟩ = some (.slice r.A r.len r.cap) ∧ w'.cell? ⟨g, k * 2, none⟩ = some (.int .i64 r.number) ∧ w'.cell? ⟨g, k * 2 + 1, none⟩ = some (.slice (some ⟨bb, 0, none⟩) r.len (r.len + 1)))
        (first | exact ⟨x0, x1, y0, y1⟩ | exact ⟨(hbx.cell (p := ⟨b, off + k * 2, none⟩) (by show b < _; omega)).trans x0, (hbx.cell (p := ⟨b, off + k * 2 + 1, none⟩) (by show b < _; omega)).trans x1, (hbx.cell (p := ⟨g, k * 2, none⟩) (by show g < _; omega)).trans y0, (hbx.cell (p := ⟨g, k * 2 + 1, none⟩) (by show g < _; omega)).trans y1⟩)
        (first | (go_at_call 47; refine (lefttx_any r.number bb r.A r.len r.cap r.ws wr.drew Hblk.out hwsd hrl).mono ?_; rintro e w1 ⟨rfl, hb1⟩; have hbx : Below wr.heap.size wr w1 := (Below.refl _ _).drew.trans hb1; have Hbx := Lib.hid hbx; clear hb1))
      go_wp2_with fail
      exact ⟨⟨k + 1, by omega, by go_num, Hb.out.trans (Hbx.out.mono hs)⟩, by simp [RowKit.intOf]; omega⟩
    · have hkl : k = len := by omega
      subst hkl
      obtain ⟨b', off', r', he, hbl', hy, hyc⟩ := ht.at_ (show k < k + 1 by omega)
      simp only [Option.some.injEq, Addr.mk.injEq, and_true] at he
      obtain ⟨rfl, rfl⟩ := he
      have hyx : r' = spT := by
        rw [List.getElem?_append_right (by have := Hl'.out; omega), Hl'.out] at hy
        simpa using hy.symm
      subst hyx
      have y0 := hyc 0 _ rfl
      have y1 := hyc 1 _ rfl
      clear hy hyc
      simp only [Nat.zero_add, Nat.add_zero, spT] at y0 y1
      have hk1 : (k : Int) < (k : Int) + 1 := by omega
      go_wp2_with fail
      go_ret
      exact ⟨rfl, Hb.out.alloc (by omega) _⟩
end Go.Proofs.YtafghiekpgjniaaGreatDoor

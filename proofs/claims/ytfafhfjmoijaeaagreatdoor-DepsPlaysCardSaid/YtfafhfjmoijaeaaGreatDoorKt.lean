/- XKt: out of XT1 XT2 XT3 XT4b XConfb XTw XTwIb XTwT XTwL XCore XSize XSizeX (pick.py). -/
import Derived.Test.YtfafhfjmoijaeaaGreatDoorDw
import Derived.BigQuiet
namespace Go.Proofs.YtfafhfjmoijaeaaGreatDoor
open Go.RowKit
set_option linter.unusedVariables false
set_option linter.unusedSimpArgs false

section
open Go.Maps
theorem info_wr : (Tryz.prog.info? 75).map (fun i => (i.zero, i.size, i.bytes)) = some (some (.agg #[.string ⟨#[]⟩, .string ⟨#[]⟩, .bool false]), 3, 40) := by kernel_rfl

theorem one_wr (x : Wr) : ∀ (u : Value), u ∈ x.cells → u.oneCell' = true := by
  intro u hu
  simp only [Wr.cells, List.mem_cons, List.not_mem_nil, or_false] at hu
  rcases hu with rfl | rfl | rfl <;> rfl
theorem below_grown_new {w w' : World} {o : Obj} {v : Value} {base n size : Nat} {e : TypeId} {xs : List Value} (h : w.ownsRow base e size v n xs) (hg : (w.alloc o).grownBy w' v.ownBlock) (hb : base ≤ w.heap.size) : Below base w w' :=
  ((Below.refl _ _).alloc hb o).grown hg (by simp; omega) (fun k hk => (h.lt k hk).1)
end
theorem below_two {w wr : World} {o p : Obj} (h : Below (w.heap.size + 2) ((w.alloc o).alloc p) wr) : Below w.heap.size w wr :=
  (((Below.refl _ _).alloc (Nat.le_refl _) _).alloc (by simp) _).trans (h.mono (by omega))
def spW : Wr := ⟨⟨#[115, 112, 97, 114, 101]⟩, ⟨#[]⟩, false⟩
theorem take_snoc_flat {α : Type} {cells : α → List Value} {l : List α} {k : Nat} {x : α} (h : l[k]? = some x) : (l.take (k + 1)).flatMap cells = (l.take k).flatMap cells ++ cells x := by
  rw [List.take_add_one, h]; simp
theorem blk_of_own {w : World} {base g n size : Nat} {e : TypeId} {xs : List Value} (h : w.ownsRow base e size (.slice (some ⟨g, 0, none⟩) n n) n xs) : w.heap[g]? = some (.cells xs.toArray e (0, 0)) := by
  obtain ⟨h1, h2 | ⟨g', cap, cur, hv, hg, hh, hn, hc, hsz, ht⟩⟩ := h
  · simp at h2
  · simp at hv
    obtain ⟨rfl, rfl⟩ := hv
    rw [hh]
    have : cur.toList = xs := by rw [← ht, List.take_of_length_le (by rw [Array.length_toList, hsz]; exact Nat.le_refl _)]
    rw [← this]

/-- A row of one element more, that lies in one block. -/
theorem row_of_blk {α : Type} {cells : α → List Value} {size : Nat} {w : World} {g B : Nat} {e : TypeId} {xs : List α} {sp : α} (hs : ∀ x ∈ xs ++ [sp], (cells x).length = size) (h : w.heap[g]? = some (.cells ((xs ++ [sp]).flatMap cells).toArray e (0, 0))) (hB : g < B) :
    RowAt cells size w B (some ⟨g, 0, none⟩) (xs.length + 1) (xs ++ [sp]) := by
  have := rowAt_block (B := B) (xs ++ [sp]) hs h hB (fun j u hu => by simpa using hu)
  simpa using this

set_option maxHeartbeats 1000000 in
theorem twinW_any (A : Option Addr) (len cap : Nat) (xs : List Wr) (w : World) (hw : RowAt Wr.cells 3 w w.heap.size A len xs) (hreach : len * 40 ≤ 140737488351232) :
    Calls Tryz.prog 59 #[.slice A len cap] w fun e w' => e = .returned (.slice (some ⟨w.heap.size, 0, none⟩) len (len + 1)) ∧ w'.heap[w.heap.size]? = some (.cells ((xs ++ [spW]).flatMap Wr.cells).toArray 75 (0, 0)) ∧ Below w.heap.size w w' := by
  have hlen := Lib.hid hw.len
  obtain ⟨i0, hi, hz0, hz1, hz2⟩ := info_parts info_wr
  go_enter Tryz.func59, Tryz.ntmps59
  go_wp2_with (at_make; refine wpList_make_own _ rfl _ _ 48 rfl w.heap.size 75 i0 _ 3 Tryz.underlying48 hi hz0 hz1 _ _ _ (len + 1) rfl rfl (by omega) (by rw [hz2]; omega) (by simp only [maxLen]; omega) (Nat.le_refl _) ?_; intro w1 hown1 hgrow1)
  have hs1 : w.heap.size < w1.heap.size := (hown1.lt _ rfl).2
  have hbw1 : Below w.heap.size w w1 := (Below.refl _ _).grown hgrow1 (Nat.le_refl _) (fun k hk => by cases hk)
  go_wp2_with fail
  go_loopw [3, 4] (fun v i wr => ∃ k : Nat, k ≤ len ∧ i = .int .i64 k ∧ v = .slice (some ⟨w.heap.size, 0, none⟩) k (len + 1) ∧ wr.ownsRow w.heap.size 75 3 (.slice (some ⟨w.heap.size, 0, none⟩) k (len + 1)) k ((xs.take k).flatMap Wr.cells) ∧ Below w.heap.size w wr) (fun _ i _ => len - (RowKit.intOf i).toNat)
  case atStart => exact ⟨0, Nat.zero_le _, rfl, rfl, hown1, hbw1⟩
  case round =>
    obtain ⟨k, hk, rfl, rfl, hown, hb⟩ := hrel
    have hr := hw.below hb
    have Hb := Lib.hid hb
    have hs := hb.size
    have hgl := (hown.lt _ rfl).2
    clear hb hown1 hgrow1 hbw1
    by_cases hlt : k < len
    · obtain ⟨b, off, x, rfl, hbl, hx, hxc⟩ := hr.at_ hlt
      have x0 := hxc 0 _ rfl
      have x1 := hxc 1 _ rfl
      have x2 := hxc 2 _ rfl
      simp only [Nat.add_zero] at x0
      have Hx := Lib.hid hx
      clear hx hxc
      go_wp2_with (at_builtin; refine wpList_append_fits _ rfl _ _ 48 rfl w.heap.size 75 i0 3 Tryz.underlying48 hi hz1 w.heap.size k (len + 1) _ rfl (hown.alloc _) ⟨wr.heap.size, 0, none⟩ 1 1 (Wr.cells x) rfl rfl (cells_new _ _ _) (one_wr x) (by omega) ?_; intro w2 hown2 hg2)
      have hbl2 := below_grown_new hown hg2 (by omega)
      refine ⟨⟨k + 1, by omega, by go_num, rfl, ?_, Hb.out.trans hbl2⟩, by simp [RowKit.intOf]; omega⟩
      rw [take_snoc_flat Hx.out]; exact hown2
    · have hkl : k = len := by omega
      subst hkl
      have htk : xs.take k = xs := List.take_of_length_le (by have := hlen.out; omega)
      rw [htk] at hown
      go_wp2_with (at_builtin; refine wpList_append_fits _ rfl _ _ 48 rfl w.heap.size 75 i0 3 Tryz.underlying48 hi hz1 w.heap.size k (k + 1) _ rfl (hown.alloc _) ⟨wr.heap.size, 0, none⟩ 1 1 (Wr.cells spW) rfl rfl (cells_new _ _ _) (one_wr spW) (by omega) ?_; intro w2 hown2 hg2)
      have hbl2 := below_grown_new hown hg2 (by omega)
      go_wp2_with fail
      go_ret
      exact ⟨rfl, by simpa using blk_of_own hown2, Hb.out.trans hbl2⟩

set_option maxHeartbeats 1000000 in
theorem leftW_any (g : Nat) (A : Option Addr) (len cap : Nat) (xs : List Wr) (w : World) (hg : w.heap[g]? = some (.cells ((xs ++ [spW]).flatMap Wr.cells).toArray 75 (0, 0))) (hw : RowAt Wr.cells 3 w w.heap.size A len xs) (hreach : len * 40 ≤ 140737488351232) :
    Calls Tryz.prog 65 #[.slice (some ⟨g, 0, none⟩) len (len + 1), .slice A len cap] w fun e w' => e = .returned (.bool true) ∧ Below w.heap.size w w' := by
  have hlen := Lib.hid hw.len
  have hgl : g < w.heap.size := (Array.getElem?_eq_some_iff.1 hg).1
  have hrow := row_of_blk (len_wr _) hg hgl
  rw [hw.len] at hrow
  have hb0 := beq_self_eq_true (len : Int)
  go_enter Tryz.func65, Tryz.ntmps65
  go_wp2_with fail
  go_loopw [5] (fun i wr => ∃ k : Nat, k ≤ len ∧ i = .int .i64 k ∧ Below w.heap.size w wr) (fun i _ => len - (RowKit.intOf i).toNat)
  case atStart => exact ⟨0, Nat.zero_le _, rfl, Below.refl _ _⟩
  case round =>
    obtain ⟨k, hk, rfl, hb⟩ := hrel
    have hr := hw.below hb
    have ht := hrow.below hb
    have Hb := Lib.hid hb
    have hs := hb.size
    clear hb
    by_cases hlt : k < len
    · obtain ⟨b, off, x, rfl, hbl, hx, hxc⟩ := hr.at_ hlt
      have x0 := hxc 0 _ rfl
      have x1 := hxc 1 _ rfl
      have x2 := hxc 2 _ rfl
      simp only [Nat.add_zero] at x0
      obtain ⟨b', off', y, he, hbl', hy, hyc⟩ := ht.at_ (show k < len + 1 by omega)
      have y0 := hyc 0 _ rfl
      have y1 := hyc 1 _ rfl
      have y2 := hyc 2 _ rfl
      simp only [Nat.add_zero] at y0
      simp only [Option.some.injEq, Addr.mk.injEq, and_true] at he
      obtain ⟨rfl, rfl⟩ := he
      have hyx : y = x := by
        rw [List.getElem?_append_left (by have := hlen.out; omega), hx] at hy
        exact (Option.some.inj hy).symm
      subst hyx
      clear hx hy hxc hyc
      simp only [Nat.zero_add] at y0 y1 y2
      go_wp2_with fail
      go_quiet (fail)
      go_wp2_with fail
      exact ⟨⟨k + 1, by omega, by go_num, below_drewN Hb.out _⟩, by simp [RowKit.intOf]; omega⟩
    · have hkl : k = len := by omega
      subst hkl
      obtain ⟨b', off', y, he, hbl', hy, hyc⟩ := ht.at_ (show k < k + 1 by omega)
      have y0 := hyc 0 _ rfl
      have y1 := hyc 1 _ rfl
      have y2 := hyc 2 _ rfl
      simp only [Nat.add_zero] at y0
      simp only [Option.some.injEq, Addr.mk.injEq, and_true] at he
      obtain ⟨rfl, rfl⟩ := he
      have hyx : y = spW := by
        rw [List.getElem?_append_right (by have := hlen.out; omega), hlen.out] at hy
        simpa using hy.symm
      subst hyx
      clear hy hyc
      simp only [Nat.zero_add, spW] at y0 y1 y2
      have hk1 : (k : Int) < (k : Int) + 1 := by omega
      go_wp2_with fail
      go_ret
      exact ⟨rfl, by first | exact Hb.out.alloc (by omega) _ | exact Hb.out⟩
set_option maxHeartbeats 1000000 in
theorem twintx_any (n : Int) (A : Option Addr) (len cap : Nat) (xs : List Wr) (w : World) (hw : WsAt w w.heap.size A len xs) (hreach : len * 40 ≤ 140737488351232) :
    Calls Tryz.prog 10 #[.agg #[.int .i64 n, .slice A len cap]] w fun e w' => ∃ b, w.heap.size < b ∧ b < w'.heap.size ∧ e = .returned (.agg #[.int .i64 n, .slice (some ⟨b, 0, none⟩) len (len + 1)]) ∧ w'.heap[b]? = some (.cells ((xs ++ [spW]).flatMap Wr.cells).toArray 75 (0, 0)) ∧ Below w.heap.size w w' := by
  obtain ⟨W2, hW2⟩ : ∃ W2 : World, W2 = (w.alloc (.cells #[.int .i64 n, .slice A len cap] 50)).alloc (.cells #[.int .i64 0, .slice none 0 0] 50) := ⟨_, rfl⟩
  have hz : W2.heap.size = w.heap.size + 2 := by rw [hW2]; simp
  have hB : Below w.heap.size w W2 := by rw [hW2]; exact ((Below.refl _ _).alloc (Nat.le_refl _) _).alloc (by simp) _
  have c0 : W2.cell? ⟨w.heap.size, 0, none⟩ = some (.int .i64 n) := by rw [hW2]; simp [go_sem]
  have c1 : W2.cell? ⟨w.heap.size, 1, none⟩ = some (.slice A len cap) := by rw [hW2]; simp [go_sem]
  have d0 : W2.cell? ⟨w.heap.size + 1, 0, none⟩ = some (.int .i64 0) := by rw [hW2]; simp [go_sem]
  have d1 : W2.cell? ⟨w.heap.size + 1, 1, none⟩ = some (.slice none 0 0) := by rw [hW2]; simp [go_sem]
  have f0 : W2.frozen? ⟨w.heap.size + 1, 0, none⟩ = false := by rw [hW2]; simp [go_sem]
  have f1 : W2.frozen? ⟨w.heap.size + 1, 1, none⟩ = false := by rw [hW2]; simp [go_sem]
  have hw2 := (hw.below hB).more hB.size
  go_enter Tryz.func10, Tryz.ntmps10
  go_wp2_with fail
  rw [← hW2]
  have HW2 := Lib.hid hW2
  have hw2d : WsAt W2.drew W2.drew.heap.size A len xs := hw2
  have Hz := Lib.hid hz
  have hlt : w.heap.size + 1 < W2.heap.size := by omega
  clear hW2 hz
  have hne : w.heap.size ≠ w.heap.size + 1 := by omega
  go_region_held3 (fun w' => w'.cell? ⟨w.heap.size, 0, none⟩ = some (.int .i64 n) ∧ w'.cell? ⟨w.heap.size, 1, none⟩ = some (.slice A len cap))
    (first | exact ⟨c0, c1⟩ | exact ⟨g0, g1⟩ | (refine ⟨?_, ?_⟩ <;> (rw [World.cell?_setCell_other _ _ _ _ (by simp), World.cell?_setCell_other _ _ _ _ (by simp)]; assumption)))
    (first
      | (go_at_call 59; refine (twinW_any A len cap xs _ hw2d hreach).mono ?_; rintro e w1 ⟨rfl, hblk, hb1⟩; have hbx : Below W2.heap.size W2 w1 := (Below.refl _ _).drew.trans hb1; have Hblk := Lib.hid hblk; have Hbx := Lib.hid hbx; have g0 := (hbx.cell (p := ⟨w.heap.size, 0, none⟩) (by show w.heap.size < _; omega)).trans c0; have g1 := (hbx.cell (p := ⟨w.heap.size, 1, none⟩) (by show w.heap.size < _; omega)).trans c1; have g2 := (hbx.cell (p := ⟨w.heap.size + 1, 0, none⟩) hlt).trans d0; have g3 := (hbx.cell (p := ⟨w.heap.size + 1, 1, none⟩) hlt).trans d1; have g4 := (hbx.frozen (p := ⟨w.heap.size + 1, 0, none⟩) hlt).trans f0; have g5 := (hbx.frozen (p := ⟨w.heap.size + 1, 1, none⟩) hlt).trans f1; clear hblk hb1 hbx))
  go_wp2_with fail
  have r0 : ((w1.setCell ⟨w.heap.size + 1, 0, none⟩ (.int .i64 n)).setCell ⟨w.heap.size + 1, 1, none⟩ (.slice (some ⟨W2.heap.size, 0, none⟩) len (len + 1))).cell? ⟨w.heap.size + 1, 0, none⟩ = some (.int .i64 n) := by
    rw [World.cell?_setCell_other _ _ _ _ (by simp)]; exact World.cell?_setCell_same _ _ _ g2
  have r1 : ((w1.setCell ⟨w.heap.size + 1, 0, none⟩ (.int .i64 n)).setCell ⟨w.heap.size + 1, 1, none⟩ (.slice (some ⟨W2.heap.size, 0, none⟩) len (len + 1))).cell? ⟨w.heap.size + 1, 1, none⟩ = some (.slice (some ⟨W2.heap.size, 0, none⟩) len (len + 1)) :=
    World.cell?_setCell_same _ _ _ (by rw [World.cell?_setCell_other _ _ _ _ (by simp)]; exact g3)
  have hz2 := Hz.out
  have hsz := Hbx.out.size
  have hs1 : W2.heap.size < w1.heap.size := by
    have := Hblk.out
    exact (Array.getElem?_eq_some_iff.1 this).1
  have hB2 : Below w.heap.size w w1 := hB.trans (Hbx.out.mono (by omega))
  refine bodyPost_ret (v := .agg #[.int .i64 n, .slice (some ⟨W2.heap.size, 0, none⟩) len (len + 1)]) (by simp [results, Tryz.results10, go_sem, r0, r1]) rfl ⟨W2.heap.size, by omega, by simp [World.setCell]; omega, rfl, ?_, (hB2.setCell (by simp) _).setCell (by simp) _⟩
  rw [Below.heap_setCell _ _ _ _ (by simp; omega), Below.heap_setCell _ _ _ _ (by simp; omega)]
  exact Hblk.out
set_option maxHeartbeats 1000000 in
theorem lefttx_any (n : Int) (b : Nat) (A : Option Addr) (len cap : Nat) (xs : List Wr) (w : World) (hg : w.heap[b]? = some (.cells ((xs ++ [spW]).flatMap Wr.cells).toArray 75 (0, 0))) (hw : WsAt w w.heap.size A len xs) (hreach : len * 40 ≤ 140737488351232) :
    Calls Tryz.prog 13 #[.agg #[.int .i64 n, .slice (some ⟨b, 0, none⟩) len (len + 1)], .agg #[.int .i64 n, .slice A len cap]] w fun e w' => e = .returned (.bool true) ∧ Below w.heap.size w w' := by
  have hgl : b < w.heap.size := (Array.getElem?_eq_some_iff.1 hg).1
  have hg2 : ∀ o p, ((w.alloc o).alloc p).heap[b]? = some (.cells ((xs ++ [spW]).flatMap Wr.cells).toArray 75 (0, 0)) := fun o p => (Below.heap_alloc _ _ _ (by simp; omega)).trans ((Below.heap_alloc _ _ _ hgl).trans hg)
  have hw2 : ∀ o p, WsAt ((w.alloc o).alloc p) ((w.alloc o).alloc p).heap.size A len xs := fun o p => (hw.below (((Below.refl _ _).alloc (Nat.le_refl _) _).alloc (by simp) _)).more (by simp; omega)
  have Hg2 := Lib.hid hg2
  clear hg hg2
  go_enter Tryz.func13, Tryz.ntmps13
  go_wp2_with fail
  refine (leftW_any b A len cap xs _ (Hg2.out _ _) (hw2 _ _) hreach).mono ?_
  rintro e w2 ⟨rfl, hb2⟩
  go_wp2_with fail
  go_ret
  exact ⟨rfl, below_two (hb2.mono (by simp))⟩

theorem bel_drewN {B : Nat} {w X : World} (h : Below B w X) (n : Nat) : Below B w (X.drewN n) := ⟨h.os, h.tape, h.output, h.size, h.block⟩
def wsz : Int → List Wr → Int
  | n, [] => n
  | n, x :: r => if n ≤ 1048576 then wsz (n + x.key.size + x.val.size) r else n
theorem wsz_drop {ws : List Wr} {j : Nat} {x : Wr} {q : Int} (h : ws[j]? = some x) : wsz q (ws.drop j) = if q ≤ 1048576 then wsz (q + x.key.size + x.val.size) (ws.drop (j + 1)) else q := by
  rw [drop_get h, wsz]
theorem wsizex_any (A : Option Addr) (len cap : Nat) (ws : List Wr) (w : World) (hw : WsAt w w.heap.size A len ws) (hl : len ≤ 4398046511104) (hs : ∀ x ∈ ws, x.key.size ≤ 140737488351232 ∧ x.val.size ≤ 140737488351232) :
    Calls Tryz.prog 58 #[.slice A len cap] w fun e w' => e = .returned (.int .i64 (wsz len ws)) ∧ (0 ≤ wsz len ws ∧ wsz len ws ≤ 1125899906842624) ∧ Below w.heap.size w w' := by
  have Hs := Lib.hid hs
  have hlen := Lib.hid hw.len
  have hfin : ∀ (q : Int) (w' : World), wsz len ws = q → 0 ≤ q → q ≤ 1125899906842624 → Below w.heap.size w w' → (Ending.returned (.int .i64 q) = .returned (.int .i64 (wsz len ws)) ∧ (0 ≤ wsz len ws ∧ wsz len ws ≤ 1125899906842624) ∧ Below w.heap.size w w') := fun q w' h h0 h1 h' => by subst h; exact ⟨rfl, ⟨h0, h1⟩, h'⟩
  have Hf := Lib.hid hfin
  clear hs hfin
  go_enter Tryz.func58, Tryz.ntmps58
  go_wp2_with fail
  go_loopw [3, 4] (fun n i wr => ∃ (j : Nat) (q : Int), j ≤ len ∧ i = .int .i64 j ∧ n = .int .i64 q ∧ 0 ≤ q ∧ q ≤ 1125899906842624 ∧ Hid (wsz len ws = wsz q (ws.drop j)) ∧ Below w.heap.size w wr) (fun _ i _ => len - (RowKit.intOf i).toNat)
  case atStart => exact ⟨0, len, by omega, rfl, rfl, by omega, by omega, Lib.hid rfl, Below.refl _ _⟩
  case round =>
    obtain ⟨j, q, hj, rfl, rfl, q0, q1, He, hb⟩ := hrel
    have hr := hw.below hb
    have Hb := Lib.hid hb
    clear hb
    by_cases hlt : j < len
    · obtain ⟨b, off, x, rfl, hbl, hx, x0, x1, x2⟩ := WsAt.cell3 hr hlt
      have hsz := Hs.out x (List.mem_of_getElem? hx)
      obtain ⟨z0, z1⟩ := hsz
      have hd := wsz_drop (q := q) hx
      have Hd := Lib.hid hd
      clear hx hr hd
      by_cases hq : q ≤ 1048576
      · go_wp2_with fail
        go_quiet (fail)
        go_wp2_with fail
        exact ⟨⟨j + 1, _, by omega, by go_num, rfl, by omega, by omega, Lib.hid (by rw [He.out, Hd.out, if_pos hq]), bel_drewN Hb.out _⟩, by simp [RowKit.intOf]; omega⟩
      · go_wp2_with fail
        go_ret
        exact Hf.out q _ (by rw [He.out, Hd.out, if_neg (by omega)]) q0 q1 Hb.out
    · go_wp2_with fail
      go_ret
      exact Hf.out q _ (by rw [He.out, List.drop_of_length_le (by have := hlen.out; omega)]; rfl) q0 q1 Hb.out
def tsz (ws : List Wr) : Int := 1 + wsz ws.length ws
theorem tsizex_any (n : Int) (A : Option Addr) (len cap : Nat) (ws : List Wr) (w : World) (hw : WsAt w w.heap.size A len ws) (hl : len ≤ 4398046511104) (hs : ∀ x ∈ ws, x.key.size ≤ 140737488351232 ∧ x.val.size ≤ 140737488351232) :
    Calls Tryz.prog 9 #[.agg #[.int .i64 n, .slice A len cap]] w fun e w' => e = .returned (.int .i64 (tsz ws)) ∧ (0 ≤ tsz ws ∧ tsz ws ≤ 1125899906842625) ∧ Below w.heap.size w w' := by
  have hw2 : ∀ o, WsAt (w.alloc o) (w.alloc o).heap.size A len ws := fun o => (hw.below ((Below.refl _ _).alloc (Nat.le_refl _) _)).more (by simp)
  have ht : tsz ws = 1 + wsz len ws := by unfold tsz; rw [hw.len]
  rw [ht]
  clear ht
  go_enter Tryz.func9, Tryz.ntmps9
  go_wp2_with fail
  refine (wsizex_any A len cap ws _ (hw2 _) hl hs).mono ?_
  rintro e w1 ⟨rfl, ⟨q0, q1⟩, hb1⟩
  have Hb1 := Lib.hid (((Below.refl _ _).alloc (Nat.le_refl _) _).trans (hb1.mono (by simp)))
  clear hb1
  go_wp2_with fail
  go_ret
  exact ⟨rfl, ⟨by omega, by omega⟩, Hb1.out⟩
end Go.Proofs.YtfafhfjmoijaeaaGreatDoor

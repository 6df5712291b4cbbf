/- FoldLinks: the walk of its law. -/
import Derived.Test.YtdcnaieieggclaaMD
import Derived.Test.YtdcnaieieggclaaMC
import Derived.Deep.DeepCutAuto
namespace Go.Proofs.Ytdcnaieieggclaa
open Go.RowKit
set_option linter.unusedVariables false
set_option linter.unusedSimpArgs false

open Go.Maps
theorem info_bools : (Try.prog.info? 34).map (fun i => (i.zero, i.size, i.bytes)) = some (some (.slice none 0 0), 1, 24) := by kernel_rfl
theorem info_bool : (Try.prog.info? 4).map (fun i => (i.zero, i.size, i.bytes)) = some (some (.bool false), 1, 1) := by kernel_rfl
/-- The rows of a table of Bools, in the slice of slices g: those from 1 on, below t. -/
def RowsAt (w : World) (g n t : Nat) (F : Nat → Nat → Bool) (B : Nat) : Prop := ∀ i, 1 ≤ i → i < t → ∃ b, g < b ∧ b < B ∧ w.cell? ⟨g, i, none⟩ = some (.slice (some ⟨b, 0, none⟩) (n + 1) (n + 1)) ∧ ∀ j, i < j → j ≤ n → w.cell? ⟨b, j, none⟩ = some (.bool (F i j))
theorem RowsAt.below {w w' : World} {B g n t : Nat} {F : Nat → Nat → Bool} (h : RowsAt w g n t F B) (hb : Below B w w') (hg : g < B) : RowsAt w' g n t F B := fun i h1 h2 => by
  obtain ⟨b, h3, h4, h5, h6⟩ := h i h1 h2
  exact ⟨b, h3, h4, (hb.cell (p := ⟨g, i, none⟩) hg).trans h5, fun j h7 h8 => (hb.cell (p := ⟨b, j, none⟩) h4).trans (h6 j h7 h8)⟩
theorem HB_set {B : Nat} {w X : World} (h : Below B w X) {b i : Nat} (hb : B ≤ b) (u : Value) : Below B w (X.setCell ⟨b, i, none⟩ u) := h.setCell hb u
def linkF (rs : List RTx) (i j : Nat) : Bool := CB rs (i - 1) (j - 1)
set_option maxHeartbeats 8000000 in
set_option maxRecDepth 100000 in
theorem lawlinks_any (A : Option Addr) (len cap : Nat) (rs : List RTx) (w : World) (hw : TxsAt w w.heap.size A len rs) (hl : len * 32 ≤ 140737488351232) (hc : len ≤ cap)
    (hs : ∀ r ∈ rs, ∀ x ∈ r.ws, x.key.size ≤ 140737488351232 ∧ x.val.size ≤ 140737488351232) :
    Calls Try.prog 4 #[.slice A len cap] w (TrueB w) := by
  have hlen := Lib.hid hw.1.len
  have Hs := Lib.hid hs
  obtain ⟨i0, hi, hz0, hz1, hz2⟩ := info_parts info_bools
  obtain ⟨i1, hi1, hy0, hy1, hy2⟩ := info_parts info_bool
  clear hs
  go_enter Try.func4, Try.ntmps4
  go_wp2_with fail
  refine (alive_any _).mono ?_
  rintro e w1 ⟨rfl, hb1⟩
  have hs1 := hb1.size
  have hw1 := (hw.below hb1).more hs1
  have Hb1 := Lib.hid hb1
  clear hb1
  go_wp2_with fail
  refine (txsize_any A len cap rs _ hw1 (by omega) Hs.out).mono ?_
  rintro e w2 ⟨q, rfl, q0, q1, hb2⟩
  have hs2 := hb2.size
  have hq : RowAt Icell 1 (w2.alloc (.cells #[.int .i64 q] 3)) (w2.alloc (.cells #[.int .i64 q] 3)).heap.size (some ⟨w2.heap.size, 0, none⟩) 1 [q] := rowAt_block [q] (len_int _) (blk_new _ _) (by simp) (fun j u hu => by simpa [Icell] using hu)
  have Hq := Lib.hid hq
  have Hb2 := Lib.hid (Hb1.out.trans (hb2.mono hs1))
  clear hq hb2 hw1
  go_wp2_with fail
  refine (beyond_any _ 1 1 [q] _ Hq.out (by omega) (fun x hx => by simp at hx; omega)).mono ?_
  rintro e w3 ⟨bb, rfl, hb3⟩
  have hb3' : Below w.heap.size w w3 := Hb2.out.trans (((bel_alloc (Below.refl _ _) _).trans (hb3.mono (by simp))).mono (by omega))
  have hw3 := (hw.below hb3').more hb3'.size
  have Hb3 := Lib.hid hb3'
  have hs3 := hb3'.size
  clear hb3 hb3'
  cases bb
  case true =>
    clear hw3
    go_wp2_with fail
    refine (alive_any _).mono ?_
    rintro e w4 ⟨rfl, hb4⟩
    have Hb4 := Lib.hid (Hb3.out.trans (hb4.mono hs3))
    clear hb4
    go_wp2_with fail
    go_ret
    exact ⟨rfl, Hb4.out⟩
  go_wp2_with fail
  refine (may_any A len cap rs _ hw3 (by omega)).mono ?_
  rintro e w4 ⟨rfl, hb4⟩
  have hb4' : Below w.heap.size w w4 := Hb3.out.trans (hb4.mono hs3)
  have hw4 := (hw.below hb4').more hb4'.size
  have Hb4 := Lib.hid hb4'
  have hs4 := hb4'.size
  clear hb4 hb4' hw3
  by_cases he : logErr rs 1 = 0
  case neg =>
    have hd : decide (logErr rs 1 = 0) = false := decide_eq_false he
    rw [hd]
    clear hw4 hd he
    go_wp2_with fail
    refine (alive_any _).mono ?_
    rintro e w5 ⟨rfl, hb5⟩
    have Hb5 := Lib.hid (Hb4.out.trans (hb5.mono hs4))
    clear hb5
    go_wp2_with fail
    go_ret
    exact ⟨rfl, Hb5.out⟩
  have hd : decide (logErr rs 1 = 0) = true := decide_eq_true he
  rw [hd]
  have He := Lib.hid he
  clear hd he
  by_cases h200 : 14 < len
  case pos =>
    clear hw4
    go_wp2_with fail
    refine (alive_any _).mono ?_
    rintro e w5 ⟨rfl, hb5⟩
    have Hb5 := Lib.hid (Hb4.out.trans (hb5.mono hs4))
    clear hb5
    go_wp2_with fail
    go_ret
    exact ⟨rfl, Hb5.out⟩
  have hl2 : len ≤ 14 := by omega
  have hd2 : decide (14 < (len : Int)) = false := by rw [decide_eq_false_iff_not]; omega
  go_wp2_with (at_make; refine wpList_make_full _ rfl _ _ 33 rfl w4.heap.size 34 i0 _ 1 Try.underlying33 hi hz0 hz1 _ _ _ _ (len + 1) rfl rfl (by omega) (by omega) (by rw [hz2]; omega) (by simp only [maxLen]; omega) (Nat.le_refl _) ?_; intro w5 hown5 hg5)
  have hb5 : Below w4.heap.size w4 w5 := (Below.refl _ _).grown hg5 (Nat.le_refl _) (fun k hk => by cases hk)
  have hblk5 := blk_of_own hown5
  have hsz5 : ((madeCells (Value.slice none 0 0).cells ((len + 1) * 1)).toList.toArray).size = len + 1 := by have := hown5.1; simpa using this
  have hlt5 := blk_lt hblk5
  obtain ⟨C5, hC5⟩ : ∃ C5, C5 = (madeCells (Value.slice none 0 0).cells ((len + 1) * 1)).toList.toArray := ⟨_, rfl⟩
  rw [← hC5] at hblk5 hsz5
  have Hblk5 := Lib.hid hblk5
  have Hsz5 := Lib.hid hsz5
  have Hb5 := Lib.hid hb5
  clear hC5 hblk5 hsz5 hb5 hown5 hg5
  obtain ⟨g, hg⟩ : ∃ g, g = w4.heap.size := ⟨_, rfl⟩
  rw [← hg] at hlt5
  have Hg := Lib.hid hg
  go_wp2_with fail
  rw [← hg]
  clear hg
  go_loopw [5] (fun i wr => ∃ (t : Nat) (C : Array Value), 1 ≤ t ∧ t ≤ len + 1 ∧ i = .int .i64 t ∧ Hid (wr.heap[g]? = some (.cells C 34 (0, 0))) ∧ C.size = len + 1 ∧ Hid (RowsAt wr g len t (linkF rs) wr.heap.size) ∧ Hid (Below g w4 wr) ∧ g < wr.heap.size) (fun i _ => len + 1 - (RowKit.intOf i).toNat)
  case atStart => exact ⟨1, C5, Nat.le_refl _, by omega, rfl, Lib.hid (by rw [Hg.out]; exact Hblk5.out), Hsz5.out, Lib.hid (fun i h1 h2 => by omega), Lib.hid (by rw [Hg.out]; exact Hb5.out), hlt5⟩
  case round =>
    obtain ⟨t, C, ht1, ht2, rfl, HC, hCs, HR, Hb, hgl⟩ := hrel
    by_cases hlt : t < len + 1
    · have hCt : C[t]? = some (C[t]'(by omega)) := Array.getElem?_eq_getElem _
      generalize C[t]'(by omega) = c0 at hCt
      have HCt := Lib.hid hCt
      clear hCt
      go_wp2_with (at_make; refine wpList_make_full _ rfl _ _ 34 rfl wr.heap.size 4 i1 _ 1 Try.underlying34 hi1 hy0 hy1 _ _ _ _ (len + 1) rfl rfl (by omega) (by omega) (by rw [hy2]; omega) (by simp only [maxLen]; omega) (Nat.le_refl _) ?_; intro w6 hown6 hg6; have hb6 : Below wr.heap.size wr w6 := (Below.refl _ _).grown hg6 (Nat.le_refl _) (fun k hk => by cases hk); have hblk6 := (hb6.block g hgl).trans HC.out; have x0 := (blk_cell hblk6 t).trans HCt.out; have x1 := blk_frozen hblk6 t; have Hblk6 := Lib.hid hblk6; have Hb6 := Lib.hid hb6; have Hown6 := Lib.hid hown6; clear hblk6 hb6 hown6 hg6)
      obtain ⟨bR, hbR⟩ : ∃ bR, bR = wr.heap.size := ⟨_, rfl⟩
      have hblkb := blk_of_own Hown6.out
      have hRs : ((madeCells (Value.bool false).cells ((len + 1) * 1)).toList.toArray).size = len + 1 := by have := Hown6.out.1; simpa using this
      obtain ⟨R0, hR0⟩ : ∃ R0, R0 = (madeCells (Value.bool false).cells ((len + 1) * 1)).toList.toArray := ⟨_, rfl⟩
      rw [← hR0] at hblkb hRs
      rw [← hbR] at hblkb ⊢
      have hgb : g < bR := by omega
      obtain ⟨w7, hw7⟩ : ∃ w7, w7 = w6.setCell ⟨g, t, none⟩ (.slice (some ⟨bR, 0, none⟩) (len + 1) (len + 1)) := ⟨_, rfl⟩
      rw [← hw7]
      have hblk7 : w7.heap[g]? = some (.cells (C.setIfInBounds t (.slice (some ⟨bR, 0, none⟩) (len + 1) (len + 1))) 34 (0, 0)) := by rw [hw7]; exact blk_set Hblk6.out _ _
      have hblk7b : w7.heap[bR]? = some (.cells R0 4 (0, 0)) := by rw [hw7, Below.heap_setCell _ _ _ _ (by show bR ≠ g; omega)]; exact hblkb
      have hold : ∀ (q : Nat), q < bR → q ≠ g → ∀ o, w7.cell? ⟨q, o, none⟩ = wr.cell? ⟨q, o, none⟩ := fun q h1 h2 o => by
        rw [hw7, World.cell?_setCell_other _ _ _ _ (by simp; try (intro h; exact absurd h.symm h2))]
        exact Hb6.out.cell (p := ⟨q, o, none⟩) (by show q < _; omega)
      have hR7 : RowsAt w7 g len t (linkF rs) bR := fun i h1 h2 => by
        obtain ⟨b, h3, h4, h5, h6⟩ := HR.out i h1 h2
        refine ⟨b, h3, by omega, ?_, fun j h7 h8 => (hold b (by omega) (by omega) j).trans (h6 j h7 h8)⟩
        rw [hw7, World.cell?_setCell_other _ _ _ _ (by simp; try omega)]
        exact (Hb6.out.cell (p := ⟨g, i, none⟩) (by show g < _; omega)).trans h5
      have hb7 : Below g w4 w7 := by
        rw [hw7]
        exact (HB_set (Hb.out.trans (Hb6.out.mono (by omega))) (Nat.le_refl _) _)
      have hcell7 : w7.cell? ⟨g, t, none⟩ = some (.slice (some ⟨bR, 0, none⟩) (len + 1) (len + 1)) := by rw [hw7]; exact World.cell?_setCell_same _ _ _ x0
      have hlt7 := blk_lt hblk7b
      have Hblk7 := Lib.hid hblk7
      have Hblk7b := Lib.hid hblk7b
      have HR7 := Lib.hid hR7
      have Hb7 := Lib.hid hb7
      have Hc7 := Lib.hid hcell7
      have HRs := Lib.hid hRs
      clear hw7 hblk7 hblk7b hold hR7 hb7 hcell7 hRs hblkb hR0 hbR x0 x1
      go_loopw [6] (fun i wi => ∃ (j : Nat) (R : Array Value), t + 1 ≤ j ∧ j ≤ len + 1 ∧ i = .int .i64 j ∧ Hid (wi.heap[bR]? = some (.cells R 4 (0, 0))) ∧ R.size = len + 1 ∧ Hid (∀ j', t < j' → j' < j → R[j']? = some (.bool (linkF rs t j'))) ∧ Hid (Below bR w7 wi) ∧ bR < wi.heap.size) (fun i _ => len + 1 - (RowKit.intOf i).toNat)
      case atStart => exact ⟨t + 1, R0, Nat.le_refl _, by omega, by first | rfl | go_num, Hblk7b, HRs.out, Lib.hid (fun j' h1 h2 => by omega), Lib.hid (Below.refl _ _), hlt7⟩
      case round =>
        obtain ⟨j, R, hj1, hj2, rfl, HRb, hRs, HRv, Hbi, hbl⟩ := hrel
        by_cases hjl : j < len + 1
        · have hwi : TxsAt wr wr.heap.size A len rs := by
            have h1 : Below w.heap.size w wr := by
              have h2 := Hbi.out
              have h3 : Below g w4 wr := Hb7.out.trans (h2.mono (by omega))
              exact Hb4.out.trans (h3.mono (by rw [Hg.out]; exact hs4))
            exact (hw.below h1).more h1.size
          have hca : chainAns rs (t : Int) (j : Int) = (linkF rs t j, 0) := by
            unfold chainAns linkF CB
            rw [if_neg (by rw [He.out]; simp), if_neg (by have := hlen.out; omega), show ((t : Int) - 1).toNat = t - 1 from by omega, show ((j : Int) - 1).toNat = j - 1 from by omega]
          have hch := chained_any A len cap rs (t : Int) (j : Int) wr hwi (by omega)
          rw [hca] at hch
          have Hch := Lib.hid hch
          have hRj : R[j]? = some (R[j]'(by omega)) := Array.getElem?_eq_getElem _
          generalize R[j]'(by omega) = r0 at hRj
          have HRj := Lib.hid hRj
          clear hwi hca hch hRj
          go_wp2_with fail
          refine Hch.out.mono ?_
          rintro e w8 ⟨rfl, hb8⟩
          have hblk8 := (hb8.block bR hbl).trans HRb.out
          have hsz8 := hb8.size
          have y0 := (blk_cell hblk8 j).trans HRj.out
          have y1 := blk_frozen hblk8 j
          have hb78 : Below bR w7 w8 := Hbi.out.trans (hb8.mono (by omega))
          have z0 := (hb78.cell (p := ⟨g, t, none⟩) hgb).trans Hc7.out
          have Hblk8 := Lib.hid hblk8
          have Hb78 := Lib.hid hb78
          generalize hv : linkF rs t j = v
          have Hv := Lib.hid hv
          clear hb8 hblk8 hb78 hv
          go_wp2_with fail
          refine ⟨⟨j + 1, R.setIfInBounds j (.bool v), by omega, by omega, by go_num, Lib.hid (blk_set Hblk8.out j _), by simpa using hRs, Lib.hid (fun j' h1 h2 => ?_), Lib.hid (HB_set Hb78.out (Nat.le_refl _) _), by simp [World.setCell]; omega⟩, by simp [RowKit.intOf]; omega⟩
          rw [Array.getElem?_setIfInBounds]
          by_cases hjj : j = j'
          · subst hjj; rw [if_pos rfl, if_pos (by omega), Hv.out]
          · rw [if_neg hjj]; exact HRv.out j' h1 (by omega)
        · obtain rfl : j = len + 1 := by omega
          have hRn : RowsAt wr g len (t + 1) (linkF rs) wr.heap.size := fun i h1 h2 => by
            by_cases hit : i = t
            · subst hit
              exact ⟨bR, hgb, hbl, (Hbi.out.cell (p := ⟨g, i, none⟩) hgb).trans Hc7.out, fun j h7 h8 => by rw [blk_cell HRb.out]; exact HRv.out j h7 (by omega)⟩
            · obtain ⟨b, h3, h4, h5, h6⟩ := HR7.out i h1 (by omega)
              exact ⟨b, h3, by omega, (Hbi.out.cell (p := ⟨g, i, none⟩) hgb).trans h5, fun j h7 h8 => (Hbi.out.cell (p := ⟨b, j, none⟩) h4).trans (h6 j h7 h8)⟩
          have HRn := Lib.hid hRn
          have hblkn := (Hbi.out.block g hgb).trans Hblk7.out
          have Hblkn := Lib.hid hblkn
          clear hRn hblkn
          go_wp2_with fail
          exact ⟨⟨t + 1, _, by omega, by omega, by go_num, Hblkn, by simpa using hCs, HRn, Lib.hid (Hb7.out.trans (Hbi.out.mono (by omega))), by omega⟩, by simp [RowKit.intOf]; omega⟩
    · obtain rfl : t = len + 1 := by omega
      rw [show ((len + 1 : Nat) : Int) = (len : Int) + 1 from by omega]
      have hdx : decide ((len : Int) + 1 ≤ (len : Int)) = false := by rw [decide_eq_false_iff_not]; omega
      go_wp2_with fail
      obtain ⟨w9, hw9⟩ : ∃ w9 : World, w9 = wr := ⟨_, rfl⟩
      subst hw9
      have hb09 : Below w.heap.size w w9 := Hb4.out.trans (Hb.out.mono (by rw [Hg.out]; exact hs4))
      have hT : ∀ X : World, Below w9.heap.size w9 X → TxsAt X w.heap.size A len rs ∧ Below w.heap.size w X ∧ RowsAt X g len (len + 1) (linkF rs) w9.heap.size ∧ w9.heap.size ≤ X.heap.size := fun X h =>
        have h0 : Below w.heap.size w X := hb09.trans (h.mono hb09.size)
        ⟨hw.below h0, h0, HR.out.below h hgl, h.size⟩
      have HT := Lib.hid hT
      have hs09 := hb09.size
      clear hT hb09
      go_loopw [9] (fun i wr => ∃ t : Nat, t ≤ len ∧ i = .int .i64 ((t : Int) + 1) ∧ Below w9.heap.size w9 wr) (fun i _ => len + 1 - (RowKit.intOf i).toNat)
      case atStart => exact ⟨0, by omega, by first | rfl | go_num, Below.refl _ _⟩
      case round =>
        obtain ⟨t, ht2, rfl, hb⟩ := hrel
        have Hbt := Lib.hid hb
        clear hb
        by_cases hlt : t < len
        · have hdt : decide ((t : Int) + 1 ≤ (len : Int)) = true := by rw [decide_eq_true_iff]; omega
          go_wp2_with fail
          go_loopw [10] (fun i wi => ∃ j : Nat, t + 1 ≤ j ∧ j ≤ len ∧ i = .int .i64 ((j : Int) + 1) ∧ Below w9.heap.size w9 wi) (fun i _ => len + 1 - (RowKit.intOf i).toNat)
          case atStart => exact ⟨t + 1, Nat.le_refl _, by omega, by first | rfl | go_num, Hbt.out⟩
          case round =>
            obtain ⟨j, hj1, hj2, rfl, hb⟩ := hrel
            obtain ⟨hr, -, -, hsr⟩ := HT.out _ hb
            have Hbj := Lib.hid hb
            clear hb
            by_cases hjl : j < len
            · have hdj : decide ((j : Int) + 1 ≤ (len : Int)) = true := by rw [decide_eq_true_iff]; omega
              obtain ⟨bb, off, r, rfl, hbl2, hx, x0, x1, hws, hrl⟩ := hr.cell2 (show t < len by omega)
              have hwt := wsOf_get hx
              have hwl := hws.len
              have Hx := Lib.hid hx
              have Hwt := Lib.hid hwt
              have Hwl := Lib.hid hwl
              clear hr hx hws hwt hwl
              go_wp2_with fail
              go_loopw [11, 12] (fun n k wi => ∃ q : Nat, q ≤ r.len ∧ k = .int .i64 q ∧ n = .bool ((r.ws.take q).any fun x => hasKey (wsOf rs j) x.key) ∧ Below w9.heap.size w9 wi) (fun _ k _ => r.len - (RowKit.intOf k).toNat)
              case atStart => exact ⟨0, by omega, rfl, rfl, Hbj.out⟩
              case round =>
                obtain ⟨q, hq, rfl, rfl, hb⟩ := hrel
                obtain ⟨hr, -, -, hsr2⟩ := HT.out _ hb
                have z1 := (hb.cell (p := ⟨bb, off + t * 2 + 1, none⟩) (by show bb < _; omega)).trans (((Hbj.out.cell (p := ⟨bb, off + t * 2 + 1, none⟩) (by show bb < _; omega)).symm).trans x1)
                have Hbq := Lib.hid hb
                clear hb
                by_cases hql : q < r.len
                · obtain ⟨b2, off2, x, hA2, hbl3, hx2, y0, y1, y2⟩ := WsAt.cell3 (hr.2 r (List.mem_of_getElem? Hx.out)).1 hql
                  obtain ⟨b3, off3, r3, he3, hbl4, hx4, u0, u1, hws4, hrl4⟩ := hr.cell2 (show j < len by omega)
                  simp only [Option.some.injEq, Addr.mk.injEq, and_true] at he3
                  obtain ⟨rfl, rfl⟩ := he3
                  have hcl := fun X (h : Below wr.heap.size wr X) => last_any r3.number r3.A r3.len r3.cap r3.ws x.key X ((hws4.below (h.mono (by omega))).more (by have := h.size; omega)) (by omega)
                  have hw3 := wsOf_get hx4
                  have Hw3 := Lib.hid hw3
                  have Hx2 := Lib.hid hx2
                  rw [hA2] at z1
                  clear hw3 hx2 hx4
                  obtain ⟨la, lb, lc, hlv⟩ : ∃ a b c, lastV (lastW r3.ws x.key) = .tuple #[.agg #[.string a, .string b, .bool c], .bool (hasKey (wsOf rs j) x.key)] := ⟨_, _, _, by unfold lastV; rw [lastW_has, ← Hw3.out]⟩
                  rw [hlv] at hcl
                  generalize hhk : hasKey (wsOf rs j) x.key = hk at hcl
                  have Hhk := Lib.hid hhk
                  have hSS : ∀ X : World, Below wr.heap.size wr X → X.cell? ⟨bb, off + t * 2 + 1, none⟩ = some (.slice (some ⟨b2, off2, none⟩) r.len r.cap) ∧ X.cell? ⟨b2, off2 + q * 3, none⟩ = some (.string x.key) ∧ X.cell? ⟨bb, off + j * 2, none⟩ = some (.int .i64 r3.number) ∧ X.cell? ⟨bb, off + j * 2 + 1, none⟩ = some (.slice r3.A r3.len r3.cap) := fun X h =>
                    ⟨(h.cell (p := ⟨bb, off + t * 2 + 1, none⟩) (by show bb < _; omega)).trans z1, (h.cell (p := ⟨b2, off2 + q * 3, none⟩) (by show b2 < _; omega)).trans y0, (h.cell (p := ⟨bb, off + j * 2, none⟩) (by show bb < _; omega)).trans u0, (h.cell (p := ⟨bb, off + j * 2 + 1, none⟩) (by show bb < _; omega)).trans u1⟩
                  have HSS := Lib.hid hSS
                  have Hcl := Lib.hid hcl
                  clear hSS hlv hcl hws4 hr hhk
                  generalize hpre : ((r.ws.take q).any fun x => hasKey (wsOf rs j) x.key) = pre
                  have Hpre := Lib.hid hpre
                  clear hpre
                  go_upto_region 26 with fail
                  go_cut [13, 14] (fun s13 s14 wx => s14 = .bool hk ∧ Below wr.heap.size wr wx)
                  case first =>
                    have e1 : IntKind.i64.wrap (t : Int) = t := (by rw [IntKind.wrap_i64]; omega)
                    have e2 : IntKind.i64.wrap (j : Int) = j := (by rw [IntKind.wrap_i64]; omega)
                    have e3 : (0 : Int) ≤ (t : Int) := by omega
                    have e4 : (0 : Int) ≤ (j : Int) := by omega
                    have e5 : (t : Int) < (len : Int) := by omega
                    have e6 : (j : Int) < (len : Int) := by omega
                    go_region_held3 (fun w' => w'.cell? ⟨bb, off + t * 2 + 1, none⟩ = some (.slice (some ⟨b2, off2, none⟩) r.len r.cap) ∧ w'.cell? ⟨b2, off2 + q * 3, none⟩ = some (.string x.key) ∧ w'.cell? ⟨bb, off + j * 2, none⟩ = some (.int .i64 r3.number) ∧ w'.cell? ⟨bb, off + j * 2 + 1, none⟩ = some (.slice r3.A r3.len r3.cap))
                      (first | (refine HSS.out _ ?_; (first | exact bel_drew (Below.refl _ _) | exact bel_drew (bel_alloc (Below.refl _ _) _) | exact Hb10.out | exact bel_alloc Hb10.out _ | exact bel_set (bel_set (bel_set Hb10.out (Nat.le_refl _) _) (Nat.le_refl _) _) (Nat.le_refl _) _ | exact bel_set (bel_set (bel_set (bel_alloc Hb10.out _) hs10 _) hs10 _) hs10 _)))
                      (first
                        | (go_at_call 20; refine (Hcl.out _ (bel_drew (Below.refl _ _))).mono ?_; rintro e w10 ⟨rfl, hb10⟩; have hbx : Below wr.heap.size wr w10 := (bel_drew (Below.refl _ _)).trans hb10; have hs10 := hbx.size; have Hb10 := Lib.hid hbx; clear hb10 hbx)
                        | (go_at_call 20; refine (Hcl.out _ (bel_drew (bel_alloc (Below.refl _ _) _))).mono ?_; rintro e w10 ⟨rfl, hb10⟩; have hbk : w10.heap[wr.heap.size]? = some (.cells #[.string ⟨#[]⟩, .string ⟨#[]⟩, .bool false] 39 (0, 0)) := (hb10.block wr.heap.size (by show wr.heap.size < _; simp)).trans (blk_new _ _); have hbx : Below wr.heap.size wr w10 := (bel_drew (bel_alloc (Below.refl _ _) _)).trans (hb10.mono (by show wr.heap.size ≤ _; simp)); have hs10 := hbx.size; have Hb10 := Lib.hid hbx; have k0 := blk_cell hbk 0; have k1 := blk_cell hbk 1; have k2 := blk_cell hbk 2; have f0 := blk_frozen hbk 0; have f1 := blk_frozen hbk 1; have f2 := blk_frozen hbk 2; simp only [List.getElem?_toArray, List.getElem?_cons_zero, List.getElem?_cons_succ] at k0 k1 k2; clear hb10 hbx hbk))
                    · go_wp2_with fail
                      go_meet
                      case rel => exact ⟨rfl, bel_alloc Hb10.out _⟩
                    · go_wp2_with fail
                      go_meet
                      case rel => exact ⟨rfl, bel_set (bel_set (bel_set Hb10.out (Nat.le_refl _) _) (Nat.le_refl _) _) (Nat.le_refl _) _⟩
                  case rest =>
                    obtain ⟨rfl, hbc⟩ := hcut
                    have Hbc := Lib.hid (Hbq.out.trans (hbc.mono hsr2))
                    clear hbc
                    cases pre
                    · go_wp2_with fail
                      exact ⟨⟨q + 1, by omega, by go_num, by rw [any_take_succ Hx2.out, Hpre.out, Hhk.out]; rfl, Hbc.out⟩, by simp [RowKit.intOf]; omega⟩
                    · go_wp2_with fail
                      exact ⟨⟨q + 1, by omega, by go_num, by rw [any_take_succ Hx2.out, Hpre.out]; rfl, Hbc.out⟩, by simp [RowKit.intOf]; omega⟩
                · obtain rfl : q = r.len := by omega
                  have hnear : ((r.ws.take r.len).any fun x => hasKey (wsOf rs j) x.key) = pairB rs t j := by
                    rw [List.take_of_length_le (by rw [Hwl.out]; exact Nat.le_refl _)]
                    unfold pairB neighB; rw [Hwt.out]
                  rw [hnear]
                  have hlink := CB_link rs (show t < j by omega)
                  have Hlink := Lib.hid hlink
                  generalize pairB rs t j = nb at hlink
                  have Hlink := Lib.hid hlink
                  clear hnear hr hlink
                  go_wp2_with fail
                  go_loopw [15, 16] (fun n k wi => ∃ u : Nat, t + 1 ≤ u ∧ u ≤ j ∧ k = .int .i64 ((u : Int) + 1) ∧ n = .bool ((List.range (u - t - 1)).any fun s => CB rs t (t + 1 + s) && CB rs (t + 1 + s) j) ∧ Below w9.heap.size w9 wi) (fun _ k _ => j + 1 - (RowKit.intOf k).toNat)
                  case atStart => exact ⟨t + 1, Nat.le_refl _, by omega, by first | rfl | go_num, by simp, Hbq.out⟩
                  case round =>
                    obtain ⟨u, hu1, hu2, rfl, rfl, hb⟩ := hrel
                    obtain ⟨-, -, hro, -⟩ := HT.out _ hb
                    obtain ⟨bt, hbt1, hbt2, hct, hvt⟩ := hro (t + 1) (by omega) (by omega)
                    have Hbu := Lib.hid hb
                    clear hb
                    by_cases huj : u < j
                    · obtain ⟨bu, hbu1, hbu2, hcu, hvu⟩ := hro (u + 1) (by omega) (by omega)
                      have e1 : wr.cell? ⟨bt, u + 1, none⟩ = some (.bool (CB rs t u)) := hvt (u + 1) (by omega) (by omega)
                      have e2 : wr.cell? ⟨bu, j + 1, none⟩ = some (.bool (CB rs u j)) := hvu (j + 1) (by omega) (by omega)
                      have hrg : ((List.range (u + 1 - t - 1)).any fun s => CB rs t (t + 1 + s) && CB rs (t + 1 + s) j) = (((List.range (u - t - 1)).any fun s => CB rs t (t + 1 + s) && CB rs (t + 1 + s) j) || (CB rs t u && CB rs u j)) := by
                        rw [show u + 1 - t - 1 = (u - t - 1) + 1 from by omega, List.range_succ, List.any_append]
                        simp only [List.any_cons, List.any_nil, Bool.or_false]
                        rw [show t + 1 + (u - t - 1) = u from by omega]
                      generalize hpre : ((List.range (u - t - 1)).any fun s => CB rs t (t + 1 + s) && CB rs (t + 1 + s) j) = pre at hrg
                      generalize CB rs t u = v1 at e1 hrg
                      generalize CB rs u j = v2 at e2 hrg
                      have Hrg := Lib.hid hrg
                      clear hrg hpre hro hvt hvu
                      cases pre
                      · cases v1
                        · go_wp2_with fail
                          exact ⟨⟨u + 1, by omega, by omega, by go_num, by rw [Hrg.out]; rfl, Hbu.out⟩, by simp [RowKit.intOf]; omega⟩
                        · go_wp2_with fail
                          exact ⟨⟨u + 1, by omega, by omega, by go_num, by rw [Hrg.out]; rfl, Hbu.out⟩, by simp [RowKit.intOf]; omega⟩
                      · go_wp2_with fail
                        exact ⟨⟨u + 1, by omega, by omega, by go_num, by rw [Hrg.out]; rfl, Hbu.out⟩, by simp [RowKit.intOf]; omega⟩
                    · obtain rfl : u = j := by omega
                      have e1 : wr.cell? ⟨bt, u + 1, none⟩ = some (.bool (CB rs t u)) := hvt (u + 1) (by omega) (by omega)
                      rw [Hlink.out] at e1
                      generalize ((List.range (u - t - 1)).any fun s => CB rs t (t + 1 + s) && CB rs (t + 1 + s) u) = pre at e1
                      clear hro hvt
                      cases nb <;> cases pre
                      all_goals
                        simp only [Bool.or_self, Bool.or_true, Bool.or_false, Bool.true_or, Bool.false_or] at e1
                        go_wp2_with fail
                        exact ⟨⟨u + 1, by omega, by omega, by go_num, Hbu.out⟩, by simp [RowKit.intOf]; omega⟩
            · obtain rfl : j = len := by omega
              clear hr
              go_wp2_with fail
              exact ⟨⟨t + 1, by omega, by go_num, Hbj.out⟩, by simp [RowKit.intOf]; omega⟩
        · obtain rfl : t = len := by omega
          have hfb := (HT.out _ Hbt.out).2.1
          have Hfb := Lib.hid hfb
          clear hfb
          go_wp2_with fail
          go_ret
          exact ⟨rfl, Hfb.out⟩
end Go.Proofs.Ytdcnaieieggclaa

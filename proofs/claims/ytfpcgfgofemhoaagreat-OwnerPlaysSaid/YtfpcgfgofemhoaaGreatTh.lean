/- towpathlaw01: TwinHelds, LeftHelds. -/
import Derived.Test.YtfpcgfgofemhoaaGreatON
import Derived.Test.YtfpcgfgofemhoaaGreatPT
import Derived.Deep.RegionHeld3
namespace Go.Proofs.YtfpcgfgofemhoaaGreat
open Go.RowKit
set_option linter.unusedVariables false
set_option linter.unusedSimpArgs false

set_option maxRecDepth 100000
def spV : Ver := ⟨7777, ⟨#[]⟩, false⟩
set_option maxHeartbeats 1000000 in
theorem twinV_any (A : Option Addr) (len cap : Nat) (xs : List Ver) (w : World) (hw : RowAt Ver.cells 3 w w.heap.size A len xs) (hreach : len * 32 ≤ 140737488351232) :
    Calls Tryz.prog 52 #[.slice A len cap] w fun e w' => e = .returned (.slice (some ⟨w.heap.size, 0, none⟩) len (len + 1)) ∧ w'.heap[w.heap.size]? = some (.cells ((xs ++ [spV]).flatMap Ver.cells).toArray 104 (0, 0)) ∧ Below w.heap.size w w' := by
  have hlen := Lib.hid hw.len
  obtain ⟨i0, hi, hz0, hz1, hz2⟩ := info_parts info_ver
  go_enter Tryz.func52, Tryz.ntmps52
  go_wp2_with (at_make; refine wpList_make_own _ rfl _ _ 68 rfl w.heap.size 104 i0 _ 3 Tryz.underlying68 hi hz0 hz1 _ _ _ (len + 1) rfl rfl (by omega) (by rw [hz2]; omega) (by simp only [maxLen]; omega) (Nat.le_refl _) ?_; intro w1 hown1 hgrow1)
  have hs1 : w.heap.size < w1.heap.size := (hown1.lt _ rfl).2
  have hbw1 : Below w.heap.size w w1 := (Below.refl _ _).grown hgrow1 (Nat.le_refl _) (fun k hk => by cases hk)
  go_wp2_with fail
  go_loopw [3, 4] (fun v i wr => ∃ k : Nat, k ≤ len ∧ i = .int .i64 k ∧ v = .slice (some ⟨w.heap.size, 0, none⟩) k (len + 1) ∧ wr.ownsRow w.heap.size 104 3 (.slice (some ⟨w.heap.size, 0, none⟩) k (len + 1)) k ((xs.take k).flatMap Ver.cells) ∧ Below w.heap.size w wr) (fun _ i _ => len - (RowKit.intOf i).toNat)
  case atStart => exact ⟨0, Nat.zero_le _, rfl, rfl, hown1, hbw1⟩
  case round =>
    obtain ⟨k, hk, rfl, rfl, hown, hb⟩ := hrel
    have hr := hw.below hb
    have Hb := Lib.hid hb
    have hs := hb.size
    have hgl := (hown.lt _ rfl).2
    clear hb hown1 hgrow1 hbw1
    by_cases hlt : k < len
    · obtain ⟨b, off, x, rfl, hbl, hx, hxc⟩ := hr.at_ hlt
      have x0 := hxc 0 _ rfl
      have x1 := hxc 1 _ rfl
      have x2 := hxc 2 _ rfl
      simp only [Nat.add_zero] at x0
      have Hx := Lib.hid hx
      clear hx hxc
      go_wp2_with (at_builtin; refine wpList_append_fits _ rfl _ _ 68 rfl w.heap.size 104 i0 3 Tryz.underlying68 hi hz1 w.heap.size k (len + 1) _ rfl (hown.alloc _) ⟨wr.heap.size, 0, none⟩ 1 1 (Ver.cells x) rfl rfl (cells_new _ _ _) (one_ver x) (by omega) ?_; intro w2 hown2 hg2)
      have hbl2 := below_grown_new hown hg2 (by omega)
      refine ⟨⟨k + 1, by omega, by go_num, rfl, ?_, Hb.out.trans hbl2⟩, by simp [RowKit.intOf]; omega⟩
      rw [take_snoc_flat Hx.out]; exact hown2
    · have hkl : k = len := by omega
      subst hkl
      have htk : xs.take k = xs := List.take_of_length_le (by have := hlen.out; omega)
      rw [htk] at hown
      go_wp2_with (at_builtin; refine wpList_append_fits _ rfl _ _ 68 rfl w.heap.size 104 i0 3 Tryz.underlying68 hi hz1 w.heap.size k (k + 1) _ rfl (hown.alloc _) ⟨wr.heap.size, 0, none⟩ 1 1 (Ver.cells spV) rfl rfl (cells_new _ _ _) (one_ver spV) (by omega) ?_; intro w2 hown2 hg2)
      have hbl2 := below_grown_new hown hg2 (by omega)
      go_wp2_with fail
      go_ret
      exact ⟨rfl, by simpa using blk_of_own hown2, Hb.out.trans hbl2⟩

set_option maxHeartbeats 1000000 in
theorem leftV_any (g : Nat) (A : Option Addr) (len cap : Nat) (xs : List Ver) (w : World) (hg : w.heap[g]? = some (.cells ((xs ++ [spV]).flatMap Ver.cells).toArray 104 (0, 0))) (hw : RowAt Ver.cells 3 w w.heap.size A len xs) (hreach : len * 32 ≤ 140737488351232) :
    Calls Tryz.prog 59 #[.slice (some ⟨g, 0, none⟩) len (len + 1), .slice A len cap] w fun e w' => e = .returned (.bool true) ∧ Below w.heap.size w w' := by
  have hlen := Lib.hid hw.len
  have hgl : g < w.heap.size := (Array.getElem?_eq_some_iff.1 hg).1
  have hrow := row_of_blk (len_ver _) hg hgl
  rw [hw.len] at hrow
  have hb0 := beq_self_eq_true (len : Int)
  go_enter Tryz.func59, Tryz.ntmps59
  go_wp2_with fail
  go_loopw [5] (fun i wr => ∃ k : Nat, k ≤ len ∧ i = .int .i64 k ∧ Below w.heap.size w wr) (fun i _ => len - (RowKit.intOf i).toNat)
  case atStart => exact ⟨0, Nat.zero_le _, rfl, Below.refl _ _⟩
  case round =>
    obtain ⟨k, hk, rfl, hb⟩ := hrel
    have hr := hw.below hb
    have ht := hrow.below hb
    have Hb := Lib.hid hb
    have hs := hb.size
    clear hb
    by_cases hlt : k < len
    · obtain ⟨b, off, x, rfl, hbl, hx, hxc⟩ := hr.at_ hlt
      have x0 := hxc 0 _ rfl
      have x1 := hxc 1 _ rfl
      have x2 := hxc 2 _ rfl
      simp only [Nat.add_zero] at x0
      obtain ⟨b', off', y, he, hbl', hy, hyc⟩ := ht.at_ (show k < len + 1 by omega)
      have y0 := hyc 0 _ rfl
      have y1 := hyc 1 _ rfl
      have y2 := hyc 2 _ rfl
      simp only [Nat.add_zero] at y0
      simp only [Option.some.injEq, Addr.mk.injEq, and_true] at he
      obtain ⟨rfl, rfl⟩ := he
      have hyx : y = x := by
        rw [List.getElem?_append_left (by have := hlen.out; omega), hx] at hy
        exact (Option.some.inj hy).symm
      subst hyx
      clear hx hy hxc hyc
      simp only [Nat.zero_add] at y0 y1 y2
      go_wp2_with fail
      go_quiet (fail)
      go_wp2_with fail
      exact ⟨⟨k + 1, by omega, by go_num, below_drewN Hb.out _⟩, by simp [RowKit.intOf]; omega⟩
    · have hkl : k = len := by omega
      subst hkl
      obtain ⟨b', off', y, he, hbl', hy, hyc⟩ := ht.at_ (show k < k + 1 by omega)
      have y0 := hyc 0 _ rfl
      have y1 := hyc 1 _ rfl
      have y2 := hyc 2 _ rfl
      simp only [Nat.add_zero] at y0
      simp only [Option.some.injEq, Addr.mk.injEq, and_true] at he
      obtain ⟨rfl, rfl⟩ := he
      have hyx : y = spV := by
        rw [List.getElem?_append_right (by have := hlen.out; omega), hlen.out] at hy
        simpa using hy.symm
      subst hyx
      clear hy hyc
      simp only [Nat.zero_add, spV] at y0 y1 y2
      have hk1 : (k : Int) < (k : Int) + 1 := by omega
      go_wp2_with fail
      go_ret
      exact ⟨rfl, by first | exact Hb.out.alloc (by omega) _ | exact Hb.out⟩
/-- Its writes' slice is a twin's: one more cell behind, a block of its own. -/
def HR.twin (r : HR) (w : World) (b : Nat) : Prop := r.A = some ⟨b, 0, none⟩ ∧ r.cap = r.len + 1 ∧ w.heap[b]? = some (.cells ((r.vs ++ [spV]).flatMap Ver.cells).toArray 104 (0, 0)) ∧ r.vs.length = r.len

set_option maxHeartbeats 1000000 in
theorem twinhd_any (n : ByteArray) (A : Option Addr) (len cap : Nat) (xs : List Ver) (w : World) (hw : VsAt w w.heap.size A len xs) (hreach : len * 32 ≤ 140737488351232) :
    Calls Tryz.prog 27 #[.agg #[.string n, .slice A len cap]] w fun e w' => ∃ b, w.heap.size < b ∧ b < w'.heap.size ∧ e = .returned (.agg #[.string n, .slice (some ⟨b, 0, none⟩) len (len + 1)]) ∧ w'.heap[b]? = some (.cells ((xs ++ [spV]).flatMap Ver.cells).toArray 104 (0, 0)) ∧ Below w.heap.size w w' := by
  obtain ⟨W2, hW2⟩ : ∃ W2 : World, W2 = (w.alloc (.cells #[.string n, .slice A len cap] 70)).alloc (.cells #[.string ⟨#[]⟩, .slice none 0 0] 70) := ⟨_, rfl⟩
  have hz : W2.heap.size = w.heap.size + 2 := by rw [hW2]; simp
  have hB : Below w.heap.size w W2 := by rw [hW2]; exact ((Below.refl _ _).alloc (Nat.le_refl _) _).alloc (by simp) _
  have c0 : W2.cell? ⟨w.heap.size, 0, none⟩ = some (.string n) := by rw [hW2]; simp [go_sem]
  have c1 : W2.cell? ⟨w.heap.size, 1, none⟩ = some (.slice A len cap) := by rw [hW2]; simp [go_sem]
  have d0 : W2.cell? ⟨w.heap.size + 1, 0, none⟩ = some (.string ⟨#[]⟩) := by rw [hW2]; simp [go_sem]
  have d1 : W2.cell? ⟨w.heap.size + 1, 1, none⟩ = some (.slice none 0 0) := by rw [hW2]; simp [go_sem]
  have f0 : W2.frozen? ⟨w.heap.size + 1, 0, none⟩ = false := by rw [hW2]; simp [go_sem]
  have f1 : W2.frozen? ⟨w.heap.size + 1, 1, none⟩ = false := by rw [hW2]; simp [go_sem]
  have hw2 := (hw.below hB).more hB.size
  go_enter Tryz.func27, Tryz.ntmps27
  go_wp2_with fail
  rw [← hW2]
  have HW2 := Lib.hid hW2
  have hw2d : VsAt W2.drew W2.drew.heap.size A len xs := hw2
  have Hz := Lib.hid hz
  have hlt : w.heap.size + 1 < W2.heap.size := by omega
  clear hW2 hz
  have hne : w.heap.size ≠ w.heap.size + 1 := by omega
  go_region_held3 (fun w' => w'.cell? ⟨w.heap.size, 0, none⟩ = some (.string n) ∧ w'.cell? ⟨w.heap.size, 1, none⟩ = some (.slice A len cap))
    (first | exact ⟨c0, c1⟩ | exact ⟨g0, g1⟩ | (refine ⟨?_, ?_⟩ <;> (rw [World.cell?_setCell_other _ _ _ _ (by simp), World.cell?_setCell_other _ _ _ _ (by simp)]; assumption)))
    (first
      | (go_at_call 52; refine (twinV_any A len cap xs _ hw2d hreach).mono ?_; rintro e w1 ⟨rfl, hblk, hb1⟩; have hbx : Below W2.heap.size W2 w1 := (Below.refl _ _).drew.trans hb1; have Hblk := Lib.hid hblk; have Hbx := Lib.hid hbx; have g0 := (hbx.cell (p := ⟨w.heap.size, 0, none⟩) (by show w.heap.size < _; omega)).trans c0; have g1 := (hbx.cell (p := ⟨w.heap.size, 1, none⟩) (by show w.heap.size < _; omega)).trans c1; have g2 := (hbx.cell (p := ⟨w.heap.size + 1, 0, none⟩) hlt).trans d0; have g3 := (hbx.cell (p := ⟨w.heap.size + 1, 1, none⟩) hlt).trans d1; have g4 := (hbx.frozen (p := ⟨w.heap.size + 1, 0, none⟩) hlt).trans f0; have g5 := (hbx.frozen (p := ⟨w.heap.size + 1, 1, none⟩) hlt).trans f1; clear hblk hb1 hbx))
  go_wp2_with fail
  have r0 : ((w1.setCell ⟨w.heap.size + 1, 0, none⟩ (.string n)).setCell ⟨w.heap.size + 1, 1, none⟩ (.slice (some ⟨W2.heap.size, 0, none⟩) len (len + 1))).cell? ⟨w.heap.size + 1, 0, none⟩ = some (.string n) := by
    rw [World.cell?_setCell_other _ _ _ _ (by simp)]; exact World.cell?_setCell_same _ _ _ g2
  have r1 : ((w1.setCell ⟨w.heap.size + 1, 0, none⟩ (.string n)).setCell ⟨w.heap.size + 1, 1, none⟩ (.slice (some ⟨W2.heap.size, 0, none⟩) len (len + 1))).cell? ⟨w.heap.size + 1, 1, none⟩ = some (.slice (some ⟨W2.heap.size, 0, none⟩) len (len + 1)) :=
    World.cell?_setCell_same _ _ _ (by rw [World.cell?_setCell_other _ _ _ _ (by simp)]; exact g3)
  have hz2 := Hz.out
  have hsz := Hbx.out.size
  have hs1 : W2.heap.size < w1.heap.size := by
    have := Hblk.out
    exact (Array.getElem?_eq_some_iff.1 this).1
  have hB2 : Below w.heap.size w w1 := hB.trans (Hbx.out.mono (by omega))
  refine bodyPost_ret (v := .agg #[.string n, .slice (some ⟨W2.heap.size, 0, none⟩) len (len + 1)]) (by simp [results, Tryz.results27, go_sem, r0, r1]) rfl ⟨W2.heap.size, by omega, by simp [World.setCell]; omega, rfl, ?_, (hB2.setCell (by simp) _).setCell (by simp) _⟩
  rw [Below.heap_setCell _ _ _ _ (by simp; omega), Below.heap_setCell _ _ _ _ (by simp; omega)]
  exact Hblk.out

/-- r' is r's twin in w, its writes in a block above g. -/
def HwOk (w : World) (g : Nat) (r r' : HR) : Prop := r'.key = r.key ∧ r'.vs = r.vs ∧ r'.len = r.len ∧ ∃ b, g < b ∧ b < w.heap.size ∧ r'.twin w b
theorem HwOk.keep {w w' : World} {g : Nat} {r r' : HR} (h : HwOk w g r r') (hz : w.heap.size ≤ w'.heap.size) (hk : ∀ b, g < b → b < w.heap.size → w'.heap[b]? = w.heap[b]?) : HwOk w' g r r' := by
  obtain ⟨h1, h2, h3, b, h4, h5, h6, h7, h8, h9⟩ := h
  exact ⟨h1, h2, h3, b, h4, by omega, h6, h7, (hk b h4 h5).trans h8, h9⟩
def HwAll (w : World) (g : Nat) (rs rs' : List HR) : Prop := ∀ (i : Nat) (r r' : HR), rs[i]? = some r → rs'[i]? = some r' → HwOk w g r r'
theorem HwAll.keep {w w' : World} {g : Nat} {rs rs' : List HR} (h : HwAll w g rs rs') (hz : w.heap.size ≤ w'.heap.size) (hk : ∀ b, g < b → b < w.heap.size → w'.heap[b]? = w.heap[b]?) : HwAll w' g rs rs' :=
  fun i r r' hr hr' => (h i r r' hr hr').keep hz hk
theorem HwAll.snoc {w : World} {g : Nat} {rs rs' : List HR} {r r' : HR} (h : HwAll w g rs rs') (hr : rs[rs'.length]? = some r) (hok : HwOk w g r r') : HwAll w g rs (rs' ++ [r']) := by
  intro i a b ha hb
  rw [List.getElem?_append] at hb
  split at hb
  · exact h i a b ha hb
  · rename_i hi
    have hlt := (List.getElem?_eq_some_iff.1 hb).1
    simp at hlt
    have : i = rs'.length := by omega
    subst this
    rw [hr] at ha
    simp at hb ha
    subst ha hb
    exact hok
def spH : HR := ⟨⟨#[115, 112, 97, 114, 101]⟩, none, 0, 0, []⟩

set_option maxHeartbeats 1000000 in
theorem twinH_any (A : Option Addr) (len cap : Nat) (rs : List HR) (w : World) (hw : HdsAt w w.heap.size A len rs) (hlv : ∀ h ∈ rs, h.len * 32 ≤ 140737488351232) (hreach : len * 40 ≤ 140737488351232) :
    Calls Tryz.prog 9 #[.slice A len cap] w fun e w' => ∃ rs', rs'.length = len ∧ e = .returned (.slice (some ⟨w.heap.size, 0, none⟩) len (len + 1)) ∧ w'.heap[w.heap.size]? = some (.cells ((rs' ++ [spH]).flatMap HR.cells).toArray 70 (0, 0)) ∧ HwAll w' w.heap.size rs rs' ∧ Below w.heap.size w w' := by
  have hlen := Lib.hid hw.1.len
  obtain ⟨i0, hi, hz0, hz1, hz2⟩ := info_parts info_held
  go_enter Tryz.func9, Tryz.ntmps9
  go_wp2_with (at_make; refine wpList_make_own _ rfl _ _ 22 rfl w.heap.size 70 i0 _ 2 Tryz.underlying22 hi hz0 hz1 _ _ _ (len + 1) rfl rfl (by omega) (by rw [hz2]; omega) (by simp only [maxLen]; omega) (Nat.le_refl _) ?_; intro w1 hown1 hgrow1)
  have hs1 : w.heap.size < w1.heap.size := (hown1.lt _ rfl).2
  have hbw1 : Below w.heap.size w w1 := (Below.refl _ _).grown hgrow1 (Nat.le_refl _) (fun k hk => by cases hk)
  go_wp2_with fail
  go_loopw [3, 4] (fun v i wr => ∃ (k : Nat) (rs' : List HR), k ≤ len ∧ i = .int .i64 k ∧ v = .slice (some ⟨w.heap.size, 0, none⟩) k (len + 1) ∧ rs'.length = k ∧ wr.ownsRow w.heap.size 70 2 (.slice (some ⟨w.heap.size, 0, none⟩) k (len + 1)) k (rs'.flatMap HR.cells) ∧ HwAll wr w.heap.size rs rs' ∧ Below w.heap.size w wr) (fun _ i _ => len - (RowKit.intOf i).toNat)
  case atStart => exact ⟨0, [], Nat.zero_le _, rfl, rfl, rfl, hown1, fun i r r' _ h => by simp at h, hbw1⟩
  case round =>
    obtain ⟨k, rs', hk, rfl, rfl, hl', hown, htw, hb⟩ := hrel
    have hr := hw.below hb
    have Hb := Lib.hid hb
    have Hl' := Lib.hid hl'
    have hs := hb.size
    have hgl := (hown.lt _ rfl).2
    clear hb hown1 hgrow1 hbw1 hl'
    by_cases hlt : k < len
    · obtain ⟨b, off, r, rfl, hbl, hx, x0, x1, hws, -, -⟩ := hr.cell2 hlt
      have hrl := hlv r (List.mem_of_getElem? hx)
      have Hx := Lib.hid hx
      have hws' := hws.more hs
      clear hx
      go_wp2_with fail
      refine (twinhd_any r.key r.A r.len r.cap r.vs _ hws' hrl).mono ?_
      rintro e w2 ⟨b2, hb21, hb22, rfl, hblk, hb2⟩
      have Hblk := Lib.hid hblk
      have hown2 := ownsRow_below hown hb2
      have htw2 := htw.keep hb2.size (fun b _ hbl => hb2.block b hbl)
      have Hb2 := Lib.hid hb2
      have hs2 := hb2.size
      clear hblk hb2
      go_wp2_with (at_builtin; refine wpList_append_fits _ rfl _ _ 22 rfl w.heap.size 70 i0 2 Tryz.underlying22 hi hz1 w.heap.size k (len + 1) _ rfl (hown2.alloc _) ⟨w2.heap.size, 0, none⟩ 1 1 (HR.cells ⟨r.key, some ⟨b2, 0, none⟩, r.len, r.len + 1, r.vs⟩) rfl rfl (cells_new _ _ _) (one_hr _) (by omega) ?_; intro w3 hown3 hg3)
      have hbl3 := below_grown_new hown2 hg3 (by omega)
      have hk3 : ∀ b, w.heap.size < b → b < w2.heap.size → w3.heap[b]? = w2.heap[b]? := fun b h1 h2 => (hg3.block b (by simp; omega) (by simp; omega)).trans (Below.heap_alloc _ _ _ h2)
      have hz3 : w2.heap.size ≤ w3.heap.size := by have := hg3.size; simp at this; omega
      have hws3 := (hws.len)
      refine ⟨⟨k + 1, rs' ++ [⟨r.key, some ⟨b2, 0, none⟩, r.len, r.len + 1, r.vs⟩], by omega, by go_num, rfl, by simp [Hl'.out], ?_, ?_, (Hb.out.trans (Hb2.out.mono (by omega))).trans hbl3⟩, by simp [RowKit.intOf]; omega⟩
      · rw [List.flatMap_append]; simpa using hown3
      · refine (htw2.keep hz3 hk3).snoc (r := r) (by rw [Hl'.out]; exact Hx.out) ⟨rfl, rfl, rfl, b2, by omega, by omega, rfl, rfl, ?_, hws3⟩
        rw [hk3 b2 (by omega) hb22]; exact Hblk.out
    · have hkl : k = len := by omega
      subst hkl
      go_wp2_with (at_builtin; refine wpList_append_fits _ rfl _ _ 22 rfl w.heap.size 70 i0 2 Tryz.underlying22 hi hz1 w.heap.size k (k + 1) _ rfl (hown.alloc _) ⟨wr.heap.size, 0, none⟩ 1 1 spH.cells rfl rfl (cells_new _ _ _) (one_hr _) (by omega) ?_; intro w2 hown2 hg2)
      have hbl2 := below_grown_new hown hg2 (by omega)
      have hk3 : ∀ b, w.heap.size < b → b < wr.heap.size → w2.heap[b]? = wr.heap[b]? := fun b h1 h2 => (hg2.block b (by simp; omega) (by simp; omega)).trans (Below.heap_alloc _ _ _ h2)
      have hz3 : wr.heap.size ≤ w2.heap.size := by have := hg2.size; simp at this; omega
      have htw3 := htw.keep hz3 hk3
      clear hk3 htw hown
      go_wp2_with fail
      go_ret
      exact ⟨rs', Hl'.out, rfl, by simpa using blk_of_own hown2, htw3, Hb.out.trans hbl2⟩

set_option maxHeartbeats 1000000 in
theorem lefthd_any (n : ByteArray) (b : Nat) (A : Option Addr) (len cap : Nat) (xs : List Ver) (w : World) (hg : w.heap[b]? = some (.cells ((xs ++ [spV]).flatMap Ver.cells).toArray 104 (0, 0))) (hw : VsAt w w.heap.size A len xs) (hreach : len * 32 ≤ 140737488351232) :
    Calls Tryz.prog 31 #[.agg #[.string n, .slice (some ⟨b, 0, none⟩) len (len + 1)], .agg #[.string n, .slice A len cap]] w fun e w' => e = .returned (.bool true) ∧ Below w.heap.size w w' := by
  have hgl : b < w.heap.size := (Array.getElem?_eq_some_iff.1 hg).1
  have hg2 : ∀ o p, ((w.alloc o).alloc p).heap[b]? = some (.cells ((xs ++ [spV]).flatMap Ver.cells).toArray 104 (0, 0)) := fun o p => (Below.heap_alloc _ _ _ (by simp; omega)).trans ((Below.heap_alloc _ _ _ hgl).trans hg)
  have hw2 : ∀ o p, VsAt ((w.alloc o).alloc p) ((w.alloc o).alloc p).heap.size A len xs := fun o p => (hw.below (((Below.refl _ _).alloc (Nat.le_refl _) _).alloc (by simp) _)).more (by simp; omega)
  have Hg2 := Lib.hid hg2
  clear hg hg2
  go_enter Tryz.func31, Tryz.ntmps31
  go_wp2_with fail
  refine (leftV_any b A len cap xs _ (Hg2.out _ _) (hw2 _ _) hreach).mono ?_
  rintro e w2 ⟨rfl, hb2⟩
  go_wp2_with fail
  go_ret
  exact ⟨rfl, (((Below.refl _ _).alloc (Nat.le_refl _) _).alloc (by simp) _).trans (hb2.mono (by simp; omega))⟩

set_option maxHeartbeats 1000000 in
theorem leftH_any (g : Nat) (A : Option Addr) (len cap : Nat) (rs rs' : List HR) (w : World) (hl' : rs'.length = len) (hg : w.heap[g]? = some (.cells ((rs' ++ [spH]).flatMap HR.cells).toArray 70 (0, 0))) (htw : HwAll w g rs rs') (hw : HdsAt w w.heap.size A len rs) (hlv : ∀ h ∈ rs, h.len * 32 ≤ 140737488351232) (hreach : len * 40 ≤ 140737488351232) :
    Calls Tryz.prog 12 #[.slice (some ⟨g, 0, none⟩) len (len + 1), .slice A len cap] w fun e w' => e = .returned (.bool true) ∧ Below w.heap.size w w' := by
  have hgl : g < w.heap.size := (Array.getElem?_eq_some_iff.1 hg).1
  have hrow := row_of_blk (len_hr _) hg hgl
  rw [hl'] at hrow
  have hb0 := beq_self_eq_true (len : Int)
  have Hl' := Lib.hid hl'
  have Htw := Lib.hid htw
  clear hl' htw hg
  go_enter Tryz.func12, Tryz.ntmps12
  go_wp2_with fail
  go_loopw [5] (fun i wr => ∃ k : Nat, k ≤ len ∧ i = .int .i64 k ∧ Below w.heap.size w wr) (fun i _ => len - (RowKit.intOf i).toNat)
  case atStart => exact ⟨0, Nat.zero_le _, rfl, Below.refl _ _⟩
  case round =>
    obtain ⟨k, hk, rfl, hb⟩ := hrel
    have hr := hw.below hb
    have ht := hrow.below hb
    have Hb := Lib.hid hb
    have hs := hb.size
    clear hb
    by_cases hlt : k < len
    · obtain ⟨b, off, r, rfl, hbl, hx, x0, x1, hws, -, -⟩ := hr.cell2 hlt
      have hrl := hlv r (List.mem_of_getElem? hx)
      obtain ⟨b', off', r', he, hbl', hy, hyc⟩ := ht.at_ (show k < len + 1 by omega)
      simp only [Option.some.injEq, Addr.mk.injEq, and_true] at he
      obtain ⟨rfl, rfl⟩ := he
      rw [List.getElem?_append_left (by have := Hl'.out; omega)] at hy
      obtain ⟨e1, e2, e3, bb, h4, h5, h6, h7, h8, h9⟩ := Htw.out k r r' hx hy
      have y0 := hyc 0 _ rfl
      have y1 := hyc 1 _ rfl
      rw [e1] at y0
      rw [h6, e3, h7, e3] at y1
      rw [e2] at h8
      simp only [Nat.zero_add, Nat.add_zero] at y0 y1
      have hblk : wr.drew.heap[bb]? = _ := (Hb.out.block bb h5).trans h8
      have hwsd : VsAt wr.drew wr.drew.heap.size r.A r.len r.vs := hws.more hs
      have Hblk := Lib.hid hblk
      clear hx hy e1 e2 e3 h6 h7 h8 h9 hyc hblk
      go_wp2_with fail
      go_region_held3 (fun w' => w'.cell? ⟨b, off + k * 2, none⟩ = some (.string r.key) ∧ w'.cell? ⟨b, off + k * 2 + 1, none⟩ = some (.slice r.A r.len r.cap) ∧ w'.cell? ⟨g, k * 2, none⟩ = some (.string r.key) ∧ w'.cell? ⟨g, k * 2 + 1, none⟩ = some (.slice (some ⟨bb, 0, none⟩) r.len (r.len + 1)))
        (first | exact ⟨x0, x1, y0, y1⟩ | exact ⟨(hbx.cell (p := ⟨b, off + k * 2, none⟩) (by show b < _; omega)).trans x0, (hbx.cell (p := ⟨b, off + k * 2 + 1, none⟩) (by show b < _; omega)).trans x1, (hbx.cell (p := ⟨g, k * 2, none⟩) (by show g < _; omega)).trans y0, (hbx.cell (p := ⟨g, k * 2 + 1, none⟩) (by show g < _; omega)).trans y1⟩)
        (first | (go_at_call 31; refine (lefthd_any r.key bb r.A r.len r.cap r.vs wr.drew Hblk.out hwsd hrl).mono ?_; rintro e w1 ⟨rfl, hb1⟩; have hbx : Below wr.heap.size wr w1 := (Below.refl _ _).drew.trans hb1; have Hbx := Lib.hid hbx; clear hb1))
      go_wp2_with fail
      exact ⟨⟨k + 1, by omega, by go_num, Hb.out.trans (Hbx.out.mono hs)⟩, by simp [RowKit.intOf]; omega⟩
    · have hkl : k = len := by omega
      subst hkl
      obtain ⟨b', off', r', he, hbl', hy, hyc⟩ := ht.at_ (show k < k + 1 by omega)
      simp only [Option.some.injEq, Addr.mk.injEq, and_true] at he
      obtain ⟨rfl, rfl⟩ := he
      have hyx : r' = spH := by
        rw [List.getElem?_append_right (by have := Hl'.out; omega), Hl'.out] at hy
        simpa using hy.symm
      subst hyx
      have y0 := hyc 0 _ rfl
      have y1 := hyc 1 _ rfl
      clear hy hyc
      simp only [Nat.zero_add, Nat.add_zero, spH] at y0 y1
      have hk1 : (k : Int) < (k : Int) + 1 := by omega
      go_wp2_with fail
      go_ret
      exact ⟨rfl, Hb.out.alloc (by omega) _⟩
end Go.Proofs.YtfpcgfgofemhoaaGreat

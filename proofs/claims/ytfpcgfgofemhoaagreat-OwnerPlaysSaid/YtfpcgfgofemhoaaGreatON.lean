/- Lemmas and contracts of functions that statements of this seat stand on, many texts in one; each holds under the premises typed in its head. -/
import Derived.Test.YtfpcgfgofemhoaaGreatPT
import Derived.Test.YtfpcgfgofemhoaaGreatShA
import Derived.Test.YtfpcgfgofemhoaaGreatOR
import Derived.Test.YtfpcgfgofemhoaaGreatRows
import Derived.Deep.DeepCutAuto
import Derived.Deep.RegionHeld3
import Derived.Test.YtfpcgfgofemhoaaGreatOl4
import Derived.Test.YtfpcgfgofemhoaaGreatOwF
import Derived.Test.YtfpcgfgofemhoaaGreatOl2
/- towpathlaw01: TwinInts, LeftInts, TwinReq, LeftReq. -/
namespace Go.Proofs.YtfpcgfgofemhoaaGreat
open Go.RowKit
set_option linter.unusedVariables false
set_option linter.unusedSimpArgs false

set_option maxRecDepth 100000
theorem take_snoc_flat {α : Type} {cells : α → List Value} {l : List α} {k : Nat} {x : α} (h : l[k]? = some x) : (l.take (k + 1)).flatMap cells = (l.take k).flatMap cells ++ cells x := by
  rw [List.take_add_one, h]; simp
theorem blk_of_own {w : World} {base g n size : Nat} {e : TypeId} {xs : List Value} (h : w.ownsRow base e size (.slice (some ⟨g, 0, none⟩) n n) n xs) : w.heap[g]? = some (.cells xs.toArray e (0, 0)) := by
  obtain ⟨h1, h2 | ⟨g', cap, cur, hv, hg, hh, hn, hc, hsz, ht⟩⟩ := h
  · simp at h2
  · simp at hv
    obtain ⟨rfl, rfl⟩ := hv
    rw [hh]
    have : cur.toList = xs := by rw [← ht, List.take_of_length_le (by rw [Array.length_toList, hsz]; exact Nat.le_refl _)]
    rw [← this]
/-- A row of one element more, that lies in one block. -/
theorem row_of_blk {α : Type} {cells : α → List Value} {size : Nat} {w : World} {g B : Nat} {e : TypeId} {xs : List α} {sp : α} (hs : ∀ x ∈ xs ++ [sp], (cells x).length = size) (h : w.heap[g]? = some (.cells ((xs ++ [sp]).flatMap cells).toArray e (0, 0))) (hB : g < B) :
    RowAt cells size w B (some ⟨g, 0, none⟩) (xs.length + 1) (xs ++ [sp]) := by
  have := rowAt_block (B := B) (xs ++ [sp]) hs h hB (fun j u hu => by simpa using hu)
  simpa using this
theorem below_grown_new {w w' : World} {o : Obj} {v : Value} {base n size : Nat} {e : TypeId} {xs : List Value} (h : w.ownsRow base e size v n xs) (hg : (w.alloc o).grownBy w' v.ownBlock) (hb : base ≤ w.heap.size) : Below base w w' :=
  ((Below.refl _ _).alloc hb o).grown hg (by simp; omega) (fun k hk => (h.lt k hk).1)
def spI : Int := 7777
theorem info_intn : (Tryz.prog.info? 3).map (fun i => (i.zero, i.size, i.bytes)) = some (some (.int .i64 0), 1, 8) := by kernel_rfl
set_option maxHeartbeats 1000000 in
theorem twinI_any (A : Option Addr) (len cap : Nat) (xs : List Int) (w : World) (hw : RowAt Icell 1 w w.heap.size A len xs) (hreach : len * 8 ≤ 140737488351232) :
    Calls Tryz.prog 41 #[.slice A len cap] w fun e w' => e = .returned (.slice (some ⟨w.heap.size, 0, none⟩) len (len + 1)) ∧ w'.heap[w.heap.size]? = some (.cells ((xs ++ [spI]).flatMap Icell).toArray 3 (0, 0)) ∧ Below w.heap.size w w' := by
  have hlen := Lib.hid hw.len
  obtain ⟨i0, hi, hz0, hz1, hz2⟩ := info_parts info_intn
  go_enter Tryz.func41, Tryz.ntmps41
  go_wp2_with (at_make; refine wpList_make_own _ rfl _ _ 34 rfl w.heap.size 3 i0 _ 1 Tryz.underlying34 hi hz0 hz1 _ _ _ (len + 1) rfl rfl (by omega) (by rw [hz2]; omega) (by simp only [maxLen]; omega) (Nat.le_refl _) ?_; intro w1 hown1 hgrow1)
  have hs1 : w.heap.size < w1.heap.size := (hown1.lt _ rfl).2
  have hbw1 : Below w.heap.size w w1 := (Below.refl _ _).grown hgrow1 (Nat.le_refl _) (fun k hk => by cases hk)
  go_wp2_with fail
  go_loopw [3, 4] (fun v i wr => ∃ k : Nat, k ≤ len ∧ i = .int .i64 k ∧ v = .slice (some ⟨w.heap.size, 0, none⟩) k (len + 1) ∧ wr.ownsRow w.heap.size 3 1 (.slice (some ⟨w.heap.size, 0, none⟩) k (len + 1)) k ((xs.take k).flatMap Icell) ∧ Below w.heap.size w wr) (fun _ i _ => len - (RowKit.intOf i).toNat)
  case atStart => exact ⟨0, Nat.zero_le _, rfl, rfl, hown1, hbw1⟩
  case round =>
    obtain ⟨k, hk, rfl, rfl, hown, hb⟩ := hrel
    have hr := hw.below hb
    have Hb := Lib.hid hb
    have hs := hb.size
    have hgl := (hown.lt _ rfl).2
    clear hb hown1 hgrow1 hbw1
    by_cases hlt : k < len
    · obtain ⟨b, off, x, rfl, hbl, hx, hxc⟩ := hr.at_ hlt
      have x0 := hxc 0 _ rfl
      simp only [Nat.mul_one, Nat.add_zero] at x0
      have Hx := Lib.hid hx
      clear hx hxc
      go_wp2_with (at_builtin; refine wpList_append_fits _ rfl _ _ 34 rfl w.heap.size 3 i0 1 Tryz.underlying34 hi hz1 w.heap.size k (len + 1) _ rfl (hown.alloc _) ⟨wr.heap.size, 0, none⟩ 1 1 (Icell x) rfl rfl (cells_new _ _ _) (one_int x) (by omega) ?_; intro w2 hown2 hg2)
      have hbl2 := below_grown_new hown hg2 (by omega)
      refine ⟨⟨k + 1, by omega, by go_num, rfl, ?_, Hb.out.trans hbl2⟩, by simp [RowKit.intOf]; omega⟩
      rw [take_snoc_flat Hx.out]; exact hown2
    · have hkl : k = len := by omega
      subst hkl
      have htk : xs.take k = xs := List.take_of_length_le (by have := hlen.out; omega)
      rw [htk] at hown
      go_wp2_with (at_builtin; refine wpList_append_fits _ rfl _ _ 34 rfl w.heap.size 3 i0 1 Tryz.underlying34 hi hz1 w.heap.size k (k + 1) _ rfl (hown.alloc _) ⟨wr.heap.size, 0, none⟩ 1 1 (Icell spI) rfl rfl (cells_new _ _ _) (one_int spI) (by omega) ?_; intro w2 hown2 hg2)
      have hbl2 := below_grown_new hown hg2 (by omega)
      go_wp2_with fail
      go_ret
      exact ⟨rfl, by simpa using blk_of_own hown2, Hb.out.trans hbl2⟩

set_option maxHeartbeats 1000000 in
theorem leftI_any (g : Nat) (A : Option Addr) (len cap : Nat) (xs : List Int) (w : World) (hg : w.heap[g]? = some (.cells ((xs ++ [spI]).flatMap Icell).toArray 3 (0, 0))) (hw : RowAt Icell 1 w w.heap.size A len xs) (hreach : len * 8 ≤ 140737488351232) :
    Calls Tryz.prog 46 #[.slice (some ⟨g, 0, none⟩) len (len + 1), .slice A len cap] w fun e w' => e = .returned (.bool true) ∧ Below w.heap.size w w' := by
  have hlen := Lib.hid hw.len
  have hgl : g < w.heap.size := (Array.getElem?_eq_some_iff.1 hg).1
  have hrow := row_of_blk (len_int _) hg hgl
  rw [hw.len] at hrow
  have hb0 := beq_self_eq_true (len : Int)
  go_enter Tryz.func46, Tryz.ntmps46
  go_wp2_with fail
  go_loopw [5] (fun i wr => ∃ k : Nat, k ≤ len ∧ i = .int .i64 k ∧ Below w.heap.size w wr) (fun i _ => len - (RowKit.intOf i).toNat)
  case atStart => exact ⟨0, Nat.zero_le _, rfl, Below.refl _ _⟩
  case round =>
    obtain ⟨k, hk, rfl, hb⟩ := hrel
    have hr := hw.below hb
    have ht := hrow.below hb
    have Hb := Lib.hid hb
    have hs := hb.size
    clear hb
    by_cases hlt : k < len
    · obtain ⟨b, off, x, rfl, hbl, hx, hxc⟩ := hr.at_ hlt
      have x0 := hxc 0 _ rfl
      simp only [Nat.mul_one, Nat.add_zero] at x0
      obtain ⟨b', off', y, he, hbl', hy, hyc⟩ := ht.at_ (show k < len + 1 by omega)
      have y0 := hyc 0 _ rfl
      simp only [Nat.mul_one, Nat.add_zero] at y0
      simp only [Option.some.injEq, Addr.mk.injEq, and_true] at he
      obtain ⟨rfl, rfl⟩ := he
      have hyx : y = x := by
        rw [List.getElem?_append_left (by have := hlen.out; omega), hx] at hy
        exact (Option.some.inj hy).symm
      subst hyx
      clear hx hy hxc hyc
      simp only [Nat.zero_add] at y0
      go_wp2_with fail
      go_quiet (fail)
      go_wp2_with fail
      exact ⟨⟨k + 1, by omega, by go_num, below_drewN Hb.out _⟩, by simp [RowKit.intOf]; omega⟩
    · have hkl : k = len := by omega
      subst hkl
      obtain ⟨b', off', y, he, hbl', hy, hyc⟩ := ht.at_ (show k < k + 1 by omega)
      have y0 := hyc 0 _ rfl
      simp only [Nat.mul_one, Nat.add_zero] at y0
      simp only [Option.some.injEq, Addr.mk.injEq, and_true] at he
      obtain ⟨rfl, rfl⟩ := he
      have hyx : y = spI := by
        rw [List.getElem?_append_right (by have := hlen.out; omega), hlen.out] at hy
        simpa using hy.symm
      subst hyx
      clear hy hyc
      simp only [Nat.zero_add, spI] at y0
      have hk1 : (k : Int) < (k : Int) + 1 := by omega
      go_wp2_with fail
      go_ret
      exact ⟨rfl, by first | exact Hb.out.alloc (by omega) _ | exact Hb.out⟩
end Go.Proofs.YtfpcgfgofemhoaaGreat

/- towpathlaw01: TwinReq, LeftReq. -/
namespace Go.Proofs.YtfpcgfgofemhoaaGreat
open Go.RowKit
set_option linter.unusedVariables false
set_option linter.unusedSimpArgs false

set_option maxRecDepth 100000
theorem rqzz {X : World} {g : Nat} (kind from_ num : Int) (wk wv : ByteArray) (wd : Bool) (key fin : ByteArray) (A : Option Addr) (len cap : Nat) (hN : X.heap[g]? = some (.cells #[.int .u8 kind, .int .i64 from_, .int .i64 num, .string wk, .string wv, .bool wd, .string key, .string fin, .slice A len cap] 36 (0, 0))) :
    X.cell? ⟨g, 0, none⟩ = some (.int .u8 kind) ∧ X.cell? ⟨g, 1, none⟩ = some (.int .i64 from_) ∧ X.cell? ⟨g, 2, none⟩ = some (.int .i64 num) ∧ X.cell? ⟨g, 3, none⟩ = some (.string wk) ∧ X.cell? ⟨g, 4, none⟩ = some (.string wv) ∧ X.cell? ⟨g, 5, none⟩ = some (.bool wd) ∧
      X.cell? ⟨g, 6, none⟩ = some (.string key) ∧ X.cell? ⟨g, 7, none⟩ = some (.string fin) ∧ X.cell? ⟨g, 8, none⟩ = some (.slice A len cap) :=
  ⟨blk_cell hN 0, blk_cell hN 1, blk_cell hN 2, blk_cell hN 3, blk_cell hN 4, blk_cell hN 5, blk_cell hN 6, blk_cell hN 7, blk_cell hN 8⟩
set_option maxHeartbeats 4000000 in
theorem leftR_any (g : Nat) (r : Rq) (w : World) (hg : w.heap[g]? = some (.cells ((r.bs ++ [spI]).flatMap Icell).toArray 3 (0, 0))) (hi : RowAt Icell 1 w w.heap.size r.A r.len r.bs) (hreach : r.len * 8 ≤ 140737488351232) :
    Calls Tryz.prog 19 #[Rq.val { r with A := some ⟨g, 0, none⟩, cap := r.len + 1 }, r.val] w fun e w' => e = .returned (.bool true) ∧ Below w.heap.size w w' := by
  have hl : ∀ X, Below w.heap.size w X → Calls Tryz.prog 46 #[.slice (some ⟨g, 0, none⟩) r.len (r.len + 1), .slice r.A r.len r.cap] X fun e w' => e = .returned (.bool true) ∧ Below X.heap.size X w' := fun X hX => leftI_any g r.A r.len r.cap r.bs X ((hX.block _ (blk_lt hg)).trans hg) ((hi.below hX).more hX.size) hreach
  have HL := Lib.hid hl
  clear hl hg hi
  unfold Rq.val
  simp only
  go_enter Tryz.func19, Tryz.ntmps19
  go_upto_region 1 with fail
  obtain ⟨W, hW⟩ : ∃ W, W = (w.alloc (.cells #[.int .u8 r.kind, .int .i64 r.from_, .int .i64 r.num, .string r.wk, .string r.wv, .bool r.wd, .string r.key, .string r.fin, .slice (some ⟨g, 0, none⟩) r.len (r.len + 1)] 36)).alloc (.cells #[.int .u8 r.kind, .int .i64 r.from_, .int .i64 r.num, .string r.wk, .string r.wv, .bool r.wd, .string r.key, .string r.fin, .slice r.A r.len r.cap] 36) := ⟨_, rfl⟩
  rw [← hW]
  have HB : Hid (Below w.heap.size w W) := Lib.hid (hW ▸ bel_alloc (bel_alloc (Below.refl _ _) _) _)
  have hn1 : W.heap[w.heap.size]? = some (.cells #[.int .u8 r.kind, .int .i64 r.from_, .int .i64 r.num, .string r.wk, .string r.wv, .bool r.wd, .string r.key, .string r.fin, .slice (some ⟨g, 0, none⟩) r.len (r.len + 1)] 36 (0, 0)) := by
    rw [hW]; exact (Below.heap_alloc _ _ _ (by simp)).trans (blk_new _ _)
  have hn2 : W.heap[w.heap.size + 1]? = some (.cells #[.int .u8 r.kind, .int .i64 r.from_, .int .i64 r.num, .string r.wk, .string r.wv, .bool r.wd, .string r.key, .string r.fin, .slice r.A r.len r.cap] 36 (0, 0)) := by
    rw [hW]; exact blk_new2 _ _ _
  obtain ⟨a0, a1, a2, a3, a4, a5, a6, a7, a8⟩ := rqzz r.kind r.from_ r.num r.wk r.wv r.wd r.key r.fin _ _ _ hn1
  obtain ⟨b0, b1, b2, b3, b4, b5, b6, b7, b8⟩ := rqzz r.kind r.from_ r.num r.wk r.wv r.wd r.key r.fin _ _ _ hn2
  clear hW hn1 hn2
  go_wp2_with fail
  refine (HL.out W HB.out).mono ?_
  rintro e w2 ⟨rfl, hb2⟩
  have HB2 := Lib.hid (HB.out.trans (hb2.mono HB.out.size))
  clear hb2
  go_wp2_with fail
  go_ret
  exact ⟨rfl, HB2.out⟩
theorem set9 {X : World} {g : Nat} {t : TypeId} (h : X.heap[g]? = some (.cells zeroRq.cells.toArray t (0, 0))) (a b c d e f u v x : Value) :
    (((((((((X.setCell ⟨g, 0, none⟩ a).setCell ⟨g, 1, none⟩ b).setCell ⟨g, 2, none⟩ c).setCell ⟨g, 3, none⟩ d).setCell ⟨g, 4, none⟩ e).setCell ⟨g, 5, none⟩ f).setCell ⟨g, 6, none⟩ u).setCell ⟨g, 7, none⟩ v).setCell ⟨g, 8, none⟩ x).heap[g]? = some (.cells #[a, b, c, d, e, f, u, v, x] t (0, 0)) ∧ Kept X (((((((((X.setCell ⟨g, 0, none⟩ a).setCell ⟨g, 1, none⟩ b).setCell ⟨g, 2, none⟩ c).setCell ⟨g, 3, none⟩ d).setCell ⟨g, 4, none⟩ e).setCell ⟨g, 5, none⟩ f).setCell ⟨g, 6, none⟩ u).setCell ⟨g, 7, none⟩ v).setCell ⟨g, 8, none⟩ x) (fun k => k = g) := by
  have h0 := blk_set h 0 a
  have h1 := blk_set h0 1 b
  have h2 := blk_set h1 2 c
  have h3 := blk_set h2 3 d
  have h4 := blk_set h3 4 e
  have h5 := blk_set h4 5 f
  have h6 := blk_set h5 6 u
  have h7 := blk_set h6 7 v
  have h8 := blk_set h7 8 x
  have k0 := (Kept.refl X (fun k => k = g)).setCell (p := ⟨g, 0, none⟩) (Or.inl rfl) a
  have k1 := k0.setCell (p := ⟨g, 1, none⟩) (Or.inl rfl) b
  have k2 := k1.setCell (p := ⟨g, 2, none⟩) (Or.inl rfl) c
  have k3 := k2.setCell (p := ⟨g, 3, none⟩) (Or.inl rfl) d
  have k4 := k3.setCell (p := ⟨g, 4, none⟩) (Or.inl rfl) e
  have k5 := k4.setCell (p := ⟨g, 5, none⟩) (Or.inl rfl) f
  have k6 := k5.setCell (p := ⟨g, 6, none⟩) (Or.inl rfl) u
  have k7 := k6.setCell (p := ⟨g, 7, none⟩) (Or.inl rfl) v
  have k8 := k7.setCell (p := ⟨g, 8, none⟩) (Or.inl rfl) x
  refine ⟨?_, k8⟩
  rw [h8]
  simp [zeroRq, Rq.cells]
set_option maxHeartbeats 8000000 in
theorem twinR_any (r : Rq) (w : World) (hi : RowAt Icell 1 w w.heap.size r.A r.len r.bs) (hreach : r.len * 8 ≤ 140737488351232) :
    Calls Tryz.prog 16 #[r.val] w fun e w' => ∃ g, e = .returned (Rq.val { r with A := some ⟨g, 0, none⟩, cap := r.len + 1 }) ∧ w.heap.size ≤ g ∧ w'.heap[g]? = some (.cells ((r.bs ++ [spI]).flatMap Icell).toArray 3 (0, 0)) ∧ Below w.heap.size w w' := by
  have ht : ∀ X, Below w.heap.size w X → Calls Tryz.prog 41 #[.slice r.A r.len r.cap] X fun e w' => e = .returned (.slice (some ⟨X.heap.size, 0, none⟩) r.len (r.len + 1)) ∧ w'.heap[X.heap.size]? = some (.cells ((r.bs ++ [spI]).flatMap Icell).toArray 3 (0, 0)) ∧ Below X.heap.size X w' := fun X hX => twinI_any r.A r.len r.cap r.bs X ((hi.below hX).more hX.size) hreach
  have HT := Lib.hid ht
  clear ht hi
  unfold Rq.val
  simp only
  go_enter Tryz.func16, Tryz.ntmps16
  go_upto_region 1 with fail
  obtain ⟨W, hW⟩ : ∃ W, W = (w.alloc (.cells #[.int .u8 r.kind, .int .i64 r.from_, .int .i64 r.num, .string r.wk, .string r.wv, .bool r.wd, .string r.key, .string r.fin, .slice r.A r.len r.cap] 36)).alloc (.cells zeroRq.cells.toArray 36) := ⟨_, rfl⟩
  change Code.wp _ _ _ _ ((w.alloc (.cells #[.int .u8 r.kind, .int .i64 r.from_, .int .i64 r.num, .string r.wk, .string r.wv, .bool r.wd, .string r.key, .string r.fin, .slice r.A r.len r.cap] 36)).alloc (.cells zeroRq.cells.toArray 36))
  rw [← hW]
  have HB : Hid (Below w.heap.size w W) := Lib.hid (hW ▸ bel_alloc (bel_alloc (Below.refl _ _) _) _)
  have hn1 : W.heap[w.heap.size]? = some (.cells #[.int .u8 r.kind, .int .i64 r.from_, .int .i64 r.num, .string r.wk, .string r.wv, .bool r.wd, .string r.key, .string r.fin, .slice r.A r.len r.cap] 36 (0, 0)) := by
    rw [hW]; exact (Below.heap_alloc _ _ _ (by simp)).trans (blk_new _ _)
  have hn2 : W.heap[w.heap.size + 1]? = some (.cells zeroRq.cells.toArray 36 (0, 0)) := by
    rw [hW]; exact blk_new2 _ _ _
  have HN1 := Lib.hid hn1
  have HN2 := Lib.hid hn2
  clear hW hn1 hn2
  have hk : ∀ X, Kept W X (fun b => b = w.heap.size + 1) → X.cell? ⟨w.heap.size, 0, none⟩ = some (.int .u8 r.kind) ∧ X.cell? ⟨w.heap.size, 1, none⟩ = some (.int .i64 r.from_) ∧ X.cell? ⟨w.heap.size, 2, none⟩ = some (.int .i64 r.num) ∧ X.cell? ⟨w.heap.size, 3, none⟩ = some (.string r.wk) ∧ X.cell? ⟨w.heap.size, 4, none⟩ = some (.string r.wv) ∧ X.cell? ⟨w.heap.size, 5, none⟩ = some (.bool r.wd) ∧
      X.cell? ⟨w.heap.size, 6, none⟩ = some (.string r.key) ∧ X.cell? ⟨w.heap.size, 7, none⟩ = some (.string r.fin) ∧ X.cell? ⟨w.heap.size, 8, none⟩ = some (.slice r.A r.len r.cap) := fun X k => rqzz r.kind r.from_ r.num r.wk r.wv r.wd r.key r.fin _ _ _ (k.blk HN1.out (blk_lt HN1.out) (by omega))
  have HK := Lib.hid hk
  have HBd : Hid (Below w.heap.size w W.drew) := Lib.hid (bel_drew HB.out)
  have hds : w.heap.size ≤ W.drew.heap.size := HBd.out.size
  clear hk
  go_region_held3 (fun X => X.cell? ⟨w.heap.size, 0, none⟩ = some (.int .u8 r.kind) ∧ X.cell? ⟨w.heap.size, 1, none⟩ = some (.int .i64 r.from_) ∧ X.cell? ⟨w.heap.size, 2, none⟩ = some (.int .i64 r.num) ∧ X.cell? ⟨w.heap.size, 3, none⟩ = some (.string r.wk) ∧ X.cell? ⟨w.heap.size, 4, none⟩ = some (.string r.wv) ∧ X.cell? ⟨w.heap.size, 5, none⟩ = some (.bool r.wd) ∧
      X.cell? ⟨w.heap.size, 6, none⟩ = some (.string r.key) ∧ X.cell? ⟨w.heap.size, 7, none⟩ = some (.string r.fin) ∧ X.cell? ⟨w.heap.size, 8, none⟩ = some (.slice r.A r.len r.cap))
    (first | (with_reducible refine HK.out _ ?_; (first | with_reducible exact K9.out _ _ _ _ _ _ _ _ _ | with_reducible exact K3.out | exact Kept.of_below (Below.refl _ _).drew)))
    (first
      | (go_at_call 41; refine (HT.out _ HBd.out).mono ?_; rintro e w3 ⟨rfl, hg3, hb3⟩; have K3 : Hid (Kept W w3 (fun b => b = w.heap.size + 1)) := Lib.hid (Kept.of_below ((Below.refl W.heap.size W).drew.trans hb3)); have HB3 : Hid (Below w.heap.size w w3) := Lib.hid (HBd.out.trans (hb3.mono hds)); have n3 : w3.heap[w.heap.size + 1]? = some (.cells zeroRq.cells.toArray 36 (0, 0)) := (hb3.block _ (blk_lt HN2.out)).trans HN2.out; obtain ⟨t0, t1, t2, t3, t4, t5, t6, t7, t8⟩ := rqzz 0 0 0 ⟨#[]⟩ ⟨#[]⟩ false ⟨#[]⟩ ⟨#[]⟩ none 0 0 n3; have f0 := blk_frozen n3 0; have f1 := blk_frozen n3 1; have f2 := blk_frozen n3 2; have f3 := blk_frozen n3 3; have f4 := blk_frozen n3 4; have f5 := blk_frozen n3 5; have f6 := blk_frozen n3 6; have f7 := blk_frozen n3 7; have f8 := blk_frozen n3 8; have K9 : Hid (∀ (a b c d e f g h i : Value), Kept W (((((((((w3.setCell ⟨w.heap.size + 1, 0, none⟩ a).setCell ⟨w.heap.size + 1, 1, none⟩ b).setCell ⟨w.heap.size + 1, 2, none⟩ c).setCell ⟨w.heap.size + 1, 3, none⟩ d).setCell ⟨w.heap.size + 1, 4, none⟩ e).setCell ⟨w.heap.size + 1, 5, none⟩ f).setCell ⟨w.heap.size + 1, 6, none⟩ g).setCell ⟨w.heap.size + 1, 7, none⟩ h).setCell ⟨w.heap.size + 1, 8, none⟩ i) (fun b => b = w.heap.size + 1)) := Lib.hid (fun a b c d e f g h i => ((((((((K3.out.setCell (p := ⟨w.heap.size + 1, 0, none⟩) (Or.inl rfl) a).setCell (p := ⟨w.heap.size + 1, 1, none⟩) (Or.inl rfl) b).setCell (p := ⟨w.heap.size + 1, 2, none⟩) (Or.inl rfl) c).setCell (p := ⟨w.heap.size + 1, 3, none⟩) (Or.inl rfl) d).setCell (p := ⟨w.heap.size + 1, 4, none⟩) (Or.inl rfl) e).setCell (p := ⟨w.heap.size + 1, 5, none⟩) (Or.inl rfl) f).setCell (p := ⟨w.heap.size + 1, 6, none⟩) (Or.inl rfl) g).setCell (p := ⟨w.heap.size + 1, 7, none⟩) (Or.inl rfl) h).setCell (p := ⟨w.heap.size + 1, 8, none⟩) (Or.inl rfl) i); have HG3 := Lib.hid hg3; have HN3 := Lib.hid n3; clear hg3 hb3 n3))
  obtain ⟨m9, k9⟩ := set9 HN3.out (.int .u8 r.kind) (.int .i64 r.from_) (.int .i64 r.num) (.string r.wk) (.string r.wv) (.bool r.wd) (.string r.key) (.string r.fin) (.slice (some ⟨W.heap.size, 0, none⟩) r.len (r.len + 1))
  have hg9 := k9.blk HG3.out (blk_lt HG3.out) (by have := blk_lt HN2.out; show ¬ W.heap.size = _; omega)
  have HG9 := Lib.hid hg9
  have HM9 := Lib.hid m9
  have HB9 : Hid (Below w.heap.size w _) := Lib.hid (((Kept.of_below HB3.out).trans k9).below (Nat.le_refl _) (fun k hk => by omega))
  clear m9 k9 hg9 t0 t1 t2 t3 t4 t5 t6 t7 t8 f0 f1 f2 f3 f4 f5 f6 f7 f8
  go_wp2_with fail
  exact bodyPost_ret (results_cell_row rfl _ _ (w.heap.size + 1) _ _ _ _ rfl HM9.out Tryz.underlying36 rfl (by kernel_rfl)) rfl ⟨W.heap.size, rfl, HB.out.size, HG9.out, HB9.out⟩
end Go.Proofs.YtfpcgfgofemhoaaGreat

/- owner, towpathref15: an owner that is not there. -/
namespace Go.Proofs.YtfpcgfgofemhoaaGreat
open Go.RowKit
set_option linter.unusedVariables false
set_option linter.unusedSimpArgs false

set_option maxRecDepth 100000
/-- No owner: a nil pointer, or a pointer to a zero struct. -/
def NoOw (w : World) (po : Value) : Prop := po = .pointer none ∨ ∃ g, po = .pointer (some ⟨g, 0, none⟩) ∧ g < w.heap.size ∧ w.cell? ⟨g, 0, none⟩ = some (.pointer none)
theorem NoOw.below {w w' : World} {po : Value} (h : NoOw w po) (hb : Below w.heap.size w w') : NoOw w' po := by
  rcases h with h | ⟨g, h1, h2, h3⟩
  · exact Or.inl h
  · exact Or.inr ⟨g, h1, Nat.lt_of_lt_of_le h2 hb.size, (hb.cell (p := ⟨g, 0, none⟩) h2).trans h3⟩
theorem nthere_any (po : Value) (w : World) (h : NoOw w po) : Calls Tryz.prog 32 #[po] w fun e w' => e = .returned (.bool false) ∧ w' = w := by
  rcases h with rfl | ⟨g, rfl, -, h3⟩
  · go_enter Tryz.func32, Tryz.ntmps32
    go_wp2_with fail
    go_ret
    exact ⟨rfl, rfl⟩
  · go_enter Tryz.func32, Tryz.ntmps32
    go_wp2_with fail
    go_ret
    exact ⟨rfl, rfl⟩
theorem nlen_any (po : Value) (w : World) (h : NoOw w po) : Calls Tryz.prog 20 #[po] w fun e w' => e = .returned (.int .i64 0) ∧ w' = w := by
  have ht := Lib.hid (nthere_any po w h)
  clear h
  go_enter Tryz.func20, Tryz.ntmps20
  go_wp2_with fail
  refine ht.out.mono ?_
  rintro e w1 ⟨rfl, rfl⟩
  go_wp2_with fail
  go_ret
  exact ⟨rfl, rfl⟩
theorem nroom_any (po : Value) (w : World) (h : NoOw w po) : Calls Tryz.prog 22 #[po] w fun e w' => e = .returned (.int .i64 0) ∧ w' = w := by
  have ht := Lib.hid (nthere_any po w h)
  clear h
  go_enter Tryz.func22, Tryz.ntmps22
  go_wp2_with fail
  refine ht.out.mono ?_
  rintro e w1 ⟨rfl, rfl⟩
  go_wp2_with fail
  go_ret
  exact ⟨rfl, rfl⟩
theorem nall_any (po : Value) (w : World) (h : NoOw w po) : Calls Tryz.prog 25 #[po] w fun e w' => e = .returned (.slice none 0 0) ∧ w' = w := by
  have ht := Lib.hid (nthere_any po w h)
  clear h
  go_enter Tryz.func25, Tryz.ntmps25
  go_wp2_with fail
  refine ht.out.mono ?_
  rintro e w1 ⟨rfl, rfl⟩
  go_wp2_with fail
  go_ret
  exact ⟨rfl, rfl⟩
theorem nask_any (po : Value) (r : Rq) (w : World) (h : NoOw w po) : Calls Tryz.prog 17 #[po, r.val] w fun e w' => e = .returned (.tuple #[.bool false, .int .i64 2]) ∧ Below w.heap.size w w' := by
  have ht := Lib.hid (fun X (hX : Below w.heap.size w X) => nthere_any po X (h.below hX))
  clear h
  unfold Rq.val
  go_enter Tryz.func17, Tryz.ntmps17
  go_wp2_with fail
  refine (ht.out _ (bel_alloc (Below.refl _ _) _)).mono ?_
  rintro e w1 ⟨rfl, rfl⟩
  go_wp2_with fail
  go_ret2
  exact ⟨rfl, bel_alloc (Below.refl _ _) _⟩
theorem nserve_any (po : Value) (w : World) (h : NoOw w po) : Calls Tryz.prog 13 #[po] w fun e w' => e = .returned (.tuple #[.agg respZ, .int .i64 2]) ∧ Below w.heap.size w w' := by
  have ht := Lib.hid (fun X (hX : Below w.heap.size w X) => nthere_any po X (h.below hX))
  clear h
  go_enter Tryz.func13, Tryz.ntmps13
  go_wp2_with fail
  refine (ht.out _ (bel_alloc (Below.refl _ _) _)).mono ?_
  rintro e w1 ⟨rfl, rfl⟩
  go_wp2_with fail
  refine bodyPost_ret (results_ct_row rfl _ _ w.heap.size _ _ _ _ rfl (heap_alloc_new _ _) Tryz.underlying56 rfl (resp_info _ _ _ _ _)) rfl ⟨rfl, bel_alloc (Below.refl _ _) _⟩
theorem xask_any (r : Rq) (w : World) : Calls Tryz.prog 18 #[.pointer none, r.val] w fun e w' => e = .returned (.tuple #[.bool false, .int .i64 2]) ∧ Below w.heap.size w w' := by
  unfold Rq.val
  go_enter Tryz.func18, Tryz.ntmps18
  go_wp2_with fail
  go_ret2
  exact ⟨rfl, by first | exact bel_alloc (Below.refl _ _) _ | exact Below.refl _ _⟩
theorem xserve_any (w : World) : Calls Tryz.prog 14 #[.pointer none] w fun e w' => e = .returned (.tuple #[.agg respZ, .int .i64 2]) ∧ Below w.heap.size w w' := by
  go_enter Tryz.func14, Tryz.ntmps14
  go_wp2_with fail
  refine bodyPost_ret (results_ct_row rfl _ _ w.heap.size _ _ _ _ rfl (heap_alloc_new _ _) Tryz.underlying56 rfl (resp_info _ _ _ _ _)) rfl ⟨rfl, bel_alloc (Below.refl _ _) _⟩
theorem xlen_any (w : World) : Calls Tryz.prog 21 #[.pointer none] w fun e w' => e = .returned (.int .i64 0) ∧ w' = w := by
  go_enter Tryz.func21, Tryz.ntmps21
  go_wp2_with fail
  go_ret
  exact ⟨rfl, rfl⟩
theorem xroom_any (w : World) : Calls Tryz.prog 23 #[.pointer none] w fun e w' => e = .returned (.int .i64 0) ∧ w' = w := by
  go_enter Tryz.func23, Tryz.ntmps23
  go_wp2_with fail
  go_ret
  exact ⟨rfl, rfl⟩
theorem xall_any (w : World) : Calls Tryz.prog 26 #[.pointer none] w fun e w' => e = .returned (.slice none 0 0) ∧ w' = w := by
  go_enter Tryz.func26, Tryz.ntmps26
  go_wp2_with fail
  go_ret
  exact ⟨rfl, rfl⟩
end Go.Proofs.YtfpcgfgofemhoaaGreat

/- OwnerNone: asks and stands of an owner that is not there; the walk of its law. -/
namespace Go.Proofs.YtfpcgfgofemhoaaGreat
open Go.RowKit
set_option linter.unusedVariables false
set_option linter.unusedSimpArgs false

set_option maxRecDepth 100000
theorem twin_size (bs : List Int) : ((bs ++ [spI]).flatMap Icell).toArray.size = bs.length + 1 := by
  rw [List.size_toArray, flat_len (size := 1) _ (len_int _)]; simp
theorem stands_nil (po : Value) (w : World) (h : NoOw w po) : Calls Tryz.prog 7 #[po, .pointer none] w fun e w' => e = .returned (.bool true) ∧ Below w.heap.size w w' := by
  have h1 := Lib.hid (nlen_any po w h)
  have h2 := Lib.hid (nroom_any po w h)
  have h3 := Lib.hid (nall_any po w h)
  clear h
  go_enter Tryz.func7, Tryz.ntmps7
  go_wp2_with fail
  refine h1.out.mono ?_
  rintro e w1 ⟨rfl, rfl⟩
  go_wp2_with fail
  refine (xlen_any w1).mono ?_
  rintro e w2 ⟨rfl, rfl⟩
  go_wp2_with fail
  refine h2.out.mono ?_
  rintro e w3 ⟨rfl, rfl⟩
  go_wp2_with fail
  refine (xroom_any w3).mono ?_
  rintro e w4 ⟨rfl, rfl⟩
  go_wp2_with fail
  refine h3.out.mono ?_
  rintro e w5 ⟨rfl, rfl⟩
  go_wp2_with fail
  refine (xall_any w5).mono ?_
  rintro e w6 ⟨rfl, rfl⟩
  go_wp2_with fail
  refine (sameH_any none none 0 0 0 [] [] w6 ⟨RowAt.nil_, by simp⟩ ⟨RowAt.nil_, by simp⟩ rfl (by omega) (by simp)).mono ?_
  rintro e w7 ⟨rfl, hb7⟩
  go_wp2_with fail
  go_ret
  exact ⟨rfl, hb7⟩
set_option maxHeartbeats 8000000 in
theorem asks_nil (po : Value) (a : AskR) (w : World) (h : NoOw w po) (hi : RowAt Icell 1 w w.heap.size a.r.A a.r.len a.r.bs) (hreach : a.r.len * 8 ≤ 140737488351232) :
    Calls Tryz.prog 6 #[po, .pointer none, .agg a.cells.toArray] w fun e w' => e = .returned (.bool true) ∧ Below w.heap.size w w' := by
  have HNo := Lib.hid h
  have Hi := Lib.hid hi
  clear h hi
  obtain ⟨sv, r⟩ := a
  unfold AskR.cells Rq.cells
  simp only at *
  go_enter Tryz.func6, Tryz.ntmps6
  go_upto_region 1 with fail
  obtain ⟨W, hW⟩ : ∃ W, W = w.alloc (.cells #[.bool sv, .int .u8 r.kind, .int .i64 r.from_, .int .i64 r.num, .string r.wk, .string r.wv, .bool r.wd, .string r.key, .string r.fin, .slice r.A r.len r.cap] 38) := ⟨_, rfl⟩
  rw [← hW]
  have HB : Hid (Below w.heap.size w W) := Lib.hid (hW ▸ bel_alloc (Below.refl _ _) _)
  have n1 : W.heap[w.heap.size]? = some (.cells #[.bool sv, .int .u8 r.kind, .int .i64 r.from_, .int .i64 r.num, .string r.wk, .string r.wv, .bool r.wd, .string r.key, .string r.fin, .slice r.A r.len r.cap] 38 (0, 0)) := hW ▸ blk_new _ _
  have HN := Lib.hid n1
  have y0 : W.cell? ⟨w.heap.size, 0, none⟩ = some (.bool sv) := blk_cell n1 0
  clear hW n1
  cases sv
  · skip
    as_aux_lemma =>
    have hka : ∀ X, Below W.heap.size W X → X.cell? ⟨w.heap.size, 1, none⟩ = some (.int .u8 r.kind) ∧ X.cell? ⟨w.heap.size, 2, none⟩ = some (.int .i64 r.from_) ∧ X.cell? ⟨w.heap.size, 3, none⟩ = some (.int .i64 r.num) ∧ X.cell? ⟨w.heap.size, 4, none⟩ = some (.string r.wk) ∧ X.cell? ⟨w.heap.size, 5, none⟩ = some (.string r.wv) ∧ X.cell? ⟨w.heap.size, 6, none⟩ = some (.bool r.wd) ∧ X.cell? ⟨w.heap.size, 7, none⟩ = some (.string r.key) ∧ X.cell? ⟨w.heap.size, 8, none⟩ = some (.string r.fin) ∧ X.cell? ⟨w.heap.size, 9, none⟩ = some (.slice r.A r.len r.cap) := fun X hX => by
      have m := (hX.block _ (blk_lt HN.out)).trans HN.out
      exact ⟨blk_cell m 1, blk_cell m 2, blk_cell m 3, blk_cell m 4, blk_cell m 5, blk_cell m 6, blk_cell m 7, blk_cell m 8, blk_cell m 9⟩
    have HKA := Lib.hid hka
    clear hka
    obtain ⟨y1, y2, y3, y4, y5, y6, y7, y8, y9⟩ := HKA.out W (Below.refl _ _)
    have htw := twinR_any r W ((Hi.out.below HB.out).more HB.out.size) hreach
    have HTW := Lib.hid htw
    clear htw
    go_wp2_with fail
    refine HTW.out.mono ?_
    clear HTW y1 y2 y3 y4 y5 y6 y7 y8 y9
    rintro e w2 ⟨g, rfl, hgW, hg2, hb2⟩
    unfold Rq.val
    simp only
    have hgl := blk_lt hg2
    have HBW2 := Lib.hid hb2
    have HB2 := Lib.hid (HB.out.trans (hb2.mono HB.out.size))
    have HG2 := Lib.hid hg2
    clear hb2 hg2
    go_upto_region 6 with fail
    have HB3 : Hid (Below w2.heap.size w2 (w2.alloc (.cells #[.int .u8 r.kind, .int .i64 r.from_, .int .i64 r.num, .string r.wk, .string r.wv, .bool r.wd, .string r.key, .string r.fin, .slice (some ⟨g, 0, none⟩) r.len (r.len + 1)] 36))) := Lib.hid (bel_alloc (Below.refl _ _) _)
    have HN3 : Hid ((w2.alloc (.cells #[.int .u8 r.kind, .int .i64 r.from_, .int .i64 r.num, .string r.wk, .string r.wv, .bool r.wd, .string r.key, .string r.fin, .slice (some ⟨g, 0, none⟩) r.len (r.len + 1)] 36)).heap[w2.heap.size]? = some (.cells #[.int .u8 r.kind, .int .i64 r.from_, .int .i64 r.num, .string r.wk, .string r.wv, .bool r.wd, .string r.key, .string r.fin, .slice (some ⟨g, 0, none⟩) r.len (r.len + 1)] 36 (0, 0))) := Lib.hid (blk_new _ _)
    generalize w2.alloc (.cells #[.int .u8 r.kind, .int .i64 r.from_, .int .i64 r.num, .string r.wk, .string r.wv, .bool r.wd, .string r.key, .string r.fin, .slice (some ⟨g, 0, none⟩) r.len (r.len + 1)] 36) = w3 at HB3 HN3 ⊢
    have HW3 : Hid (Below W.heap.size W w3) := Lib.hid (HBW2.out.trans (HB3.out.mono HBW2.out.size))
    have HG3 : Hid (w3.heap[g]? = some (.cells ((r.bs ++ [spI]).flatMap Icell).toArray 3 (0, 0))) := Lib.hid ((HB3.out.block _ hgl).trans HG2.out)
    obtain ⟨x0, x1, x2, x3, x4, x5, x6, x7, x8⟩ := rqzz r.kind r.from_ r.num r.wk r.wv r.wd r.key r.fin _ _ _ HN3.out
    have hna := nask_any po { r with A := some ⟨g, 0, none⟩, cap := r.len + 1 } w3 ((HNo.out.below HB.out).below HW3.out)
    have HNA := Lib.hid hna
    clear hna
    go_wp2_with fail
    refine HNA.out.mono ?_
    clear HNA x0 x1 x2 x3 x4 x5 x6 x7 x8
    rintro e w4 ⟨rfl, hb4⟩
    have HW4 := Lib.hid (HW3.out.trans (hb4.mono HW3.out.size))
    have HN4 := Lib.hid ((hb4.block _ (blk_lt HN3.out)).trans HN3.out)
    have HG4 := Lib.hid ((hb4.block _ (blk_lt HG3.out)).trans HG3.out)
    clear hb4
    obtain ⟨y1, y2, y3, y4, y5, y6, y7, y8, y9⟩ := HKA.out w4 HW4.out
    have hxa := xask_any r w4
    have HXA := Lib.hid hxa
    clear hxa
    go_wp2_with fail
    refine HXA.out.mono ?_
    clear HXA y1 y2 y3 y4 y5 y6 y7 y8 y9
    rintro e w5 ⟨rfl, hb5⟩
    have HW5 := Lib.hid (HW4.out.trans (hb5.mono HW4.out.size))
    have n5 := (hb5.block _ (blk_lt HN4.out)).trans HN4.out
    have HN5 := Lib.hid n5
    have HG5 := Lib.hid ((hb5.block _ (blk_lt HG4.out)).trans HG4.out)
    clear hb5
    obtain ⟨y1, y2, y3, y4, y5, y6, y7, y8, y9⟩ := HKA.out w5 HW5.out
    obtain ⟨x0, x1, x2, x3, x4, x5, x6, x7, x8⟩ := rqzz r.kind r.from_ r.num r.wk r.wv r.wd r.key r.fin _ _ _ n5
    have hla := leftR_any g r w5 HG5.out (((Hi.out.below HB.out).below (HW5.out.mono HB.out.size)).more (Nat.le_trans HB.out.size HW5.out.size)) hreach
    have HLA := Lib.hid hla
    clear hla n5
    go_wp2_with fail
    refine HLA.out.mono ?_
    clear HLA x0 x1 x2 x3 x4 x5 x6 x7 x8 y1 y2 y3 y4 y5 y6 y7 y8 y9
    rintro e w6 ⟨rfl, hb6⟩
    have HW6 := Lib.hid (HW5.out.trans (hb6.mono HW5.out.size))
    have HN6 := Lib.hid ((hb6.block _ (blk_lt HN5.out)).trans HN5.out)
    have HG6 := Lib.hid ((hb6.block _ (blk_lt HG5.out)).trans HG5.out)
    have HB6 : Hid (Below w.heap.size w w6) := Lib.hid (HB.out.trans (HW6.out.mono HB.out.size))
    clear hb6
    go_wp2_with fail
    go_loopw [16] (fun i wr => ∃ j : Nat, j ≤ r.len ∧ i = .int .i64 j ∧ Hid (wr.heap[w2.heap.size]? = some (.cells #[.int .u8 r.kind, .int .i64 r.from_, .int .i64 r.num, .string r.wk, .string r.wv, .bool r.wd, .string r.key, .string r.fin, .slice (some ⟨g, 0, none⟩) r.len (r.len + 1)] 36 (0, 0))) ∧ Hid (∃ cur, wr.heap[g]? = some (.cells cur 3 (0, 0)) ∧ r.len < cur.size) ∧ Hid (Below w.heap.size w wr)) (fun i _ => r.len - (RowKit.intOf i).toNat)
    case atStart => exact ⟨0, by omega, rfl, HN6, Lib.hid ⟨_, HG6.out, by rw [twin_size, Hi.out.len]; omega⟩, HB6⟩
    case round =>
      obtain ⟨j, hj, rfl, HT, HC, HBr⟩ := hrel
      have x8 : wr.cell? ⟨w2.heap.size, 8, none⟩ = some (.slice (some ⟨g, 0, none⟩) r.len (r.len + 1)) := blk_cell HT.out 8
      by_cases hlt : j < r.len
      · obtain ⟨cur, hcu, hsz⟩ := HC.out
        have hjs : j < cur.size := by omega
        have c0 : wr.cell? ⟨g, j, none⟩ = some cur[j] := (blk_cell hcu j).trans (Array.getElem?_eq_getElem hjs)
        have f0 := blk_frozen hcu j
        have HCU := Lib.hid hcu
        clear hcu
        have k : Kept wr (wr.setCell ⟨g, j, none⟩ (.int .i64 (-77))) (fun b => b = g) := (Kept.refl wr (fun b => b = g)).setCell (p := ⟨g, j, none⟩) (Or.inl rfl) _
        have HT2 := Lib.hid (k.blk HT.out (blk_lt HT.out) (by omega))
        have HC2 : Hid (∃ cur, (wr.setCell ⟨g, j, none⟩ (.int .i64 (-77))).heap[g]? = some (.cells cur 3 (0, 0)) ∧ r.len < cur.size) := Lib.hid ⟨_, blk_set HCU.out j _, by simpa using hsz⟩
        have HB2r : Hid (Below w.heap.size w (wr.setCell ⟨g, j, none⟩ (.int .i64 (-77)))) := Lib.hid (bel_set HBr.out (by have := HB.out.size; omega) _)
        clear k
        go_wp2_with fail
        exact ⟨⟨j + 1, by omega, by go_num, HT2, HC2, HB2r⟩, by simp [RowKit.intOf]; omega⟩
      · go_wp2_with fail
        go_ret
        exact ⟨rfl, HBr.out⟩
  · skip
    as_aux_lemma =>
    go_wp2_with fail
    refine ((nserve_any po W (HNo.out.below HB.out))).mono ?_
    rintro e w2 ⟨rfl, hb2⟩
    have HB2 := Lib.hid (HB.out.trans (hb2.mono HB.out.size))
    clear hb2
    unfold respZ
    go_wp2_with fail
    have HB3 : Hid (Below w2.heap.size w2 (w2.alloc (.cells #[.int .i64 0, .bool false, .slice none 0 0, .slice none 0 0, .int .i64 0] 56))) := Lib.hid (bel_alloc (Below.refl _ _) _)
    have HC3 : Hid ((w2.alloc (.cells #[.int .i64 0, .bool false, .slice none 0 0, .slice none 0 0, .int .i64 0] 56)).heap[w2.heap.size]? = some (.cells #[.int .i64 0, .bool false, .slice none 0 0, .slice none 0 0, .int .i64 0] 56 (0, 0))) := Lib.hid (blk_new _ _)
    generalize w2.alloc (.cells #[.int .i64 0, .bool false, .slice none 0 0, .slice none 0 0, .int .i64 0] 56) = w3 at HB3 HC3 ⊢
    refine (xserve_any w3).mono ?_
    rintro e w4 ⟨rfl, hb4⟩
    have HC4 := Lib.hid ((hb4.block _ (blk_lt HC3.out)).trans HC3.out)
    have HB4 := Lib.hid ((HB2.out.trans (HB3.out.mono HB2.out.size)).trans (hb4.mono (Nat.le_trans HB2.out.size HB3.out.size)))
    have hs4 : w2.heap.size < w4.heap.size := blk_lt HC4.out
    clear hb4
    unfold respZ
    have hb5 : Below w4.heap.size w4 (w4.alloc (.cells #[.int .i64 0, .bool false, .slice none 0 0, .slice none 0 0, .int .i64 0] 56)) := bel_alloc (Below.refl _ _) _
    have m1 := (hb5.block _ (blk_lt HC4.out)).trans HC4.out
    have m2 := blk_new w4 (.cells #[.int .i64 0, .bool false, .slice none 0 0, .slice none 0 0, .int .i64 0] 56)
    have HB5 := Lib.hid (HB4.out.trans (hb5.mono HB4.out.size))
    clear hb5
    go_upto_region 4 with fail
    generalize w4.alloc (.cells #[.int .i64 0, .bool false, .slice none 0 0, .slice none 0 0, .int .i64 0] 56) = w5 at m1 m2 HB5 ⊢
    have a0 : w5.cell? ⟨w2.heap.size, 0, none⟩ = some (.int .i64 0) := blk_cell m1 0
    have a1 : w5.cell? ⟨w2.heap.size, 1, none⟩ = some (.bool false) := blk_cell m1 1
    have a2 : w5.cell? ⟨w2.heap.size, 2, none⟩ = some (.slice none 0 0) := blk_cell m1 2
    have a3 : w5.cell? ⟨w2.heap.size, 3, none⟩ = some (.slice none 0 0) := blk_cell m1 3
    have a4 : w5.cell? ⟨w2.heap.size, 4, none⟩ = some (.int .i64 0) := blk_cell m1 4
    have b0 : w5.cell? ⟨w4.heap.size, 0, none⟩ = some (.int .i64 0) := blk_cell m2 0
    have b1 : w5.cell? ⟨w4.heap.size, 1, none⟩ = some (.bool false) := blk_cell m2 1
    have b2 : w5.cell? ⟨w4.heap.size, 2, none⟩ = some (.slice none 0 0) := blk_cell m2 2
    have b3 : w5.cell? ⟨w4.heap.size, 3, none⟩ = some (.slice none 0 0) := blk_cell m2 3
    have b4 : w5.cell? ⟨w4.heap.size, 4, none⟩ = some (.int .i64 0) := blk_cell m2 4
    clear m1 m2
    go_wp2_with fail
    refine (sameR_any 0 false 0 none none none none 0 0 0 0 0 0 [] [] [] w5 RowAt.nil_ RowAt.nil_ (by omega) ⟨RowAt.nil_, by simp⟩ ⟨RowAt.nil_, by simp⟩ rfl (by omega) (by simp)).mono ?_
    rintro e w6 ⟨rfl, hb6⟩
    have HB6 := Lib.hid (HB5.out.trans (hb6.mono HB5.out.size))
    clear hb6
    go_wp2_with fail
    go_ret
    exact ⟨rfl, HB6.out⟩
end Go.Proofs.YtfpcgfgofemhoaaGreat


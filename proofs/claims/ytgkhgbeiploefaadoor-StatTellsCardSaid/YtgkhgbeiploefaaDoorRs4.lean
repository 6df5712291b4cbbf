/- towpathlaw26: lists of events that are copied; what is told of events, and of lanes, in one form. -/
import Derived.Test.YtgkhgbeiploefaaDoorRs3
import Derived.Test.YtgkhgbeiploefaaDoorBkAI
namespace Go.Proofs.YtgkhgbeiploefaaDoor
open Go.RowKit
set_option linter.unusedVariables false
set_option linter.unusedSimpArgs false

set_option maxRecDepth 100000
def spEv : Ev := ⟨7777, 0, 0, 0, 0, 0⟩
theorem len_ev (es : List Ev) : ∀ x ∈ es, (Ev.cells x).length = 6 := fun _ _ => rfl
theorem one_ev (x : Ev) : ∀ u ∈ Ev.cells x, u.oneCell' = true := fun u hu => by
  simp [Ev.cells] at hu
  rcases hu with rfl | rfl | rfl | rfl | rfl | rfl <;> rfl
theorem info_ev : (Tryd.prog.info? 54).map (fun i => (i.zero, i.size, i.bytes)) = some (some (.agg #[.int .i64 0, .int .u8 0, .int .i64 0, .int .i64 0, .int .i64 0, .int .i64 0]), 6, 48) := by kernel_rfl
set_option maxHeartbeats 1000000 in
theorem twinEv_any (A : Option Addr) (len cap : Nat) (xs : List Ev) (w : World) (hw : RowAt Ev.cells 6 w w.heap.size A len xs) (hreach : len * 48 ≤ 140737488351232) :
    Calls Tryd.prog 4 #[.slice A len cap] w fun e w' => e = .returned (.slice (some ⟨w.heap.size, 0, none⟩) len (len + 1)) ∧ w'.heap[w.heap.size]? = some (.cells ((xs ++ [spEv]).flatMap Ev.cells).toArray 54 (0, 0)) ∧ Below w.heap.size w w' := by
  have hlen := Lib.hid hw.len
  obtain ⟨i0, hi, hz0, hz1, hz2⟩ := info_parts info_ev
  go_enter Tryd.func4, Tryd.ntmps4
  go_wp2_with (at_make; refine wpList_make_own _ rfl _ _ 24 rfl w.heap.size 54 i0 _ 6 Tryd.underlying24 hi hz0 hz1 _ _ _ (len + 1) rfl rfl (by omega) (by rw [hz2]; omega) (by simp only [maxLen]; omega) (Nat.le_refl _) ?_; intro w1 hown1 hgrow1)
  have hs1 : w.heap.size < w1.heap.size := (hown1.lt _ rfl).2
  have hbw1 : Below w.heap.size w w1 := (Below.refl _ _).grown hgrow1 (Nat.le_refl _) (fun k hk => by cases hk)
  go_wp2_with fail
  go_loopw [3, 4] (fun v i wr => ∃ k : Nat, k ≤ len ∧ i = .int .i64 k ∧ v = .slice (some ⟨w.heap.size, 0, none⟩) k (len + 1) ∧ wr.ownsRow w.heap.size 54 6 (.slice (some ⟨w.heap.size, 0, none⟩) k (len + 1)) k ((xs.take k).flatMap Ev.cells) ∧ Below w.heap.size w wr) (fun _ i _ => len - (RowKit.intOf i).toNat)
  case atStart => exact ⟨0, Nat.zero_le _, rfl, rfl, hown1, hbw1⟩
  case round =>
    obtain ⟨k, hk, rfl, rfl, hown, hb⟩ := hrel
    have hr := hw.below hb
    have Hb := Lib.hid hb
    have hs := hb.size
    have hgl := (hown.lt _ rfl).2
    clear hb hown1 hgrow1 hbw1
    by_cases hlt : k < len
    · obtain ⟨b, off, x, rfl, hbl, hx, hxc⟩ := hr.at_ hlt
      have x0 := hxc 0 _ rfl
      have x1 := hxc 1 _ rfl
      have x2 := hxc 2 _ rfl
      have x3 := hxc 3 _ rfl
      have x4 := hxc 4 _ rfl
      have x5 := hxc 5 _ rfl
      simp only [Nat.add_zero] at x0
      have Hx := Lib.hid hx
      clear hx hxc
      go_wp2_with (at_builtin; refine wpList_append_fits _ rfl _ _ 24 rfl w.heap.size 54 i0 6 Tryd.underlying24 hi hz1 w.heap.size k (len + 1) _ rfl (hown.alloc _) ⟨wr.heap.size, 0, none⟩ 1 1 (Ev.cells x) rfl rfl (cells_new _ _ _) (one_ev x) (by omega) ?_; intro w2 hown2 hg2)
      have hbl2 := below_grown_new hown hg2 (by omega)
      refine ⟨⟨k + 1, by omega, by go_num, rfl, ?_, Hb.out.trans hbl2⟩, by simp [RowKit.intOf]; omega⟩
      rw [take_snoc_flat Hx.out]; exact hown2
    · have hkl : k = len := by omega
      subst hkl
      have htk : xs.take k = xs := List.take_of_length_le (by have := hlen.out; omega)
      rw [htk] at hown
      go_wp2_with (at_builtin; refine wpList_append_fits _ rfl _ _ 24 rfl w.heap.size 54 i0 6 Tryd.underlying24 hi hz1 w.heap.size k (k + 1) _ rfl (hown.alloc _) ⟨wr.heap.size, 0, none⟩ 1 1 (Ev.cells spEv) rfl rfl (cells_new _ _ _) (one_ev spEv) (by omega) ?_; intro w2 hown2 hg2)
      have hbl2 := below_grown_new hown hg2 (by omega)
      go_wp2_with fail
      go_ret
      exact ⟨rfl, by simpa using blk_of_own hown2, Hb.out.trans hbl2⟩

set_option maxHeartbeats 1000000 in
theorem leftEv_any (g : Nat) (A : Option Addr) (len cap : Nat) (xs : List Ev) (w : World) (hg : w.heap[g]? = some (.cells ((xs ++ [spEv]).flatMap Ev.cells).toArray 54 (0, 0))) (hw : RowAt Ev.cells 6 w w.heap.size A len xs) (hreach : len * 48 ≤ 140737488351232) :
    Calls Tryd.prog 10 #[.slice (some ⟨g, 0, none⟩) len (len + 1), .slice A len cap] w fun e w' => e = .returned (.bool true) ∧ Below w.heap.size w w' := by
  have hlen := Lib.hid hw.len
  have hgl : g < w.heap.size := (Array.getElem?_eq_some_iff.1 hg).1
  have hrow := row_of_blk (len_ev _) hg hgl
  rw [hw.len] at hrow
  have hb0 := beq_self_eq_true (len : Int)
  go_enter Tryd.func10, Tryd.ntmps10
  go_wp2_with fail
  go_loopw [5] (fun i wr => ∃ k : Nat, k ≤ len ∧ i = .int .i64 k ∧ Below w.heap.size w wr) (fun i _ => len - (RowKit.intOf i).toNat)
  case atStart => exact ⟨0, Nat.zero_le _, rfl, Below.refl _ _⟩
  case round =>
    obtain ⟨k, hk, rfl, hb⟩ := hrel
    have hr := hw.below hb
    have ht := hrow.below hb
    have Hb := Lib.hid hb
    have hs := hb.size
    clear hb
    by_cases hlt : k < len
    · obtain ⟨b, off, x, rfl, hbl, hx, hxc⟩ := hr.at_ hlt
      have x0 := hxc 0 _ rfl
      have x1 := hxc 1 _ rfl
      have x2 := hxc 2 _ rfl
      have x3 := hxc 3 _ rfl
      have x4 := hxc 4 _ rfl
      have x5 := hxc 5 _ rfl
      simp only [Nat.add_zero] at x0
      obtain ⟨b', off', y, he, hbl', hy, hyc⟩ := ht.at_ (show k < len + 1 by omega)
      have y0 := hyc 0 _ rfl
      have y1 := hyc 1 _ rfl
      have y2 := hyc 2 _ rfl
      have y3 := hyc 3 _ rfl
      have y4 := hyc 4 _ rfl
      have y5 := hyc 5 _ rfl
      simp only [Nat.add_zero] at y0
      simp only [Option.some.injEq, Addr.mk.injEq, and_true] at he
      obtain ⟨rfl, rfl⟩ := he
      have hyx : y = x := by
        rw [List.getElem?_append_left (by have := hlen.out; omega), hx] at hy
        exact (Option.some.inj hy).symm
      subst hyx
      clear hx hy hxc hyc
      simp only [Nat.zero_add] at y0 y1 y2 y3 y4 y5
      go_wp2_with fail
      go_quiet (fail)
      go_wp2_with fail
      exact ⟨⟨k + 1, by omega, by go_num, below_drewN Hb.out _⟩, by simp [RowKit.intOf]; omega⟩
    · have hkl : k = len := by omega
      subst hkl
      obtain ⟨b', off', y, he, hbl', hy, hyc⟩ := ht.at_ (show k < k + 1 by omega)
      have y0 := hyc 0 _ rfl
      have y1 := hyc 1 _ rfl
      have y2 := hyc 2 _ rfl
      have y3 := hyc 3 _ rfl
      have y4 := hyc 4 _ rfl
      have y5 := hyc 5 _ rfl
      simp only [Nat.add_zero] at y0
      simp only [Option.some.injEq, Addr.mk.injEq, and_true] at he
      obtain ⟨rfl, rfl⟩ := he
      have hyx : y = spEv := by
        rw [List.getElem?_append_right (by have := hlen.out; omega), hlen.out] at hy
        simpa using hy.symm
      subst hyx
      clear hy hyc
      simp only [Nat.zero_add, spEv] at y0 y1 y2 y3 y4 y5
      have hk1 : (k : Int) < (k : Int) + 1 := by omega
      go_wp2_with fail
      go_ret
      exact ⟨rfl, by first | exact Hb.out.alloc (by omega) _ | exact Hb.out⟩
set_option maxHeartbeats 1000000 in
/-- Two rows of one list are the same. -/
theorem sameI_any (A1 : Option Addr) (len cap1 : Nat) (A2 : Option Addr) (cap2 : Nat) (xs : List Int) (w : World) (h1 : RowAt Icell 1 w w.heap.size A1 len xs) (h2 : RowAt Icell 1 w w.heap.size A2 len xs) (hl : len ≤ 4398046511104) :
    Calls Tryd.prog 9 #[.slice A1 len cap1, .slice A2 len cap2] w fun e w' => e = .returned (.bool true) ∧ Below w.heap.size w w' := by
  have hb0 := beq_self_eq_true (len : Int)
  go_enter Tryd.func9, Tryd.ntmps9
  go_wp2_with fail
  go_loopw [5] (fun i wr => ∃ k : Nat, k ≤ len ∧ i = .int .i64 k ∧ Below w.heap.size w wr) (fun i _ => len - (RowKit.intOf i).toNat)
  case atStart => exact ⟨0, Nat.zero_le _, rfl, Below.refl _ _⟩
  case round =>
    obtain ⟨k, hk, rfl, hb⟩ := hrel
    have hr := h1.below hb
    have ht := h2.below hb
    have Hb := Lib.hid hb
    have hs := hb.size
    clear hb
    by_cases hlt : k < len
    · obtain ⟨b, off, x, rfl, hbl, hx, hxc⟩ := hr.at_ hlt
      have x0 := hxc 0 _ rfl
      simp only [Nat.mul_one, Nat.add_zero] at x0
      obtain ⟨b', off', y, rfl, hbl', hy, hyc⟩ := ht.at_ hlt
      have y0 := hyc 0 _ rfl
      simp only [Nat.mul_one, Nat.add_zero] at y0
      obtain rfl : y = x := by rw [hx] at hy; exact (Option.some.inj hy).symm
      clear hx hy hxc hyc hr ht
      go_wp2_with fail
      go_quiet (fail)
      go_wp2_with fail
      exact ⟨⟨k + 1, by omega, by go_num, below_drewN Hb.out _⟩, by simp [RowKit.intOf]; omega⟩
    · obtain rfl : k = len := by omega
      go_wp2_with fail
      go_ret
      exact ⟨rfl, Hb.out⟩
/-- What is told of events. -/
def stF (c : Cfg) (es : List Ev) : Sts := if c.ok then stOf es c.lanes.toNat else ⟨0, 0, 0, 0, 0⟩
def lnF (c : Cfg) (es : List Ev) : List Int := if c.ok then (laneRun es (lane0 c.lanes.toNat)).1 else []
theorem ok_lanes {c : Cfg} (h : c.ok = true) : c.lanes = (c.lanes.toNat : Int) ∧ c.lanes.toNat ≤ 16 := by
  simp [Cfg.ok, inB] at h; omega
theorem of_u (c : Cfg) (A : Option Addr) (len cap : Nat) (es : List Ev) (w : World) (he : EsAt w w.heap.size A len es) (hlen : len ≤ 4398046511104) :
    Calls Tryd.prog 5 #[c.v, .slice A len cap] w fun e w' => e = .returned (.tuple #[(stF c es).v, .int .i64 (errCfg c.ok)]) ∧ Below w.heap.size w w' := by
  cases hc : c.ok
  · have : stF c es = ⟨0, 0, 0, 0, 0⟩ := by simp [stF, hc]
    rw [this]
    exact of_bad c A len cap w hc
  · have : stF c es = stOf es c.lanes.toNat := by simp [stF, hc]
    rw [this]
    obtain ⟨h1, h2⟩ := ok_lanes hc
    exact of_any c _ hc h1 h2 A len cap es w he hlen
theorem rof_u (c : Cfg) (A : Option Addr) (len cap : Nat) (es : List Ev) (w : World) (he : EsAt w w.heap.size A len es) (hlc : len ≤ cap) (hlen : len ≤ 4398046511104) :
    Calls Tryd.prog 7 #[c.v, .slice A len cap] w fun e w' => e = .returned (.tuple #[(stF c es).v, .int .i64 (errCfg c.ok)]) ∧ Below w.heap.size w w' := by
  cases hc : c.ok
  · have : stF c es = ⟨0, 0, 0, 0, 0⟩ := by simp [stF, hc]
    rw [this]
    exact refof_no c hc A len cap w
  · have : stF c es = stOf es c.lanes.toNat := by simp [stF, hc]
    rw [this]
    obtain ⟨h1, h2⟩ := ok_lanes hc
    exact refof_any c _ hc h1 h2 A len cap es w he hlc hlen
/-- A list of numbers that is all of its block, or nil. -/
def OneI (w : World) (B : Nat) (A : Option Addr) (l : List Int) : Prop := (A = none ∧ l = []) ∨ ∃ g, A = some ⟨g, 0, none⟩ ∧ B ≤ g ∧ IntsIn w g l
theorem OneI.below {w w' : World} {B : Nat} {A : Option Addr} {l : List Int} (h : OneI w B A l) (hb : Below w.heap.size w w') : OneI w' B A l := by
  rcases h with h | ⟨g, h1, h2, h3⟩
  · exact Or.inl h
  · exact Or.inr ⟨g, h1, h2, (hb.block _ (blk_lt h3)).trans h3⟩
theorem OneI.more {w : World} {B B' : Nat} {A : Option Addr} {l : List Int} (h : OneI w B A l) (hB : B' ≤ B) : OneI w B' A l := h.imp id (fun ⟨g, h1, h2, h3⟩ => ⟨g, h1, by omega, h3⟩)
theorem OneI.row {w : World} {B : Nat} {A : Option Addr} {l : List Int} (h : OneI w B A l) : RowAt Icell 1 w w.heap.size A l.length l := by
  rcases h with ⟨rfl, rfl⟩ | ⟨g, rfl, h2, h3⟩
  · exact RowAt.nil_
  · exact rowAt_block l (len_int _) h3 (blk_lt h3) (fun j u hu => by
      rw [icell_flat] at hu; simpa using hu)
theorem OneI.p0 {w : World} {B n : Nat} {A : Option Addr} {l : List Int} (h : OneI w B A l) (hl : l.length ≤ 1000) (hn : n ≤ 1152921504606846976) : P0 mkInt 1 3 17592186044345 w B ⟨A, l.length, l.length, n, none, 0, 0⟩ := by
  refine ⟨Nat.le_refl _, by simp only; omega, hn, ?_⟩
  rcases h with ⟨rfl, rfl⟩ | ⟨g, rfl, h2, h3⟩
  · exact TkAt.nil _ _
  · exact ⟨rfl, Nat.zero_le _, Or.inr ⟨g, 0, _, rfl, h2, h3, by simp, fun i x hi => by simp at hi⟩⟩
theorem OneI.lt {w : World} {B : Nat} {A : Option Addr} {l : List Int} (h : OneI w B A l) {a : Addr} (e : A = some a) : B ≤ a.block ∧ a.block < w.heap.size := by
  rcases h with ⟨rfl, -⟩ | ⟨g, rfl, h2, h3⟩
  · cases e
  · injection e with e; subst e; exact ⟨h2, blk_lt h3⟩
theorem lanes_len (es : List Ev) (n : Nat) : (laneRun es (lane0 n)).1.length = n := (laneRun_ok es 0 (lane0 n) (lane0_ok n)).1
theorem lanes_u (c : Cfg) (A : Option Addr) (len cap : Nat) (es : List Ev) (w : World) (he : EsAt w w.heap.size A len es) (hlen : len ≤ 4398046511104) :
    Calls Tryd.prog 6 #[c.v, .slice A len cap] w fun e w' => ∃ A', e = .returned (.tuple #[.slice A' (lnF c es).length (lnF c es).length, .int .i64 (errCfg c.ok)]) ∧ OneI w' w.heap.size A' (lnF c es) ∧ Below w.heap.size w w' := by
  cases hc : c.ok
  · have : lnF c es = [] := by simp [lnF, hc]
    rw [this]
    exact (lanes_bad c A len cap w hc).mono fun e w' ⟨h1, h2⟩ => ⟨none, h1, Or.inl ⟨rfl, rfl⟩, h2⟩
  · have : lnF c es = (laneRun es (lane0 c.lanes.toNat)).1 := by simp [lnF, hc]
    rw [this, lanes_len]
    obtain ⟨h1, h2⟩ := ok_lanes hc
    exact (lanes_good c _ hc h1 h2 A len cap es w he hlen).mono fun e w' ⟨g, h3, h4, h5, h6, h7⟩ => ⟨some ⟨g, 0, none⟩, h5, Or.inr ⟨g, rfl, Nat.le_of_lt h3, h6⟩, h7⟩
theorem rlanes_u (c : Cfg) (A : Option Addr) (len cap : Nat) (es : List Ev) (w : World) (he : EsAt w w.heap.size A len es) (hlc : len ≤ cap) (hlen : len ≤ 4398046511104) :
    Calls Tryd.prog 8 #[c.v, .slice A len cap] w fun e w' => ∃ A', e = .returned (.tuple #[.slice A' (lnF c es).length (lnF c es).length, .int .i64 (errCfg c.ok)]) ∧ OneI w' w.heap.size A' (lnF c es) ∧ Below w.heap.size w w' := by
  cases hc : c.ok
  · have : lnF c es = [] := by simp [lnF, hc]
    rw [this]
    exact (reflanes_no c hc A len cap w).mono fun e w' ⟨h1, h2⟩ => ⟨none, h1, Or.inl ⟨rfl, rfl⟩, h2⟩
  · have : lnF c es = (laneRun es (lane0 c.lanes.toNat)).1 := by simp [lnF, hc]
    rw [this, lanes_len]
    obtain ⟨h1, h2⟩ := ok_lanes hc
    exact (reflanes_any c _ hc h1 h2 A len cap es w he hlc hlen).mono fun e w' ⟨g, h3, h4, h5, h6, h7⟩ => ⟨some ⟨g, 0, none⟩, h5, Or.inr ⟨g, rfl, Nat.le_of_lt h3, h6⟩, h7⟩
end Go.Proofs.YtgkhgbeiploefaaDoor

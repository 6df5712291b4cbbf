/- Lemmas and contracts of functions that a statement of this seat stands on; each holds under the premises typed in its head. -/
import Derived.Test.YtdcnaieieggclaaRow
import Derived.Test.YtdcnaieieggclaaRows
import Derived.Test.YtdcnaieieggclaaT4
namespace Go.Proofs.Ytdcnaieieggclaa
open Go.RowKit
set_option linter.unusedVariables false
set_option linter.unusedSimpArgs false


def spW : Wr := ⟨⟨#[115, 112, 97, 114, 101]⟩, ⟨#[]⟩, false⟩
theorem take_snoc_flat {α : Type} {cells : α → List Value} {l : List α} {k : Nat} {x : α} (h : l[k]? = some x) : (l.take (k + 1)).flatMap cells = (l.take k).flatMap cells ++ cells x := by
  rw [List.take_add_one, h]; simp
theorem blk_of_own {w : World} {base g n size : Nat} {e : TypeId} {xs : List Value} (h : w.ownsRow base e size (.slice (some ⟨g, 0, none⟩) n n) n xs) : w.heap[g]? = some (.cells xs.toArray e (0, 0)) := by
  obtain ⟨h1, h2 | ⟨g', cap, cur, hv, hg, hh, hn, hc, hsz, ht⟩⟩ := h
  · simp at h2
  · simp at hv
    obtain ⟨rfl, rfl⟩ := hv
    rw [hh]
    have : cur.toList = xs := by rw [← ht, List.take_of_length_le (by rw [Array.length_toList, hsz]; exact Nat.le_refl _)]
    rw [← this]

/-- A row of one element more, that lies in one block. -/
theorem row_of_blk {α : Type} {cells : α → List Value} {size : Nat} {w : World} {g B : Nat} {e : TypeId} {xs : List α} {sp : α} (hs : ∀ x ∈ xs ++ [sp], (cells x).length = size) (h : w.heap[g]? = some (.cells ((xs ++ [sp]).flatMap cells).toArray e (0, 0))) (hB : g < B) :
    RowAt cells size w B (some ⟨g, 0, none⟩) (xs.length + 1) (xs ++ [sp]) := by
  have := rowAt_block (B := B) (xs ++ [sp]) hs h hB (fun j u hu => by simpa using hu)
  simpa using this

set_option maxHeartbeats 1000000 in
theorem twinW_any (A : Option Addr) (len cap : Nat) (xs : List Wr) (w : World) (hw : RowAt Wr.cells 3 w w.heap.size A len xs) (hreach : len * 40 ≤ 140737488351232) :
    Calls Try.prog 68 #[.slice A len cap] w fun e w' => e = .returned (.slice (some ⟨w.heap.size, 0, none⟩) len (len + 1)) ∧ w'.heap[w.heap.size]? = some (.cells ((xs ++ [spW]).flatMap Wr.cells).toArray 39 (0, 0)) ∧ Below w.heap.size w w' := by
  have hlen := Lib.hid hw.len
  obtain ⟨i0, hi, hz0, hz1, hz2⟩ := info_parts info_wr
  go_enter Try.func68, Try.ntmps68
  go_wp2_with (at_make; refine wpList_make_own _ rfl _ _ 35 rfl w.heap.size 39 i0 _ 3 Try.underlying35 hi hz0 hz1 _ _ _ (len + 1) rfl rfl (by omega) (by rw [hz2]; omega) (by simp only [maxLen]; omega) (Nat.le_refl _) ?_; intro w1 hown1 hgrow1)
  have hs1 : w.heap.size < w1.heap.size := (hown1.lt _ rfl).2
  have hbw1 : Below w.heap.size w w1 := (Below.refl _ _).grown hgrow1 (Nat.le_refl _) (fun k hk => by cases hk)
  go_wp2_with fail
  go_loopw [3, 4] (fun v i wr => ∃ k : Nat, k ≤ len ∧ i = .int .i64 k ∧ v = .slice (some ⟨w.heap.size, 0, none⟩) k (len + 1) ∧ wr.ownsRow w.heap.size 39 3 (.slice (some ⟨w.heap.size, 0, none⟩) k (len + 1)) k ((xs.take k).flatMap Wr.cells) ∧ Below w.heap.size w wr) (fun _ i _ => len - (intOf i).toNat)
  case atStart => exact ⟨0, Nat.zero_le _, rfl, rfl, hown1, hbw1⟩
  case round =>
    obtain ⟨k, hk, rfl, rfl, hown, hb⟩ := hrel
    have hr := hw.below hb
    have Hb := Lib.hid hb
    have hs := hb.size
    have hgl := (hown.lt _ rfl).2
    clear hb hown1 hgrow1 hbw1
    by_cases hlt : k < len
    · obtain ⟨b, off, x, rfl, hbl, hx, hxc⟩ := hr.at_ hlt
      have x0 := hxc 0 _ rfl
      have x1 := hxc 1 _ rfl
      have x2 := hxc 2 _ rfl
      simp only [Nat.add_zero] at x0
      have Hx := Lib.hid hx
      clear hx hxc
      go_wp2_with (at_builtin; refine wpList_append_fits _ rfl _ _ 35 rfl w.heap.size 39 i0 3 Try.underlying35 hi hz1 w.heap.size k (len + 1) _ rfl (hown.alloc _) ⟨wr.heap.size, 0, none⟩ 1 1 (Wr.cells x) rfl rfl (cells_new _ _ _) (one_wr x) (by omega) ?_; intro w2 hown2 hg2)
      have hbl2 := below_grown_new hown hg2 (by omega)
      refine ⟨⟨k + 1, by omega, by go_num, rfl, ?_, Hb.out.trans hbl2⟩, by simp [intOf]; omega⟩
      rw [take_snoc_flat Hx.out]; exact hown2
    · have hkl : k = len := by omega
      subst hkl
      have htk : xs.take k = xs := List.take_of_length_le (by have := hlen.out; omega)
      rw [htk] at hown
      go_wp2_with (at_builtin; refine wpList_append_fits _ rfl _ _ 35 rfl w.heap.size 39 i0 3 Try.underlying35 hi hz1 w.heap.size k (k + 1) _ rfl (hown.alloc _) ⟨wr.heap.size, 0, none⟩ 1 1 (Wr.cells spW) rfl rfl (cells_new _ _ _) (one_wr spW) (by omega) ?_; intro w2 hown2 hg2)
      have hbl2 := below_grown_new hown hg2 (by omega)
      go_wp2_with fail
      go_ret
      exact ⟨rfl, by simpa using blk_of_own hown2, Hb.out.trans hbl2⟩

set_option maxHeartbeats 1000000 in
theorem leftW_any (g : Nat) (A : Option Addr) (len cap : Nat) (xs : List Wr) (w : World) (hg : w.heap[g]? = some (.cells ((xs ++ [spW]).flatMap Wr.cells).toArray 39 (0, 0))) (hw : RowAt Wr.cells 3 w w.heap.size A len xs) (hreach : len * 40 ≤ 140737488351232) :
    Calls Try.prog 71 #[.slice (some ⟨g, 0, none⟩) len (len + 1), .slice A len cap] w fun e w' => e = .returned (.bool true) ∧ Below w.heap.size w w' := by
  have hlen := Lib.hid hw.len
  have hgl : g < w.heap.size := (Array.getElem?_eq_some_iff.1 hg).1
  have hrow := row_of_blk (len_wr _) hg hgl
  rw [hw.len] at hrow
  have hb0 := beq_self_eq_true (len : Int)
  go_enter Try.func71, Try.ntmps71
  go_wp2_with fail
  go_loopw [5] (fun i wr => ∃ k : Nat, k ≤ len ∧ i = .int .i64 k ∧ Below w.heap.size w wr) (fun i _ => len - (intOf i).toNat)
  case atStart => exact ⟨0, Nat.zero_le _, rfl, Below.refl _ _⟩
  case round =>
    obtain ⟨k, hk, rfl, hb⟩ := hrel
    have hr := hw.below hb
    have ht := hrow.below hb
    have Hb := Lib.hid hb
    have hs := hb.size
    clear hb
    by_cases hlt : k < len
    · obtain ⟨b, off, x, rfl, hbl, hx, hxc⟩ := hr.at_ hlt
      have x0 := hxc 0 _ rfl
      have x1 := hxc 1 _ rfl
      have x2 := hxc 2 _ rfl
      simp only [Nat.add_zero] at x0
      obtain ⟨b', off', y, he, hbl', hy, hyc⟩ := ht.at_ (show k < len + 1 by omega)
      have y0 := hyc 0 _ rfl
      have y1 := hyc 1 _ rfl
      have y2 := hyc 2 _ rfl
      simp only [Nat.add_zero] at y0
      simp only [Option.some.injEq, Addr.mk.injEq, and_true] at he
      obtain ⟨rfl, rfl⟩ := he
      have hyx : y = x := by
        rw [List.getElem?_append_left (by have := hlen.out; omega), hx] at hy
        exact (Option.some.inj hy).symm
      subst hyx
      clear hx hy hxc hyc
      simp only [Nat.zero_add] at y0 y1 y2
      go_wp2_with fail
      go_quiet (fail)
      go_wp2_with fail
      exact ⟨⟨k + 1, by omega, by go_num, below_drewN Hb.out _⟩, by simp [intOf]; omega⟩
    · have hkl : k = len := by omega
      subst hkl
      obtain ⟨b', off', y, he, hbl', hy, hyc⟩ := ht.at_ (show k < k + 1 by omega)
      have y0 := hyc 0 _ rfl
      have y1 := hyc 1 _ rfl
      have y2 := hyc 2 _ rfl
      simp only [Nat.add_zero] at y0
      simp only [Option.some.injEq, Addr.mk.injEq, and_true] at he
      obtain ⟨rfl, rfl⟩ := he
      have hyx : y = spW := by
        rw [List.getElem?_append_right (by have := hlen.out; omega), hlen.out] at hy
        simpa using hy.symm
      subst hyx
      clear hy hyc
      simp only [Nat.zero_add, spW] at y0 y1 y2
      have hk1 : (k : Int) < (k : Int) + 1 := by omega
      go_wp2_with fail
      go_ret
      exact ⟨rfl, by first | exact Hb.out.alloc (by omega) _ | exact Hb.out⟩
end Go.Proofs.Ytdcnaieieggclaa

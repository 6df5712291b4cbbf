/- The marks of events: trace.Marks, and the document's. -/
import Derived.Test.YtbiamjgkedmceaaGreatDoorCli
import Derived.Test.YtbiamjgkedmceaaGreatDoorEv
import Derived.Test.YtbiamjgkedmceaaGreatDoorTkN
import Derived.Test.YtbiamjgkedmceaaGreatDoorBk0
namespace Go.Proofs.YtbiamjgkedmceaaGreatDoor
open Go.RowKit
set_option linter.unusedVariables false
set_option linter.unusedSimpArgs false

set_option maxRecDepth 100000
theorem TkAt.zero_ {α β : Type} {f : α → List Value} {g : β → List Value} {z n cap : Nat} {e : TypeId} {w : World} {B : Nat} {A : Option Addr} {l : List α} (h : TkAt f z e w B A n cap l) : TkAt g z e w B A 0 cap [] := by
  obtain ⟨h1, h2, h3 | ⟨g', o', cur, h3, h4, h5, h6, h7⟩⟩ := h
  · exact ⟨rfl, Nat.zero_le _, Or.inl h3⟩
  · exact ⟨rfl, Nat.zero_le _, Or.inr ⟨g', o', cur, h3, h4, h5, h6, fun i x hi => by simp at hi⟩⟩
set_option maxHeartbeats 2000000 in
theorem marks_any (A : Option Addr) (len cap : Nat) (l : List Ev) (w : World) (he : EsAt w w.heap.size A len l) (hl : len ≤ 4398046511104) :
    Calls Tryz.prog 4 #[.slice A len cap] w fun e w' => ∃ A' c', e = .returned (.slice A' len c') ∧ TkAt Icell 1 3 w' w.heap.size A' len c' (l.map Ev.mark) ∧ Below w.heap.size w w' := by
  have He := Lib.hid he
  have Hlen := Lib.hid he.len
  obtain ⟨i0, hi, hz0, hz1, hz2⟩ := info_parts info_int
  clear he
  go_enter Tryz.func4, Tryz.ntmps4
  go_wp2_with fail
  go_loopw [3, 8] (fun v i wr => ∃ (k : Nat) (A' : Option Addr) (c' : Nat), k ≤ len ∧ i = .int .i64 k ∧ v = .slice A' k c' ∧ Hid (TkAt Icell 1 3 wr w.heap.size A' k c' ((l.take k).map Ev.mark)) ∧ Hid (Below w.heap.size w wr)) (fun _ i _ => len - (RowKit.intOf i).toNat)
  case atStart => exact ⟨0, none, 0, Nat.zero_le _, rfl, rfl, Lib.hid (TkAt.nil _ _), Lib.hid (Below.refl _ _)⟩
  case round =>
    obtain ⟨k, A', c', hk, rfl, rfl, HT, HB⟩ := hrel
    by_cases hlt : k < len
    · obtain ⟨b, off, ev, rfl, hbl, hx, x0, x1, x2, x3, x4, x5⟩ := EsAt.cell6 (He.out.below HB.out) hlt
      have Hx := Lib.hid hx
      clear hx
      obtain ⟨W1, hW1⟩ : ∃ W1, W1 = (wr.alloc (.cells #[.int .i64 ev.task, .int .u8 ev.kind, .int .i64 ev.number, .int .i64 ev.shard, .int .i64 ev.count, .int .i64 ev.mark] 44)).alloc (.cells #[.int .i64 ev.mark] 3) := ⟨_, rfl⟩
      have hb1 : Below wr.heap.size wr W1 := hW1 ▸ bel_alloc (bel_alloc (Below.refl _ _) _) _
      have HC : Hid (∀ (j : Nat) (u : Value), (Icell ev.mark)[j]? = some u → W1.cell? ((⟨wr.heap.size + 1, 0, none⟩ : Addr).add j) = some u) := Lib.hid (by
        rw [hW1]
        have := cells_nw (wr.alloc (.cells #[.int .i64 ev.task, .int .u8 ev.kind, .int .i64 ev.number, .int .i64 ev.shard, .int .i64 ev.count, .int .i64 ev.mark] 44)) [.int .i64 ev.mark] 3
        rw [World.size_alloc] at this
        exact this)
      have HT1 := Lib.hid (HT.out.below hb1)
      have HB1 : Hid (Below w.heap.size w W1) := Lib.hid (HB.out.trans (hb1.mono HB.out.size))
      have HW1 := Lib.hid hW1
      clear hW1 hb1
      go_wp2_with (first
        | (at_builtin; rw [← HW1.out]; refine wpList_push rfl _ _ 23 rfl 3 i0 _ 1 8 Tryz.underlying23 hi hz0 hz1 hz2 rfl (by decide) (fun _ => rfl) one_int w.heap.size A' k c' _ rfl HT1.out HB1.out.size ev.mark ⟨wr.heap.size + 1, 0, none⟩ 1 rfl HC.out (by simp only [maxLen]; omega) (by omega) ?_; intro A3 c3 w4 h1 h2 h3; have HT4 := Lib.hid h1; have HB4 : Hid (Below w.heap.size w w4) := Lib.hid (HB1.out.trans (h2.below HB1.out.size (fun q ⟨ad, e, e2⟩ => by rw [e2]; exact (HT1.out.lt e).1))); clear h1 h2 h3)
        | fail)
      refine ⟨⟨k + 1, A3, c3, by omega, by go_num, rfl, Lib.hid ?_, HB4⟩, by simp [RowKit.intOf]; omega⟩
      have := HT4.out
      rwa [show (l.take k).map Ev.mark ++ [ev.mark] = (l.take (k + 1)).map Ev.mark by rw [List.take_add_one, Hx.out]; simp] at this
    · obtain rfl : k = len := by omega
      go_wp2_with fail
      go_ret
      refine ⟨A', c', rfl, ?_, HB.out⟩
      have := HT.out
      rwa [List.take_of_length_le (by rw [Hlen.out]; exact Nat.le_refl _)] at this
set_option maxHeartbeats 2000000 in
theorem rmarks_any (A : Option Addr) (len cap : Nat) (l : List Ev) (w : World) (he : EsAt w w.heap.size A len l) (hl : len ≤ 4398046511104) :
    Calls Tryz.prog 6 #[.slice A len cap] w fun e w' => ∃ A' c', e = .returned (.slice A' len c') ∧ TkAt Icell 1 3 w' w.heap.size A' len c' (l.map Ev.mark) ∧ Below w.heap.size w w' := by
  have He := Lib.hid he
  have Hlen := Lib.hid he.len
  obtain ⟨i0, hi, hz0, hz1, hz2⟩ := info_parts info_int
  clear he
  go_enter Tryz.func6, Tryz.ntmps6
  go_wp2_with fail
  go_loopw [3, 4] (fun v i wr => ∃ (k : Nat) (A' : Option Addr) (c' : Nat), k ≤ len ∧ i = .int .i64 k ∧ v = .slice A' k c' ∧ Hid (TkAt Icell 1 3 wr w.heap.size A' k c' ((l.take k).map Ev.mark)) ∧ Hid (Below w.heap.size w wr)) (fun _ i _ => len - (RowKit.intOf i).toNat)
  case atStart => exact ⟨0, none, 0, Nat.zero_le _, rfl, rfl, Lib.hid (TkAt.nil _ _), Lib.hid (Below.refl _ _)⟩
  case round =>
    obtain ⟨k, A', c', hk, rfl, rfl, HT, HB⟩ := hrel
    by_cases hlt : k < len
    · obtain ⟨b, off, ev, rfl, hbl, hx, x0, x1, x2, x3, x4, x5⟩ := EsAt.cell6 (He.out.below HB.out) hlt
      have Hx := Lib.hid hx
      clear hx
      obtain ⟨W1, hW1⟩ : ∃ W1, W1 = wr.alloc (.cells #[.int .i64 ev.mark] 3) := ⟨_, rfl⟩
      have hb1 : Below wr.heap.size wr W1 := hW1 ▸ bel_alloc (Below.refl _ _) _
      have HC : Hid (∀ (j : Nat) (u : Value), (Icell ev.mark)[j]? = some u → W1.cell? ((⟨wr.heap.size, 0, none⟩ : Addr).add j) = some u) := Lib.hid (by
        rw [hW1]
        exact cells_nw wr [.int .i64 ev.mark] 3)
      have HT1 := Lib.hid (HT.out.below hb1)
      have HB1 : Hid (Below w.heap.size w W1) := Lib.hid (HB.out.trans (hb1.mono HB.out.size))
      have HW1 := Lib.hid hW1
      clear hW1 hb1
      go_wp2_with (first
        | (at_builtin; rw [← HW1.out]; refine wpList_push rfl _ _ 23 rfl 3 i0 _ 1 8 Tryz.underlying23 hi hz0 hz1 hz2 rfl (by decide) (fun _ => rfl) one_int w.heap.size A' k c' _ rfl HT1.out HB1.out.size ev.mark ⟨wr.heap.size, 0, none⟩ 1 rfl HC.out (by simp only [maxLen]; omega) (by omega) ?_; intro A3 c3 w4 h1 h2 h3; have HT4 := Lib.hid h1; have HB4 : Hid (Below w.heap.size w w4) := Lib.hid (HB1.out.trans (h2.below HB1.out.size (fun q ⟨ad, e, e2⟩ => by rw [e2]; exact (HT1.out.lt e).1))); clear h1 h2 h3)
        | fail)
      refine ⟨⟨k + 1, A3, c3, by omega, by go_num, rfl, Lib.hid ?_, HB4⟩, by simp [RowKit.intOf]; omega⟩
      have := HT4.out
      rwa [show (l.take k).map Ev.mark ++ [ev.mark] = (l.take (k + 1)).map Ev.mark by rw [List.take_add_one, Hx.out]; simp] at this
    · obtain rfl : k = len := by omega
      go_wp2_with fail
      go_ret
      refine ⟨A', c', rfl, ?_, HB.out⟩
      have := HT.out
      rwa [List.take_of_length_le (by rw [Hlen.out]; exact Nat.le_refl _)] at this
end Go.Proofs.YtbiamjgkedmceaaGreatDoor

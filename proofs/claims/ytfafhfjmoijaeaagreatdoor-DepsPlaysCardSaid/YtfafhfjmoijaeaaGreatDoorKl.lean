/- DepsPlays: the walk of its law, last part. -/
import Derived.Test.YtfafhfjmoijaeaaGreatDoorKg
namespace Go.Proofs.YtfafhfjmoijaeaaGreatDoor
open Go.RowKit
set_option linter.unusedVariables false
set_option linter.unusedSimpArgs false

open Go.Maps
set_option maxRecDepth 100000
theorem apart_dps {w : World} {lo gz gr gb N : Nat} {t : TB} (h : DPS w lo t gz gr gb N) (hT : TabB Tryz.prog lo w) :
    Calls Tryz.prog 8 #[.pointer (some ⟨gb, 0, none⟩)] w fun e w' => e = .returned (.bool true) ∧ (∃ m d A n c xs, DPT w' lo t gz gr N m d A n c xs) ∧ Below lo w w' := by
  obtain ⟨m, d, A, n, c, xs, cnt, xI, xW, hD, hB, hcnt, hlI, hlW, hsep⟩ := h
  refine (apartK_any gb lo cnt xI xW w hB hT).mono ?_
  rintro e w' ⟨rfl, h1, h2⟩
  exact ⟨rfl, ⟨m, d, A, n, c, xs, hD.apart hB hsep h1⟩, h2⟩
theorem DPS.belowN {w w' : World} {lo gz gr gb N : Nat} {t : TB} (h : DPS w lo t gz gr gb N) (hb : Below w.heap.size w w') : DPS w' lo t gz gr gb N := by
  obtain ⟨m, d, A, n, c, xs, cnt, xI, xW, hD, hB, hcnt, hlI, hlW, hsep⟩ := h
  exact ⟨m, d, A, n, c, xs, cnt, xI, xW, hD.below hb, hB.kept (X := fun _ => False) (Kept.of_below hb) (fun _ h => h.elim), hcnt, hlI, hlW, hsep⟩
theorem RTAt.lower {w : World} {B lo g n c : Nat} {A : Option Addr} {xs : List O2} (h : RTAt w B g A n c xs) (hB : lo ≤ B) : RTAt w lo g A n c xs := ⟨h.st, h.tk.more hB, fun x hx => ⟨(h.el x hx).1.more hB, (h.el x hx).2.more hB⟩⟩
set_option maxHeartbeats 8000000 in
theorem lawdeps_any (A : Option Addr) (len cap : Nat) (l : List KOp) (w : World) (h : RowAt KOp.cells 5 w w.heap.size A len l) (ho : ∀ o ∈ l, OpOk w w.heap.size o) (hl : len ≤ 4398046511104) (hT : TabB Tryz.prog w.heap.size w) :
    Calls Tryz.prog 3 #[.slice A len cap] w fun e w' => e = .returned (.bool true) ∧ Below w.heap.size w w' := by
  obtain ⟨lo, hlo⟩ : ∃ lo, lo = w.heap.size := ⟨_, rfl⟩
  rw [← hlo] at h ho hT ⊢
  have H := Lib.hid h
  have HO := Lib.hid ho
  have HT := Lib.hid hT
  have Hlo := Lib.hid hlo
  have HB := Lib.hid (beyond11_any A len cap l w (hlo ▸ h) (hlo ▸ ho) hl)
  clear h ho hT hlo
  go_enter Tryz.func3, Tryz.ntmps3
  go_wp2_with fail
  refine HB.out.mono ?_
  rintro e w1 ⟨⟨q, rfl⟩, hb1⟩
  have HB1 : Hid (Below lo w w1) := Lib.hid (Hlo.out ▸ hb1)
  have hz1 : lo ≤ w1.heap.size := by have := hb1.size; have := Hlo.out; omega
  clear hb1 HB
  cases q with
  | true =>
    go_wp2_with fail
    go_ret
    exact ⟨rfl, HB1.out⟩
  | false =>
  by_cases hbig : 2000 < len
  · have hbi : (2000 : Int) < (len : Int) := by omega
    go_wp2_with fail
    go_ret
    exact ⟨rfl, HB1.out⟩
  have hbi : ¬ (2000 : Int) < (len : Int) := by omega
  go_wp2_with fail
  refine (new_any w1).mono ?_
  rintro e w2 ⟨rfl, ht2, hb2⟩
  obtain ⟨t, ht⟩ : ∃ t : TB, t = ⟨w1.heap.size + 3, w1.heap.size, w1.heap.size + 1, w1.heap.size + 2⟩ := ⟨_, rfl⟩
  have HTG : Hid (w1.heap.size + 3 = t.g) := Lib.hid (by rw [ht])
  rw [← ht] at ht2
  have Hlot : Hid (∀ k, t.has k → lo ≤ k) := Lib.hid (fun k hk => by
    rw [ht] at hk
    rcases hk with rfl | rfl | rfl | rfl <;> simp only <;> omega)
  have HT2 := Lib.hid ht2
  have HB2 := Lib.hid (HB1.out.trans (hb2.mono hz1))
  have hz2 := hb2.size
  rw [HTG.out]
  clear ht2 hb2 ht
  go_wp2_with fail
  refine (r11new_any w2).mono ?_
  rintro e w3 ⟨rfl, hr3, hb3⟩
  have HR3 := Lib.hid (hr3.kept (X := fun _ => False) (Kept.refl _ _) (fun _ _ h => h))
  have HT3 := Lib.hid (HT2.out.below hb3)
  have HB3 := Lib.hid (HB2.out.trans (hb3.mono (by omega)))
  have hz3 := hb3.size
  clear hr3 hb3
  go_wp2_with fail
  obtain ⟨w4, hw4⟩ : ∃ w4, w4 = (w3.alloc (.cells #[.map none, .map none, .map none, .int .i64 0] 32)).alloc (.cells bookZ 46) := ⟨_, rfl⟩
  have hb4 : Below w3.heap.size w3 w4 := hw4 ▸ bel_alloc (bel_alloc (Below.refl _ _) _) _
  have hz4 : w4.heap.size = w3.heap.size + 2 := by rw [hw4]; simp
  have HD4 : Hid (DPS w4 lo t w3.heap.size w2.heap.size (w3.heap.size + 1) (2 * 0)) := Lib.hid (by
    have hzz : ZeroT (w3.alloc (.cells #[.map none, .map none, .map none, .int .i64 0] 32)) w3.heap.size := blk_new _ _
    have hD : DPT (w3.alloc (.cells #[.map none, .map none, .map none, .int .i64 0] 32)) lo t w3.heap.size w2.heap.size (2 * 0) 0 ⟨[], [], [], 0⟩ none 0 0 [] :=
      ⟨KIn.start, HT3.out.below (bel_alloc (Below.refl _ _) _), ((HR3.out.lower (by omega)).below (bel_alloc (Below.refl _ _) _)), Nat.le_refl _, (fun o ho => by cases ho), hzz, Hlot.out, by omega⟩
    rw [hw4]
    refine hD.book (bel_alloc (Below.refl _ _) _) ?_ (by omega)
    have := blk_new (w3.alloc (.cells #[.map none, .map none, .map none, .int .i64 0] 32)) (.cells bookZ 46)
    simpa using this)
  have HB4 : Hid (Below lo w w4) := Lib.hid (HB3.out.trans (hb4.mono (by omega)))
  rw [show (w3.alloc (.cells #[.map none, .map none, .map none, .int .i64 0] 32)).alloc (.cells #[.int .i64 0, .slice none 0 0, .slice none 0 0, .slice none 0 0, .slice none 0 0, .slice none 0 0, .slice none 0 0, .slice none 0 0, .slice none 0 0, .slice none 0 0, .slice none 0 0, .slice none 0 0] 46) = w4 from hw4.symm]
  clear hb4 hw4
  go_loopw [7, 8] (fun kv i wr => ∃ j gb : Nat, j ≤ len ∧ i = .int .i64 j ∧ kv = .pointer (some ⟨gb, 0, none⟩) ∧ Hid (DPS wr lo t w3.heap.size w2.heap.size gb (2 * j)) ∧ Hid (Below lo w wr)) (fun _ i _ => len - (RowKit.intOf i).toNat)
  case atStart => exact ⟨0, _, Nat.zero_le _, rfl, rfl, HD4, HB4⟩
  case round =>
    obtain ⟨j, gb, hj, rfl, rfl, HDj, HBj⟩ := hrel
    by_cases hlt : j < len
    · obtain ⟨b, off, o, rfl, hbl, hx, hxc⟩ := (H.out.below HBj.out).at_ hlt
      have HO0 := Lib.hid (HO.out o (List.mem_of_getElem? hx))
      have hk5 : ∀ (X : World), Below lo wr X → (X.cell? ⟨b, off + j * 5, none⟩ = some (.int .u8 o.kind) ∧ X.cell? ⟨b, off + j * 5 + 1, none⟩ = some (.int .i64 o.n) ∧ X.cell? ⟨b, off + j * 5 + 2, none⟩ = some (.int .i64 o.tn) ∧ X.cell? ⟨b, off + j * 5 + 3, none⟩ = some (.slice o.A o.len o.cap) ∧ X.cell? ⟨b, off + j * 5 + 4, none⟩ = some (.string o.key)) := fun X hX =>
        ⟨(hX.cell hbl).trans (hxc 0 _ rfl), (hX.cell hbl).trans (hxc 1 _ rfl), (hX.cell hbl).trans (hxc 2 _ rfl), (hX.cell hbl).trans (hxc 3 _ rfl), (hX.cell hbl).trans (hxc 4 _ rfl)⟩
      have HK5 := Lib.hid hk5
      obtain ⟨y0, y1, y2, y3, y4⟩ := hk5 wr (Below.refl _ _)
      clear hk5 hx hxc
      go_wp2_with fail
      refine (asked_all lo t w3.heap.size w2.heap.size gb (2 * j) o wr HDj.out (HO0.out.below HBj.out) (by omega)).mono ?_
      rintro e v1 ⟨rfl, hd1, hb1⟩
      have Hd1 := Lib.hid hd1
      have Hb1 := Lib.hid hb1
      clear y0 y1 y2 y3 y4
      obtain ⟨y0, y1, y2, y3, y4⟩ := HK5.out v1 hb1
      clear hd1 hb1
      go_wp2_with fail
      refine (asked0_all lo t w3.heap.size w2.heap.size gb (2 * j + 1) o v1 Hd1.out ((HO0.out.below HBj.out).below Hb1.out) (by omega)).mono ?_
      rintro e v2 ⟨rfl, hd2, hb2⟩
      have Hd2 := Lib.hid hd2
      have Hb2 := Lib.hid (HBj.out.trans (Hb1.out.trans hb2))
      clear hd2 hb2 y0 y1 y2 y3 y4
      have hrem : Int.tmod (j : Int) 8 = ((j % 8 : Nat) : Int) := by rw [Int.tmod_eq_emod_of_nonneg (by omega)]; omega
      by_cases h7 : j % 8 = 7
      · have h7' : ((j % 8 : Nat) : Int) = 7 := by omega
        rw [h7'] at hrem
        go_wp2_with fail
        refine (apart_dps Hd2.out (HT.out.next Hb2.out)).mono ?_
        rintro e v3 ⟨rfl, hd3, hb3⟩
        have Hd3 := Lib.hid hd3
        have Hb3 := Lib.hid (Hb2.out.trans hb3)
        clear hd3 hb3
        go_wp2_with fail
        refine ⟨⟨j + 1, _, by omega, by go_num, rfl, Lib.hid ?_, Lib.hid (Hb3.out.alloc (by
          obtain ⟨m, d, A, n, c, xs, hD⟩ := Hd3.out
          exact hD.lo_) _)⟩, by simp [RowKit.intOf]; omega⟩
        obtain ⟨m, d, A, n, c, xs, hD⟩ := Hd3.out
        exact hD.book (bel_alloc (Below.refl _ _) _) (blk_new _ _) hD.lo_
      · have h7' : ¬ ((j % 8 : Nat) : Int) = 7 := by omega
        go_wp2_with fail
        exact ⟨⟨j + 1, gb, by omega, by go_num, rfl, Hd2, Hb2⟩, by simp [RowKit.intOf]; omega⟩
    · obtain rfl : j = len := by omega
      go_wp2_with fail
      refine (apart_dps HDj.out (HT.out.next HBj.out)).mono ?_
      rintro e v3 ⟨rfl, hd3, hb3⟩
      have Hb3 := Lib.hid (HBj.out.trans hb3)
      obtain ⟨m, d, A3, n, c, xs, hD⟩ := hd3
      have hl3 := hD.lo_
      have hl2 : lo ≤ v3.heap.size := hl3
      have HD5 := Lib.hid (hD.book (bel_alloc (Below.refl _ _) (.cells bookZ 46)) (blk_new _ _) hD.lo_)
      have HB5 : Hid (Below lo w (v3.alloc (.cells bookZ 46))) := Lib.hid (Hb3.out.alloc hl3 _)
      clear hb3 hD
      go_wp2_with fail
      have hA := asked_all lo t w3.heap.size w2.heap.size v3.heap.size (2 * j) ⟨0, 0, 0, none, 0, 0, [], ⟨#[]⟩⟩ _ HD5.out ⟨RowAt.nil_, fun _ => rfl, (show (0 : Nat) * 40 ≤ 140737488351232 by omega), (show (0 : Nat) ≤ 140737488351232 by omega), fun x hx => by cases hx⟩ (by omega)
      simp only [OpV] at hA
      refine hA.mono ?_
      rintro e v4 ⟨rfl, -, hb4⟩
      have Hb4 := Lib.hid (HB5.out.trans hb4)
      clear hb4
      go_wp2_with fail
      go_ret
      exact ⟨rfl, Hb4.out⟩
end Go.Proofs.YtfafhfjmoijaeaaGreatDoor

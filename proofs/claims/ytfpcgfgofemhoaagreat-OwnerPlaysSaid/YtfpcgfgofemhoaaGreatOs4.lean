/- OwnerPlays: the walk of its law. -/
import Derived.Test.YtfpcgfgofemhoaaGreatOs3
import Derived.Test.YtfpcgfgofemhoaaGreatON
namespace Go.Proofs.YtfpcgfgofemhoaaGreat
open Go.RowKit
set_option linter.unusedVariables false
set_option linter.unusedSimpArgs false

set_option maxRecDepth 100000
def InvB (W : World) (o : OB) (x s : Nat) (len : Nat) (X : World) (j : Nat) : Prop :=
  ∃ f L q A n cap W2 wc q' k, BothAt X W.heap.size o f L q x s A n cap W2 wc q' ∧ Below W.heap.size W X ∧ L.length ≤ len + k ∧ 2 * k + q.length ≤ j
theorem InvB.below {W X X' : World} {o : OB} {x s len j : Nat} (h : InvB W o x s len X j) (hb : Below X.heap.size X X') : InvB W o x s len X' j := by
  obtain ⟨f, L, q, A, n, cap, W2, wc, q', k, h1, h2, h3, h4⟩ := h
  exact ⟨f, L, q, A, n, cap, W2, wc, q', k, h1.below hb, h2.trans (hb.mono h2.size), h3, h4⟩
set_option maxHeartbeats 8000000 in
theorem lawplays_any (shard queue : Int) (A : Option Addr) (len cap : Nat) (hs : List HR) (Aq : Option Addr) (lenq capq : Nat) (asks : List AskR) (w : World) (hw : HdsAt w w.heap.size A len hs) (hl : len ≤ 3518437208780) (hlv : ∀ h ∈ hs, h.len ≤ 4398046510976) (hq : AsAt w w.heap.size Aq lenq asks) (hql : lenq ≤ 4398046511104) :
    Calls Tryz.prog 3 #[.agg #[.int .i64 shard, .int .i64 queue, .slice A len cap], .slice Aq lenq capq] w fun e w' => e = .returned (.bool true) ∧ Below w.heap.size w w' := by
  have Hw := Lib.hid hw
  have Hq := Lib.hid hq
  have Hlv := Lib.hid hlv
  have hlen : (plainR hs).length = len := by have := hw.1.len; simp [plainR, this]
  have Hlen := Lib.hid hlen
  clear hw hq hlv hlen
  go_enter Tryz.func3, Tryz.ntmps3
  go_wp2_with fail
  obtain ⟨W, hW⟩ : ∃ W, W = w.alloc (.cells #[.int .i64 shard, .int .i64 queue, .slice A len cap] 24) := ⟨_, rfl⟩
  rw [← hW]
  have HW : Hid (Below w.heap.size w W) := Lib.hid (hW ▸ bel_alloc (Below.refl _ _) _)
  clear hW
  refine (made_any shard queue A len cap hs W ((Hw.out.below HW.out).more HW.out.size) hl Hlv.out).mono ?_
  have hrow : ∀ X, Below W.heap.size W X → ∀ x ∈ asks, RowAt Icell 1 X W.heap.size x.r.A x.r.len x.r.bs ∧ x.r.len * 8 ≤ 140737488351232 := fun X hX x hx => by
    obtain ⟨h1, h2, -⟩ := Hq.out.2 x hx
    exact ⟨((h1.below HW.out).more HW.out.size).below hX, by omega⟩
  have HRow := Lib.hid hrow
  clear hrow
  rintro e w1 (⟨rfl, hb1⟩ | ⟨o, x, s, A1, cap1, rfl, hba, hok, hb1⟩)
  · obtain ⟨Inv, hInv⟩ : ∃ Inv : World → Nat → Prop, Inv = fun X _ => Below W.heap.size W X := ⟨_, rfl⟩
    have HI0 : Hid (Inv w1 0) := Lib.hid (by rw [hInv]; exact hb1)
    have HBel : Hid (∀ X j, Inv X j → Below W.heap.size W X) := Lib.hid (by rw [hInv]; exact fun _ _ h => h)
    have HAsk : Hid (∀ X j x9, asks[j]? = some x9 → j < 200 → Inv X j → Calls Tryz.prog 6 #[.pointer none, .pointer none, .agg x9.cells.toArray] X fun e w' => e = .returned (.bool true) ∧ Inv w' (j + 1)) := Lib.hid (by
      rw [hInv]
      intro X j x9 hx _ hI
      obtain ⟨h1, h2⟩ := HRow.out X hI x9 (List.mem_of_getElem? hx)
      exact (asks_nil (.pointer none) x9 X (Or.inl rfl) (h1.more hI.size) h2).mono fun e w' ⟨he, hb⟩ => ⟨he, hI.trans (hb.mono hI.size)⟩)
    have HSt : Hid (∀ X j, j ≤ 200 → Inv X j → Calls Tryz.prog 7 #[.pointer none, .pointer none] X fun e w' => e = .returned (.bool true) ∧ Inv w' j ∧ Below W.heap.size W w') := Lib.hid (by
      rw [hInv]
      intro X j _ hI
      exact (stands_nil (.pointer none) X (Or.inl rfl)).mono fun e w' ⟨he, hb⟩ => ⟨he, hI.trans (hb.mono hI.size), hI.trans (hb.mono hI.size)⟩)
    clear hInv hb1 HRow
    as_aux_lemma =>
    go_wp2_with fail
    go_loopw [8] (fun i wr => ∃ j : Nat, j ≤ lenq ∧ j ≤ 200 ∧ i = .int .i64 j ∧ Hid (Inv wr j)) (fun i _ => lenq - (RowKit.intOf i).toNat)
    case atStart => exact ⟨0, by omega, by omega, rfl, HI0⟩
    case round =>
      obtain ⟨j, hj, hj2, rfl, HI⟩ := hrel
      by_cases hlt : j < lenq
      · by_cases h200 : j < 200
        · obtain ⟨b, off, x9, rfl, hbl, hx9, hcx⟩ := Hq.out.1.at_ hlt
          have HB := Lib.hid (HBel.out _ _ HI.out)
          have hcell : ∀ (k : Nat) (u : Value), (AskR.cells x9)[k]? = some u → wr.cell? ⟨b, off + j * 10 + k, none⟩ = some u := fun k u hu => ((HW.out.trans (HB.out.mono HW.out.size)).cell (p := ⟨b, off + j * 10 + k, none⟩) hbl).trans (hcx k u hu)
          have HC := Lib.hid hcell
          have HA := Lib.hid (HAsk.out wr j x9 hx9 h200 HI.out)
          clear hx9 hcx hcell
          obtain ⟨sv, r⟩ := x9
          have y0 := HC.out 0 _ rfl
          have y1 := HC.out 1 _ rfl
          have y2 := HC.out 2 _ rfl
          have y3 := HC.out 3 _ rfl
          have y4 := HC.out 4 _ rfl
          have y5 := HC.out 5 _ rfl
          have y6 := HC.out 6 _ rfl
          have y7 := HC.out 7 _ rfl
          have y8 := HC.out 8 _ rfl
          have y9 := HC.out 9 _ rfl
          simp only [Nat.add_zero] at y0
          go_wp2_with fail
          refine HA.out.mono ?_
          rintro e w2 ⟨rfl, hi2⟩
          have HI2 := Lib.hid hi2
          clear hi2 y0 y1 y2 y3 y4 y5 y6 y7 y8 y9
          go_wp2_with fail
          refine (HSt.out w2 (j + 1) (by omega) HI2.out).mono ?_
          rintro e w3 ⟨rfl, hi3, hb3⟩
          have HI3 := Lib.hid hi3
          clear hi3 hb3
          go_wp2_with fail
          exact ⟨⟨j + 1, by omega, by omega, by go_num, HI3⟩, by simp [RowKit.intOf]; omega⟩
        · skip
          as_aux_lemma =>
          go_wp2_with fail
          refine (HSt.out wr j (by omega) HI.out).mono ?_
          rintro e w4 ⟨rfl, hi4, hb4⟩
          have HB4 := Lib.hid hb4
          clear hi4 hb4
          go_wp2_with fail
          refine (lives15_any w4).mono ?_
          rintro e w6 ⟨rfl, hb6⟩
          have HB6 := Lib.hid (HW.out.trans ((HB4.out.trans (hb6.mono HB4.out.size)).mono HW.out.size))
          clear hb6
          go_wp2_with fail
          go_ret
          exact ⟨rfl, HB6.out⟩
      · skip
        as_aux_lemma =>
        go_wp2_with fail
        refine (HSt.out wr j (by omega) HI.out).mono ?_
        rintro e w4 ⟨rfl, hi4, hb4⟩
        have HB4 := Lib.hid hb4
        clear hi4 hb4
        go_wp2_with fail
        refine (lives15_any w4).mono ?_
        rintro e w6 ⟨rfl, hb6⟩
        have HB6 := Lib.hid (HW.out.trans ((HB4.out.trans (hb6.mono HB4.out.size)).mono HW.out.size))
        clear hb6
        go_wp2_with fail
        go_ret
        exact ⟨rfl, HB6.out⟩
  · obtain ⟨Inv, hInv⟩ : ∃ Inv : World → Nat → Prop, Inv = InvB W o x s len := ⟨_, rfl⟩
    have HI0 : Hid (Inv w1 0) := Lib.hid (by rw [hInv]; exact ⟨_, _, _, _, _, _, _, _, _, 0, hba, hb1, by rw [Hlen.out]; omega, by simp⟩)
    have HBel : Hid (∀ X j, Inv X j → Below W.heap.size W X) := Lib.hid (by rw [hInv]; exact fun _ _ ⟨_, _, _, _, _, _, _, _, _, _, _, h, _⟩ => h)
    have HAsk : Hid (∀ X j x9, asks[j]? = some x9 → j < 200 → Inv X j → Calls Tryz.prog 6 #[.pointer (some ⟨o.g, 0, none⟩), .pointer (some ⟨x, 0, none⟩), .agg x9.cells.toArray] X fun e w' => e = .returned (.bool true) ∧ Inv w' (j + 1)) := Lib.hid (by
      rw [hInv]
      intro X j x9 hx hj ⟨f, L, q, A, n, cap, W2, wc, q', k, h1, h2, h3, h4⟩
      obtain ⟨g1, g2⟩ := HRow.out X h2 x9 (List.mem_of_getElem? hx)
      refine (asks_any W.heap.size x s n cap wc f A W2 L q q' o x9 X h1 g1 g2 (by omega)).mono fun e w' he => ?_
      obtain ⟨he, f', L', q2, A', n', cap', W', wc', q2', d, i1, i2, i3, i4⟩ := he
      exact ⟨he, f', L', q2, A', n', cap', W', wc', q2', k + d, i1, h2.trans i2, by omega, by omega⟩)
    have HSt : Hid (∀ X j, j ≤ 200 → Inv X j → Calls Tryz.prog 7 #[.pointer (some ⟨o.g, 0, none⟩), .pointer (some ⟨x, 0, none⟩)] X fun e w' => e = .returned (.bool true) ∧ Inv w' j ∧ Below W.heap.size W w') := Lib.hid (by
      rw [hInv]
      intro X j hj hI
      have hI2 := hI
      obtain ⟨f, L, q, A, n, cap, W2, wc, q', k, h1, h2, h3, h4⟩ := hI
      exact (stands_any W.heap.size x s n cap wc f A W2 L q q' o X h1 (by omega)).mono fun e w' ⟨he, hb⟩ => ⟨he, hI2.below hb, h2.trans (hb.mono h2.size)⟩)
    clear hInv hb1 HRow hba hok
    as_aux_lemma =>
    go_wp2_with fail
    go_loopw [8] (fun i wr => ∃ j : Nat, j ≤ lenq ∧ j ≤ 200 ∧ i = .int .i64 j ∧ Hid (Inv wr j)) (fun i _ => lenq - (RowKit.intOf i).toNat)
    case atStart => exact ⟨0, by omega, by omega, rfl, HI0⟩
    case round =>
      obtain ⟨j, hj, hj2, rfl, HI⟩ := hrel
      by_cases hlt : j < lenq
      · by_cases h200 : j < 200
        · obtain ⟨b, off, x9, rfl, hbl, hx9, hcx⟩ := Hq.out.1.at_ hlt
          have HB := Lib.hid (HBel.out _ _ HI.out)
          have hcell : ∀ (k : Nat) (u : Value), (AskR.cells x9)[k]? = some u → wr.cell? ⟨b, off + j * 10 + k, none⟩ = some u := fun k u hu => ((HW.out.trans (HB.out.mono HW.out.size)).cell (p := ⟨b, off + j * 10 + k, none⟩) hbl).trans (hcx k u hu)
          have HC := Lib.hid hcell
          have HA := Lib.hid (HAsk.out wr j x9 hx9 h200 HI.out)
          clear hx9 hcx hcell
          obtain ⟨sv, r⟩ := x9
          have y0 := HC.out 0 _ rfl
          have y1 := HC.out 1 _ rfl
          have y2 := HC.out 2 _ rfl
          have y3 := HC.out 3 _ rfl
          have y4 := HC.out 4 _ rfl
          have y5 := HC.out 5 _ rfl
          have y6 := HC.out 6 _ rfl
          have y7 := HC.out 7 _ rfl
          have y8 := HC.out 8 _ rfl
          have y9 := HC.out 9 _ rfl
          simp only [Nat.add_zero] at y0
          go_wp2_with fail
          refine HA.out.mono ?_
          rintro e w2 ⟨rfl, hi2⟩
          have HI2 := Lib.hid hi2
          clear hi2 y0 y1 y2 y3 y4 y5 y6 y7 y8 y9
          go_wp2_with fail
          refine (HSt.out w2 (j + 1) (by omega) HI2.out).mono ?_
          rintro e w3 ⟨rfl, hi3, hb3⟩
          have HI3 := Lib.hid hi3
          clear hi3 hb3
          go_wp2_with fail
          exact ⟨⟨j + 1, by omega, by omega, by go_num, HI3⟩, by simp [RowKit.intOf]; omega⟩
        · skip
          as_aux_lemma =>
          go_wp2_with fail
          refine (HSt.out wr j (by omega) HI.out).mono ?_
          rintro e w4 ⟨rfl, hi4, hb4⟩
          have HB4 := Lib.hid hb4
          clear hi4 hb4
          go_wp2_with fail
          refine (lives15_any w4).mono ?_
          rintro e w6 ⟨rfl, hb6⟩
          have HB6 := Lib.hid (HW.out.trans ((HB4.out.trans (hb6.mono HB4.out.size)).mono HW.out.size))
          clear hb6
          go_wp2_with fail
          go_ret
          exact ⟨rfl, HB6.out⟩
      · skip
        as_aux_lemma =>
        go_wp2_with fail
        refine (HSt.out wr j (by omega) HI.out).mono ?_
        rintro e w4 ⟨rfl, hi4, hb4⟩
        have HB4 := Lib.hid hb4
        clear hi4 hb4
        go_wp2_with fail
        refine (lives15_any w4).mono ?_
        rintro e w6 ⟨rfl, hb6⟩
        have HB6 := Lib.hid (HW.out.trans ((HB4.out.trans (hb6.mono HB4.out.size)).mono HW.out.size))
        clear hb6
        go_wp2_with fail
        go_ret
        exact ⟨rfl, HB6.out⟩
end Go.Proofs.YtfpcgfgofemhoaaGreat

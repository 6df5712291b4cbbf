/- slices.Insert of a version where there is room. -/
import Derived.Test.YtfpcgfgofemhoaaGreatIns
namespace Go.Proofs.YtfpcgfgofemhoaaGreat
open Go.RowKit
set_option linter.unusedVariables false
set_option linter.unusedSimpArgs false

set_option maxRecDepth 100000
set_option maxHeartbeats 4000000 in
theorem ins_room (B : Nat) (b cap : Nat) (vs : List Ver) (x : Ver) (k : Nat) (g : Nat) (w : World) (hown : OwnV w B (.slice (some ⟨b, 0, none⟩) vs.length cap) vs) (hl : vs.length ≤ 65536) (hk : k < vs.length) (hc : vs.length + 1 ≤ cap) (hg : w.heap[g]? = some (.cells x.cells.toArray 104 (0, 0))) (hgb : g ≠ b) :
    Calls Tryz.prog 102 #[.slice (some ⟨b, 0, none⟩) vs.length cap, .int .i64 k, .slice (some ⟨g, 0, none⟩) 1 1] w fun e w' => ∃ v', e = .returned v' ∧ OwnV w' B v' (vs.take k ++ x :: vs.drop k) ∧ Below B w w' := by
  obtain ⟨i0, hi, hz0, hz1, hz2⟩ := info_parts info_ver
  have hsz : (Tryz.prog.info? 104).map (·.size) = some 3 := by rw [hi]; simp [hz1]
  have hbl : b < w.heap.size ∧ B ≤ b := by have := hown.lt b rfl; omega
  have hcell : ∀ j u, (vs.flatMap Ver.cells)[j]? = some u → w.cell? ⟨b, j, none⟩ = some u := fun j u hu => by
    have := hown.cells (g := b) rfl j u hu
    rwa [Addr.add_lit, Nat.zero_add] at this
  have hgc : ∀ j u, (Ver.cells x)[j]? = some u → w.cell? ⟨g, j, none⟩ = some u := fun j u hu => by rw [blk_cell hg]; simpa using hu
  obtain ⟨L, hL, hLl, hLt, hcm⟩ : ∃ L : List Value, w.heap[b]? = some (.cells L.toArray 104 (0, 0)) ∧ L.length = cap * 3 ∧ L.take (vs.length * 3) = vs.flatMap Ver.cells ∧ cap ≤ maxLen := by
    obtain ⟨-, ⟨h, -⟩ | ⟨g', cap', cur, h, h1, h2, h3, h4, h5, h6⟩⟩ := hown
    · cases h
    · injection h with q1 q2 q3
      injection q1 with q1; injection q1 with q1
      subst q1 q3
      exact ⟨cur.toList, by simpa using h2, by simpa using h5, h6, h4⟩
  have hov := fun lb cb => ovl_run g b 0 ((k + 1) * 3) 1 1 lb cb _ _ _ _ w hg hL hgb (by simp; intro h; rw [h] at hLl; simp at hLl; omega)
  have Hcell := Lib.hid hcell
  have Hgc := Lib.hid hgc
  have hgl := blk_lt hg
  have HL := Lib.hid hL
  have HLl := Lib.hid hLl
  have hLt2 : L.take (k * 3) = (vs.take k).flatMap Ver.cells := by rw [flat_take, ← hLt, List.take_take, Nat.min_eq_left (by omega)]
  generalize hn : vs.length = n at hl hk hc ⊢
  have Hn := Lib.hid hn
  obtain ⟨P1, hP1⟩ : ∃ P1, P1 = (vs.take k).flatMap Ver.cells := ⟨_, rfl⟩
  obtain ⟨D1, hD1⟩ : ∃ D1, D1 = (vs.drop k).flatMap Ver.cells := ⟨_, rfl⟩
  obtain ⟨X1, hX1⟩ : ∃ X1, X1 = Ver.cells x := ⟨_, rfl⟩
  rw [← hP1] at hLt2
  have HLt := Lib.hid hLt2
  have hPl : P1.length = k * 3 := by rw [hP1, flat_len _ (len_ver _), List.length_take]; omega
  have hDl : D1.length = (n - k) * 3 := by rw [hD1, flat_len _ (len_ver _), List.length_drop]; omega
  have hXl : X1.length = 3 := by rw [hX1]; rfl
  have hDc : ∀ j u, D1[j]? = some u → w.cell? ⟨b, k * 3 + j, none⟩ = some u := fun j u hu => by
    rw [hD1, flat_drop, List.getElem?_drop] at hu
    exact Hcell.out _ u hu
  have hXc : ∀ j u, X1[j]? = some u → w.cell? ⟨g, j, none⟩ = some u := fun j u hu => by rw [hX1] at hu; exact Hgc.out j u hu
  have hD1c : ∀ u ∈ D1, u.oneCell' = true := by rw [hD1]; exact flat_one _
  have hX1c : ∀ u ∈ X1, u.oneCell' = true := by rw [hX1]; exact one_ver _
  have HDc := Lib.hid hDc
  have HXc := Lib.hid hXc
  have HPl := Lib.hid hPl
  have HDl := Lib.hid hDl
  have HXl := Lib.hid hXl
  have HP1 := Lib.hid hP1
  have HDD := Lib.hid hD1
  have HXX := Lib.hid hX1
  have HD1 := Lib.hid hD1c
  have HX1 := Lib.hid hX1c
  have hck : ¬ cap = k := by omega
  have hck2 : ¬ cap = k + 1 := by omega
  have hk1 : IntKind.i64.wrap ((k : Int) + 1) = (k : Int) + 1 := IntWalk.i64_in _ (by omega)
  have hk2 : (0 : Int) ≤ (k : Int) + 1 := by omega
  have hk3 : ((k : Int) + 1).toNat = k + 1 := by omega
  have hn3 : ((n : Int) + 1).toNat = n + 1 := by omega
  have hn4 : (0 : Int) ≤ (n : Int) + 1 := by omega
  have hz3 : ¬ ((cap : Int) < (n : Int) + 1) := by omega
  have hz4 : (n : Int) + 1 ≤ (cap : Int) := by omega
  have hcp2 : (cap : Int) ≤ 9223372036854775807 := by unfold maxLen at hcm; omega
  have hkn : (k : Int) ≤ (n : Int) := by omega
  have hkn1 : (k : Int) ≤ (n : Int) + 1 := by omega
  have hne : ¬ ((k : Int) = (n : Int)) := by omega
  have hz5 : 3 ≤ cap * 3 := by omega
  have Hm1 : Hid (X1.length = Nat.min 1 (n + 1 - k) * 3) := Lib.hid (by rw [HXl.out, show Nat.min 1 (n + 1 - k) = 1 from Nat.min_eq_left (by omega)])
  have Hm2 : Hid (D1.length = Nat.min (n + 1 - k) (n + 1 - (k + 1)) * 3) := Lib.hid (by rw [HDl.out, show Nat.min (n + 1 - k) (n + 1 - (k + 1)) = n - k from (Nat.min_eq_right (by omega)).trans (by omega)])
  clear hcell hgc hn hPl hDl hXl hDc hXc hD1c hX1c hP1 hD1 hX1 hg hown hL hLl hLt hLt2
  go_enter Tryz.func102, Tryz.ntmps102
  go_wp2_with (simp only [hov])
  clear hov
  go_region_law (refine step_copy_spliceK rfl (.tmp 73) (.tmp 76) 68 68 rfl 104 3 (by decide) Tryz.underlying68 hsz (some ⟨b, (k + 1) * 3, none⟩) (some ⟨b, k * 3, none⟩) (n + 1 - (k + 1)) (cap - (k + 1)) (n + 1 - k) (cap - k) (by simp [Act.eval, Act.put]) (by simp [Act.eval, Act.put]) b ((k + 1) * 3) L 104 HL.out D1 Hm2.out (fun _ => ⟨rfl, _, rfl, fun j u hu => by rw [Addr.add_lit]; exact HDc.out j u hu⟩) (by rw [HDl.out, HLl.out]; omega) HD1.out B w (bel_drewB (Below.refl _ _)) hbl.2 ?_; intro w2 HL2 hb2 hs2 HO2)
  have Hb2 := Lib.hid hb2
  have hL2l : (splice L ((k + 1) * 3) D1).length = cap * 3 := by rw [length_splice _ _ _ (by rw [HDl.out, HLl.out]; omega)]; exact HLl.out
  have HL2l := Lib.hid hL2l
  have hxc2 : ∀ j u, X1[j]? = some u → w2.cell? ⟨g, j, none⟩ = some u := fun j u hu => (World.cell?_of_block (a := ⟨g, j, none⟩) (HO2.out g hgb)).trans (HXc.out j u hu)
  have Hxc2 := Lib.hid hxc2
  clear hL2l hxc2 hb2 hs2
  go_wp2_with (with_reducible refine wpList_copy_spliceK (o := ⟨some 82, _, _, _, _, _⟩) rfl (.tmp 80) (.tmp 81) 68 68 rfl 104 3 (by decide) Tryz.underlying68 hsz (some ⟨b, k * 3, none⟩) (some ⟨g, 0, none⟩) (n + 1 - k) (cap - k) 1 1 rfl rfl b (k * 3) (splice L ((k + 1) * 3) D1) 104 HL2.out X1 Hm1.out (fun _ => ⟨rfl, _, rfl, fun j u hu => by rw [Addr.add_lit, Nat.zero_add]; exact Hxc2.out j u hu⟩) (by rw [HXl.out, HL2l.out]; omega) HX1.out B w Hb2.out hbl.2 ?_)
  intro w3 HL3 hb3 hs3 _ho3
  have Hb3 := Lib.hid hb3
  clear hb3 hs3
  go_wp2_with fail
  go_ret
  refine ⟨_, rfl, ?_, Hb3.out⟩
  have hlen : (vs.take k ++ x :: vs.drop k).length = n + 1 := by rw [List.length_append, List.length_cons, List.length_take, List.length_drop]; have := Hn.out; omega
  have hflat : (vs.take k ++ x :: vs.drop k).flatMap Ver.cells = P1 ++ (X1 ++ D1) := by rw [List.flatMap_append, List.flatMap_cons, HP1.out, HXX.out, HDD.out]
  obtain ⟨e1, e2⟩ := splice_dst_src (L := L) (P := P1) (X := X1) (D := D1) (a := k * 3) (b := 3) (c := (n - k) * 3) HPl.out HXl.out HDl.out (by rw [HLl.out]; omega) HLt.out
  rw [show k * 3 + 3 = (k + 1) * 3 from by omega, show (k + 1) * 3 + (n - k) * 3 = (n + 1) * 3 from by omega] at e1
  have := ownV_of (vs := vs.take k ++ x :: vs.drop k) (cap := cap) HL3.out hbl.2 (by rw [length_splice _ _ _ (by rw [HXl.out, HL2l.out]; omega)]; exact HL2l.out) (by rw [hlen]; omega) hcm (by rw [hlen, hflat]; exact e1)
  rwa [hlen] at this
/-- slices.Insert of one version. -/
theorem ins_any (B : Nat) (v : Value) (vs : List Ver) (x : Ver) (k : Nat) (g : Nat) (w : World) (hown : OwnV w B v vs) (hl : vs.length ≤ 65536) (hk : k ≤ vs.length) (hg : w.heap[g]? = some (.cells x.cells.toArray 104 (0, 0))) (hgb : v.ownBlock ≠ some g) (hB : B ≤ w.heap.size) :
    Calls Tryz.prog 102 #[v, .int .i64 k, .slice (some ⟨g, 0, none⟩) 1 1] w fun e w' => ∃ v', e = .returned v' ∧ OwnV w' B v' (vs.take k ++ x :: vs.drop k) ∧ Below B w w' := by
  rcases Nat.lt_or_ge k vs.length with hlt | hge
  · have hown' := hown
    obtain ⟨-, ⟨rfl, h0⟩ | ⟨b, cap, cur, rfl, -⟩⟩ := hown'
    · omega
    · by_cases hc : cap < vs.length + 1
      · exact (ins_grow B b cap vs x k g w hown hl hlt hc hg hB).mono fun e w' ⟨v', h1, h2, h3⟩ => ⟨v', h1, h2, h3.mono hB⟩
      · exact ins_room B b cap vs x k g w hown hl hlt (by omega) hg (fun e => hgb (by simp [Value.ownBlock, e]))
  · obtain rfl : k = vs.length := by omega
    have := ins_end B v vs x g w hown hl hg hB
    rw [List.take_of_length_le (Nat.le_refl _), List.drop_eq_nil_of_le (Nat.le_refl _)]
    exact this
end Go.Proofs.YtfpcgfgofemhoaaGreat

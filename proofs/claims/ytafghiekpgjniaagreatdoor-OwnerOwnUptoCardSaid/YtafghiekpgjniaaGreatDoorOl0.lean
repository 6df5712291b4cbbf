/- towpathlaw15: an owner that installs, and answers. -/
import Derived.Test.YtafghiekpgjniaaGreatDoorOwF
import Derived.Deep.DeepCutAuto
import Derived.Deep.RegionHeld3
namespace Go.Proofs.YtafghiekpgjniaaGreatDoor
open Go.RowKit
set_option linter.unusedVariables false
set_option linter.unusedSimpArgs false

set_option maxRecDepth 100000
def lr1 : Rq := ⟨1, 1, 1, ⟨#[97]⟩, ⟨#[49]⟩, false, ⟨#[]⟩, ⟨#[]⟩, none, 0, 0, []⟩
def lr2 : Rq := ⟨2, -1, 1, ⟨#[]⟩, ⟨#[]⟩, false, ⟨#[97]⟩, ⟨#[]⟩, none, 0, 0, []⟩
theorem lr1_may : mayR lr1 = true := by decide
theorem lr2_may : mayR lr2 = true := by decide
theorem lr_new (A : Option Addr) (c : Nat) : newP [] (partR { lr1 with A := A, cap := c }) = true := by
  show newP [] ⟨1, ⟨⟨#[97]⟩, ⟨#[49]⟩, false⟩⟩ = true
  decide
theorem lr_get (A : Option Addr) (c : Nat) : getV (hget (instH [] (partR { lr1 with A := A, cap := c })) ⟨#[97]⟩) 1 = (⟨#[49]⟩, true) := by
  unfold instH
  rw [if_pos (lr_new A c)]
  show getV (hget (hput [] ⟨#[97]⟩ (putV (hget [] ⟨#[97]⟩) ⟨1, ⟨#[49]⟩, false⟩)) ⟨#[97]⟩) 1 = _
  rw [hget_hput, if_pos rfl]
  decide
theorem cont_len (m : List (ByteArray × List Ver)) : (cont m).length = (sortedK m).length := by simp [cont]
theorem instH_len (L : Hs) (p : Part) (h : HsOk L) : (instH L p).length ≤ L.length + 1 := by
  unfold instH
  split
  · unfold hput
    rw [cont_len]
    rw [len_sortedK]
    exact length_mput_le _ _ _
  · omega
theorem instH_size (L : Hs) (p : Part) (h : HsOk L) : sizeH (instH L p) ≤ sizeH L + 1 := by
  unfold instH
  split
  · unfold hput
    have h1 := sizeH_cont (m := mput L p.w.key (putV (hget L p.w.key) p.ver)) (nodup_mput _ _ h.nodup)
    have h2 := sizeM_mput L p.w.key (putV (hget L p.w.key) p.ver)
    have h3 := len_putV (hget L p.w.key) p.ver
    have h4 := sizeH_cont (m := L) h.nodup
    rw [cont_id h] at h4
    omega
  · omega
section
variable {w w' : World} {L L' : Hs} {r : Rq} {cs : Array Value}
theorem RepR.k1 (h : RepR w L r L' cs w') (hk : r.kind = 1) : L' = instH L (partR r) ∧ cs = #[.int .i64 r.from_, .bool (newP L (partR r)), .slice none 0 0, .slice none 0 0, .int .i64 0] := by
  unfold RepR at h; rwa [if_pos hk] at h
theorem RepR.k2 (h : RepR w L r L' cs w') (hk : r.kind = 2) : L' = L ∧ ∃ v, cs = #[.int .i64 r.from_, .bool (getV (hget L r.key) r.num).2, v, .slice none 0 0, .int .i64 0] ∧ (if (getV (hget L r.key) r.num).2 = true then OwnE w' w.heap.size v [(r.key, (getV (hget L r.key) r.num).1)] else v = .slice none 0 0) := by
  unfold RepR at h; rwa [if_neg (by omega), if_pos hk] at h
theorem RepR.k3 (h : RepR w L r L' cs w') (hk : r.kind = 3) : L' = L ∧ ∃ v, cs = #[.int .i64 r.from_, .bool true, v, .slice none 0 0, .int .i64 0] ∧ OwnE w' w.heap.size v (scanH L r.key r.fin r.num) := by
  unfold RepR at h; rwa [if_neg (by omega), if_neg (by omega), if_pos hk] at h
theorem RepR.k4 (h : RepR w L r L' cs w') (hk : r.kind = 4) : L' = collH L r.num ∧ cs = #[.int .i64 r.from_, .bool true, .slice none 0 0, .slice none 0 0, .int .i64 (goneH L r.num : Nat)] := by
  unfold RepR at h; rwa [if_neg (by omega), if_neg (by omega), if_neg (by omega), if_pos hk] at h
theorem RepR.k5 (h : RepR w L r L' cs w') (hk : r.kind = 5) : L' = L ∧ ∃ v hs, cs = #[.int .i64 r.from_, .bool true, .slice none 0 0, v, .int .i64 0] ∧ HRow w' w.heap.size v hs ∧ plainR hs = dumpH L r.num r.bs := by
  unfold RepR at h; rwa [if_neg (by omega), if_neg (by omega), if_neg (by omega), if_neg (by omega)] at h
end
set_option maxHeartbeats 8000000 in
theorem lives15_any (w : World) : Calls Tryz.prog 37 #[] w fun e w' => e = .returned (.bool true) ∧ Below w.heap.size w w' := by
  go_enter Tryz.func37, Tryz.ntmps37
  go_wp2_with fail
  refine (onew_any 0 2 none 0 0 [] w ⟨RowAt.nil_, by simp⟩ (by omega) (by simp)).mono ?_
  intro e w1 he
  unfold ONewEnd at he
  rw [if_pos ⟨⟨by omega, by omega, by omega, by omega⟩, by decide⟩] at he
  obtain ⟨o, rfl, ho, hcap, hg, htg, htp, hp, hb, hb1⟩ := he
  have hcap2 : o.cap = 2 := by omega
  have HO1 : Hid (OwAt w1 o 0 [] []) := Lib.hid ho
  have HB1 := Lib.hid hb1
  clear ho hb1 hcap
  go_wp2_with fail
  refine (oask_any o 0 [] [] lr1 w1 HO1.out RowAt.nil_ (fun _ => rfl) (by decide)).mono ?_
  intro e w2 he
  unfold OAskEnd at he
  rw [if_pos lr1_may, if_pos (by rw [hcap2]; simp)] at he
  obtain ⟨A1, c1, rfl, -, ho2, k2⟩ := he
  have HO2 := Lib.hid ho2
  have K2 : Hid (Kept w1 w2 (fun b => b = o.p ∨ b = o.b ∨ b = o.t.p)) := Lib.hid (k2.mono (fun b hb => by omega))
  clear ho2 k2 HO1
  go_wp2_with fail
  refine (oask_any o 0 [] _ lr2 w2 HO2.out RowAt.nil_ (fun _ => rfl) (by decide)).mono ?_
  intro e w3 he
  unfold OAskEnd at he
  rw [if_pos lr2_may, if_pos (by rw [hcap2]; simp)] at he
  obtain ⟨A2, c2, rfl, -, ho3, k3⟩ := he
  have HO3 := Lib.hid ho3
  have K3 : Hid (Kept w1 w3 (fun b => b = o.p ∨ b = o.b ∨ b = o.t.p)) := Lib.hid (K2.out.trans (k3.mono (fun b hb => by omega)))
  clear ho3 k3 HO2 K2
  go_wp2_with fail
  refine (oask_any o 0 [] _ lr2 w3 HO3.out RowAt.nil_ (fun _ => rfl) (by decide)).mono ?_
  intro e w4 he
  unfold OAskEnd at he
  rw [if_pos lr2_may, if_neg (by rw [hcap2]; simp)] at he
  obtain ⟨rfl, hb4⟩ := he
  have HO4 := Lib.hid (HO3.out.below hb4)
  have K4 : Hid (Kept w1 w4 (fun b => b = o.p ∨ b = o.b ∨ b = o.t.p)) := Lib.hid (K3.out.trans (Kept.of_below hb4))
  clear hb4 HO3 K3
  go_wp2_with fail
  refine (oserve_any o 0 [] _ _ w4 HO4.out (by simp) (by simp [sizeH])).mono ?_
  rintro e w5 ⟨f2, L', cs, rfl, hrep, ho5, k5, -⟩
  obtain ⟨rfl, rfl⟩ := hrep.k1 rfl
  rw [lr_new]
  have HO5 := Lib.hid ho5
  have K5 : Hid (Kept w1 w5 (fun b => b = o.p ∨ b = o.b ∨ b = o.t.p)) := Lib.hid (K4.out.trans k5)
  clear ho5 k5 HO4 K4
  have lf1 : ({ lr1 with A := A1, cap := c1 } : Rq).from_ = 1 := rfl
  rw [lf1]
  clear lf1
  have hl5 := instH_len [] (partR { lr1 with A := A1, cap := c1 }) HsOk.nil
  have hs5 := instH_size [] (partR { lr1 with A := A1, cap := c1 }) HsOk.nil
  have hgt := lr_get A1 c1
  have Hgt := Lib.hid hgt
  clear hgt
  generalize instH [] (partR { lr1 with A := A1, cap := c1 }) = L5 at HO5 hl5 hs5 Hgt
  go_wp2_with fail
  have HO5a := Lib.hid (HO5.out.below (bel_alloc (Below.refl _ _) (.cells #[.int .i64 1, .bool true, .slice none 0 0, .slice none 0 0, .int .i64 0] 105)))
  have K5a := Lib.hid (K5.out.trans (Kept.of_below (X := fun b => b = o.p ∨ b = o.b ∨ b = o.t.p) (bel_alloc (Below.refl w5.heap.size w5) (.cells #[.int .i64 1, .bool true, .slice none 0 0, .slice none 0 0, .int .i64 0] 105))))
  have HN5 : Hid ((w5.alloc (.cells #[.int .i64 1, .bool true, .slice none 0 0, .slice none 0 0, .int .i64 0] 105)).heap[w5.heap.size]? = some (.cells #[.int .i64 1, .bool true, .slice none 0 0, .slice none 0 0, .int .i64 0] 105 (0, 0))) := Lib.hid (blk_new _ _)
  have h5p := HO5.out.rg.buf.lt
  have h5q := blk_lt HO5.out.rg.hp
  have h5t := HO5.out.sh.lt.2
  clear HO5 K5
  generalize w5.alloc (.cells #[.int .i64 1, .bool true, .slice none 0 0, .slice none 0 0, .int .i64 0] 105) = w6 at HO5a K5a HN5 ⊢
  generalize w5.heap.size = g5 at HN5 h5p h5q h5t ⊢
  refine (oserve_any o f2 L5 _ _ w6 HO5a.out (by simp at hl5; omega) (by simp [sizeH] at hs5 ⊢; omega)).mono ?_
  rintro e w7 ⟨f3, L', cs, rfl, hrep, ho7, k7, -⟩
  obtain ⟨rfl, v, rfl, hv⟩ := hrep.k2 rfl
  have hg7 : getV (hget L' ({ lr2 with A := A2, cap := c2 } : Rq).key) ({ lr2 with A := A2, cap := c2 } : Rq).num = (⟨#[49]⟩, true) := Hgt.out
  rw [hg7] at hv ⊢
  simp only [if_true] at hv
  have lf2 : ({ lr2 with A := A2, cap := c2 } : Rq).from_ = -1 := rfl
  rw [lf2]
  obtain ⟨A7, c7, rfl, hrow, hnil, -⟩ := rowAt_own (len_en _) hv
  obtain ⟨b7, o7, x7, rfl, hb7, hx7, hc7⟩ := hrow.at_ (i := 0) (by simp)
  have hx7' : x7 = (⟨#[97]⟩, ⟨#[49]⟩) := by simp at hx7; exact hx7.symm
  subst hx7'
  have y0 := hc7 0 _ rfl
  have y1 := hc7 1 _ rfl
  simp only [Nat.zero_mul, Nat.add_zero] at y0 y1
  have n5 : w7.heap[g5]? = some (.cells #[.int .i64 1, .bool true, .slice none 0 0, .slice none 0 0, .int .i64 0] 105 (0, 0)) := k7.blk HN5.out (blk_lt HN5.out) (by omega)
  have HN7 := Lib.hid n5
  have Y : Hid (w7.cell? ⟨b7, o7, none⟩ = some (.string ⟨#[97]⟩) ∧ w7.cell? ⟨b7, o7 + 1, none⟩ = some (.string ⟨#[49]⟩)) := Lib.hid ⟨y0, y1⟩
  have HO7 := Lib.hid ho7
  have K7 : Hid (Kept w1 w7 (fun b => b = o.p ∨ b = o.b ∨ b = o.t.p)) := Lib.hid (K5a.out.trans k7)
  clear hrep hv hrow hnil hx7 hc7 y0 y1 n5 ho7 k7 lf2 hg7 HO5a K5a HN5
  simp only [List.length_singleton]
  go_wp2_with fail
  have HO8 := Lib.hid (HO7.out.below (bel_alloc (Below.refl _ _) (.cells #[.int .i64 (-1), .bool true, .slice (some ⟨b7, o7, none⟩) 1 c7, .slice none 0 0, .int .i64 0] 105)))
  have HB8 : Hid (Below w7.heap.size w7 (w7.alloc (.cells #[.int .i64 (-1), .bool true, .slice (some ⟨b7, o7, none⟩) 1 c7, .slice none 0 0, .int .i64 0] 105))) := Lib.hid (bel_alloc (Below.refl _ _) _)
  have HN8 : Hid ((w7.alloc (.cells #[.int .i64 (-1), .bool true, .slice (some ⟨b7, o7, none⟩) 1 c7, .slice none 0 0, .int .i64 0] 105)).heap[w7.heap.size]? = some (.cells #[.int .i64 (-1), .bool true, .slice (some ⟨b7, o7, none⟩) 1 c7, .slice none 0 0, .int .i64 0] 105 (0, 0))) := Lib.hid (blk_new _ _)
  generalize w7.alloc (.cells #[.int .i64 (-1), .bool true, .slice (some ⟨b7, o7, none⟩) 1 c7, .slice none 0 0, .int .i64 0] 105) = w8 at HO8 HB8 HN8 ⊢
  refine (oserve_none o f3 L' w8 HO8.out).mono ?_
  rintro e w9 ⟨rfl, hb9⟩
  have HB9 := Lib.hid (HB8.out.trans (hb9.mono HB8.out.size))
  have m5 : w9.heap[g5]? = some (.cells #[.int .i64 1, .bool true, .slice none 0 0, .slice none 0 0, .int .i64 0] 105 (0, 0)) := (HB9.out.block _ (blk_lt HN7.out)).trans HN7.out
  have m8 : w9.heap[w7.heap.size]? = some (.cells #[.int .i64 (-1), .bool true, .slice (some ⟨b7, o7, none⟩) 1 c7, .slice none 0 0, .int .i64 0] 105 (0, 0)) := (hb9.block _ (blk_lt HN8.out)).trans HN8.out
  have q0 : w9.cell? ⟨g5, 0, none⟩ = some (.int .i64 1) := blk_cell m5 0
  have q1 : w9.cell? ⟨g5, 1, none⟩ = some (.bool true) := blk_cell m5 1
  have q2 : w9.cell? ⟨w7.heap.size, 0, none⟩ = some (.int .i64 (-1)) := blk_cell m8 0
  have q3 : w9.cell? ⟨w7.heap.size, 2, none⟩ = some (.slice (some ⟨b7, o7, none⟩) 1 c7) := blk_cell m8 2
  have q4 : w9.cell? ⟨b7, o7, none⟩ = some (.string ⟨#[97]⟩) := (HB9.out.cell (p := ⟨b7, o7, none⟩) hb7).trans Y.out.1
  have q5 : w9.cell? ⟨b7, o7 + 1, none⟩ = some (.string ⟨#[49]⟩) := (HB9.out.cell (p := ⟨b7, o7 + 1, none⟩) hb7).trans Y.out.2
  have HB10 : Hid (Below w.heap.size w w9) := Lib.hid (HB1.out.trans (((K7.out.trans (Kept.of_below HB9.out)).below HB1.out.size (fun k hk => by omega))))
  clear hb9 m5 m8
  go_wp2_with fail
  go_ret
  exact ⟨rfl, HB10.out⟩
end Go.Proofs.YtafghiekpgjniaaGreatDoor

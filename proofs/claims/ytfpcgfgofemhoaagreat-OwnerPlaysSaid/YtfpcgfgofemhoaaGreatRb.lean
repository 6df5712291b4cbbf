/- towpathref15: Ask. -/
import Derived.Test.YtfpcgfgofemhoaaGreatRa
namespace Go.Proofs.YtfpcgfgofemhoaaGreat
open Go.RowKit
set_option linter.unusedVariables false
set_option linter.unusedSimpArgs false

set_option maxRecDepth 100000
/-- What the document's Ask answers. -/
def R15Ask (w : World) (Bo x s : Nat) (A : Option Addr) (n cap : Nat) (L : Hs) (qn : Nat) (W : Option Addr) (q : List Rq) (r : Rq) (e : Ending) (w' : World) : Prop :=
  if mayR r = true then
    if q.length < qn then ∃ W' wc', e = .returned (.tuple #[.bool true, .int .i64 0]) ∧ RxAt w' Bo x s A n cap L qn W' (q.length + 1) wc' (q ++ [r]) ∧ Kept w w' (fun b => b = x ∨ ∃ a, W = some a ∧ b = a.block) ∧ FromA w W W'
    else e = .returned (.tuple #[.bool false, .int .i64 0]) ∧ Below w.heap.size w w'
  else e = .returned (.tuple #[.bool false, .int .i64 1]) ∧ Below w.heap.size w w'
theorem len_rq (r : Rq) : (Rq.cells r).length = 9 := rfl
theorem one_rq (r : Rq) : ∀ u ∈ Rq.cells r, u.oneCell' = true := fun u hu => by
  simp [Rq.cells] at hu
  rcases hu with rfl | rfl | rfl | rfl | rfl | rfl | rfl | rfl | rfl <;> rfl
theorem info_rq1 : (Tryz.prog.info? 36).map (fun i => (i.zero, i.size, i.bytes)) = some (some zeroRq.val, 9, 120) := by kernel_rfl
set_option maxHeartbeats 8000000 in
theorem r15ask_any (Bo x s n cap qn wn wc : Nat) (A W : Option Addr) (L : Hs) (q : List Rq) (r : Rq) (w : World) (h : RxAt w Bo x s A n cap L qn W wn wc q) (hi : RowAt Icell 1 w Bo r.A r.len r.bs) (hl : r.len ≤ 17592186044416) :
    Calls Tryz.prog 18 #[.pointer (some ⟨x, 0, none⟩), r.val] w (R15Ask w Bo x s A n cap L qn W q r) := by
  have H := Lib.hid h
  have hmy : ∀ X, Below w.heap.size w X → Calls Tryz.prog 45 #[r.val] X fun e w' => e = .returned (.bool (mayR r)) ∧ Below X.heap.size X w' := fun X hX => r15may_any r X (((hi.more h.lo.2.2.2).below hX).more hX.size) hl
  have Hmy := Lib.hid hmy
  have Hi := Lib.hid hi
  obtain ⟨hw1, hw2⟩ := h.lim
  have hwl : q.length = wn := h.len
  have Hwl := Lib.hid hwl
  obtain ⟨i0, ii, hz0, hz1, hz2⟩ := info_parts info_rq1
  clear h hmy hi hwl
  unfold Rq.val at Hmy ⊢
  go_enter Tryz.func18, Tryz.ntmps18
  go_wp2_with fail
  obtain ⟨W1, hW⟩ : ∃ W1, W1 = w.alloc (.cells r.cells.toArray 36) := ⟨_, rfl⟩
  change Calls _ _ _ (w.alloc (.cells r.cells.toArray 36)) _
  rw [← hW]
  have HB1 : Hid (Below w.heap.size w W1) := Lib.hid (hW ▸ bel_alloc (Below.refl _ _) _)
  have HN1 : Hid (W1.heap[w.heap.size]? = some (.cells r.cells.toArray 36 (0, 0))) := Lib.hid (hW ▸ blk_new _ _)
  clear hW
  refine (Hmy.out _ HB1.out).mono ?_
  rintro e w2 ⟨rfl, hb2⟩
  have HB2 : Hid (Below w.heap.size w w2) := Lib.hid (HB1.out.trans (hb2.mono HB1.out.size))
  have HN2 : Hid (w2.heap[w.heap.size]? = some (.cells r.cells.toArray 36 (0, 0))) := Lib.hid ((hb2.block _ (blk_lt HN1.out)).trans HN1.out)
  clear hb2 HB1 HN1 Hmy
  cases hm : mayR r
  · have Hm := Lib.hid hm
    clear hm
    go_wp2_with fail
    go_ret2
    unfold R15Ask
    rw [if_neg (by rw [Hm.out]; exact Bool.false_ne_true)]
    exact ⟨rfl, HB2.out⟩
  · have Hm := Lib.hid hm
    clear hm
    have HO2 := Lib.hid (H.out.below HB2.out)
    have c1 := HO2.out.c1
    have c2 := HO2.out.c2
    by_cases hroom : wn < qn
    · have hd : decide ((qn : Int) ≤ (wn : Int)) = false := by simp; omega
      have hd2 : decide (qn ≤ wn) = false := by simp; omega
      go_upto_region 5 with fail
      go_quiet (fail)
      have HO3 : Hid (RxAt (w2.drewN nq) Bo x s A n cap L qn W wn wc q) := Lib.hid (HO2.out.below (below_drewN (Below.refl _ _) _))
      have HB3 : Hid (Below w.heap.size w (w2.drewN nq)) := Lib.hid (below_drewN HB2.out _)
      have HN3 : Hid ((w2.drewN nq).heap[w.heap.size]? = some (.cells r.cells.toArray 36 (0, 0))) := Lib.hid HN2.out
      generalize w2.drewN nq = w3 at HO3 HB3 HN3 ⊢
      clear c1 c2 HO2 HB2 HN2
      have c2 := HO3.out.c2
      have hlo := HO3.out.lo.2.2.2
      have hxl : x < w3.heap.size := blk_lt HO3.out.hx
      have hnl : w.heap.size < w3.heap.size := blk_lt HN3.out
      have Hi3 : Hid (RowAt Icell 1 w3 Bo r.A r.len r.bs) := Lib.hid (Hi.out.below (HB3.out.mono H.out.lo.2.2.2))
      obtain ⟨z0, z1, z2, z3, z4, z5, z6, z7, z8⟩ := rqz r.kind r.from_ r.num r.wk r.wv r.wd r.key r.fin r.A r.len r.cap HN3.out
      have HA : Hid (∀ (w6 : World) (W' : Option Addr) (wc' : Nat), TkAt Rq.cells 9 36 w6 Bo W' (wn + 1) wc' (q ++ [r]) → Kept w3 w6 (fun b => ∃ a, W = some a ∧ b = a.block) → w6.cell? ⟨x, 2, none⟩ = some (.slice W wn wc) ∧ w6.frozen? ⟨x, 2, none⟩ = false) := Lib.hid (fun w6 W' wc' ht k => by
        have hx6 := k.blk HO3.out.hx (blk_lt HO3.out.hx) (fun ⟨a, e, e2⟩ => by
          obtain ⟨cs, hc⟩ := HO3.out.tk.ty e
          exact blk_ne HO3.out.hx hc (by decide) e2)
        exact ⟨blk_cell hx6 2, blk_frozen hx6 2⟩)
      have hHd : Below w3.heap.size w3 w3.drew := (Below.refl _ _).drew
      have HHd := Lib.hid hHd
      clear hHd
      go_upto_region 7 with fail
      go_region_law (first | (refine step_push rfl (.tmp 25) (.tmp 27) 79 rfl 36 i0 _ 9 120 Tryz.underlying79 ii hz0 hz1 hz2 rfl (by decide) len_rq one_rq Bo W wn wc q rfl (by first | exact HO3.out.tk.below (bel_alloc (bel_drew (Below.refl _ _)) _)) (by simp; omega) r ⟨w3.heap.size, 0, none⟩ 1 rfl (cells_new _ (Rq.cells r) _) (by simp only [maxLen]; omega) (by omega) ?_; intro W' wc' w6 ht6 hk6 hf6; have hk7 := (Kept.of_below (X := fun b => ∃ a, W = some a ∧ b = a.block) (bel_alloc (bel_drew (Below.refl w3.heap.size w3)) _)).trans hk6; obtain ⟨y2, y3⟩ := HA.out w6 W' wc' ht6 hk7; have HT6 := Lib.hid ht6; have HK6 := Lib.hid hk7; have HF6 : Hid (FromA w3 W W') := Lib.hid (fun a e => (hf6 a e).imp id (fun h => by simp at h; omega)); clear ht6 hk6 hf6 hk7))
      all_goals
        go_wp2_with fail
        go_ret2
        obtain ⟨g1, g2⟩ := HO3.out.asked HT6.out HK6.out hroom Hi3.out hl Hm.out
        unfold R15Ask
        rw [if_pos Hm.out, if_pos (by rw [Hwl.out]; exact hroom), Hwl.out]
        exact ⟨W', wc', rfl, g1, (Kept.of_below HB3.out).trans g2, fun a e => (HF6.out a e).imp id (fun h => Nat.le_trans HB3.out.size h)⟩
    · have hd : decide ((qn : Int) ≤ (wn : Int)) = true := by simp; omega
      have hd2 : decide (qn ≤ wn) = true := by simp; omega
      have HBq : Hid (∀ m, Below w.heap.size w (w2.drewN m)) := Lib.hid (fun m => below_drewN HB2.out m)
      go_upto_region 5 with fail
      go_quiet (fail)
      go_wp2_with fail
      go_ret2
      unfold R15Ask
      rw [if_pos Hm.out, if_neg (by rw [Hwl.out]; exact hroom)]
      exact ⟨rfl, HBq.out _⟩
end Go.Proofs.YtfpcgfgofemhoaaGreat

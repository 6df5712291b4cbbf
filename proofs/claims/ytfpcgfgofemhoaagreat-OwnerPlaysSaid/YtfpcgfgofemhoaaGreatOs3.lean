/- OwnerPlays: asks, where both owners are there. -/
import Derived.Test.YtfpcgfgofemhoaaGreatOs2
import Derived.Test.YtfpcgfgofemhoaaGreatON
import Derived.Deep.DeepCutAuto
namespace Go.Proofs.YtfpcgfgofemhoaaGreat
open Go.RowKit
set_option linter.unusedVariables false
set_option linter.unusedSimpArgs false

set_option maxRecDepth 100000
theorem tw_size (bs : List Int) : ((bs ++ [spI]).flatMap Icell).toArray.size = bs.length + 1 := by
  rw [List.size_toArray, flat_len (size := 1) _ (len_int _)]; simp
def askB (r : Rq) (q : List Rq) (c : Nat) : Bool := mayR r && decide (q.length < c)
theorem oask_b (o : OB) (first : Nat) (L : Hs) (q : List Rq) (r : Rq) (w : World) (h : OwAt w o first L q) (hi : RowAt Icell 1 w w.heap.size r.A r.len r.bs) (hA : r.A = none → r.cap = 0) (hl : r.len ≤ 17592186044416) :
    Calls Tryz.prog 17 #[.pointer (some ⟨o.g, 0, none⟩), r.val] w fun e w' => e = .returned (.tuple #[.bool (askB r q o.cap), .int .i64 (errOf (mayR r))]) ∧ ∃ qz, OwAt w' o first L qz ∧ Kept w w' (fun b => b = o.p ∨ b = o.b) ∧ (askB r q o.cap = false → qz = q) ∧ (askB r q o.cap = true → ∃ A' c', qz = q ++ [{ r with A := A', cap := c' }] ∧ ∀ a, A' = some a → w.heap.size ≤ a.block) := by
  refine (oask_any o first L q r w h hi hA hl).mono fun e w' he => ?_
  unfold OAskEnd at he
  by_cases hm : mayR r = true
  · rw [if_pos hm] at he
    by_cases hr : q.length < o.cap
    · rw [if_pos hr] at he
      obtain ⟨A', c', rfl, hf, ho, k⟩ := he
      have hb : askB r q o.cap = true := by simp [askB, hm, hr]
      rw [hb, hm]
      exact ⟨rfl, _, ho, k, (fun h => by cases h), fun _ => ⟨A', c', rfl, hf⟩⟩
    · rw [if_neg hr] at he
      obtain ⟨rfl, hb'⟩ := he
      have hb : askB r q o.cap = false := by simp [askB, hr]
      rw [hb, hm]
      exact ⟨rfl, q, h.below hb', Kept.of_below hb', fun _ => rfl, fun h => by cases h⟩
  · rw [if_neg hm] at he
    obtain ⟨rfl, hb'⟩ := he
    have hm2 : mayR r = false := by simpa using hm
    have hb : askB r q o.cap = false := by simp [askB, hm2]
    rw [hb, hm2]
    exact ⟨rfl, q, h.below hb', Kept.of_below hb', fun _ => rfl, fun h => by cases h⟩
theorem xask_b (Bo x s n cap qn wc : Nat) (A W : Option Addr) (L : Hs) (q : List Rq) (r : Rq) (w : World) (h : RxAt w Bo x s A n cap L qn W q.length wc q) (hi : RowAt Icell 1 w Bo r.A r.len r.bs) (hl : r.len ≤ 17592186044416) :
    Calls Tryz.prog 18 #[.pointer (some ⟨x, 0, none⟩), r.val] w fun e w' => e = .returned (.tuple #[.bool (askB r q qn), .int .i64 (errOf (mayR r))]) ∧ ∃ qz W' wc', RxAt w' Bo x s A n cap L qn W' qz.length wc' qz ∧ Kept w w' (fun b => b = x ∨ ∃ a, W = some a ∧ b = a.block) ∧ FromA w W W' ∧ (askB r q qn = false → qz = q) ∧ (askB r q qn = true → qz = q ++ [r]) := by
  refine (r15ask_any Bo x s n cap qn q.length wc A W L q r w h hi hl).mono fun e w' he => ?_
  unfold R15Ask at he
  by_cases hm : mayR r = true
  · rw [if_pos hm] at he
    by_cases hr : q.length < qn
    · rw [if_pos hr] at he
      obtain ⟨W', wc', rfl, ho, k, hf⟩ := he
      have hb : askB r q qn = true := by simp [askB, hm, hr]
      rw [hb, hm]
      exact ⟨rfl, q ++ [r], W', wc', by simpa using ho, k, hf, (fun h => by cases h), fun _ => rfl⟩
    · rw [if_neg hr] at he
      obtain ⟨rfl, hb'⟩ := he
      have hb : askB r q qn = false := by simp [askB, hr]
      rw [hb, hm]
      exact ⟨rfl, q, W, wc, h.below hb', Kept.of_below hb', FromA.refl _ _, fun _ => rfl, fun h => by cases h⟩
  · rw [if_neg hm] at he
    obtain ⟨rfl, hb'⟩ := he
    have hm2 : mayR r = false := by simpa using hm
    have hb : askB r q qn = false := by simp [askB, hm2]
    rw [hb, hm2]
    exact ⟨rfl, q, W, wc, h.below hb', Kept.of_below hb', FromA.refl _ _, fun _ => rfl, fun h => by cases h⟩
/-- What asks answers. -/
def AsksEnd (w : World) (Bo : Nat) (o : OB) (L : Hs) (q : List Rq) (x s : Nat) (e : Ending) (w' : World) : Prop :=
  e = .returned (.bool true) ∧ ∃ f' L' q2 A' n' cap' W' wc' q2' d, BothAt w' Bo o f' L' q2 x s A' n' cap' W' wc' q2' ∧ Below Bo w w' ∧ L'.length ≤ L.length + d ∧ 2 * d + q2.length ≤ q.length + 1
theorem BothAt.lens {w : World} {Bo x s n cap wc f : Nat} {A W : Option Addr} {L : Hs} {q q' : List Rq} {o : OB} (h : BothAt w Bo o f L q x s A n cap W wc q') : q'.length = q.length := h.rx.len
set_option maxHeartbeats 8000000 in
theorem asks_any (Bo x s n cap wc f : Nat) (A W2 : Option Addr) (L : Hs) (q q' : List Rq) (o : OB) (a : AskR) (w : World) (h : BothAt w Bo o f L q x s A n cap W2 wc q') (hi : RowAt Icell 1 w Bo a.r.A a.r.len a.r.bs) (hreach : a.r.len * 8 ≤ 140737488351232) (hL : L.length ≤ 3518437208882) :
    Calls Tryz.prog 6 #[.pointer (some ⟨o.g, 0, none⟩), .pointer (some ⟨x, 0, none⟩), .agg a.cells.toArray] w (AsksEnd w Bo o L q x s) := by
  have HBA := Lib.hid h
  have Hi := Lib.hid hi
  clear h hi
  obtain ⟨sv, r⟩ := a
  have hlim : r.len ≤ 17592186044416 := by simp only at hreach; omega
  unfold AskR.cells Rq.cells
  simp only at *
  go_enter Tryz.func6, Tryz.ntmps6
  go_upto_region 1 with fail
  obtain ⟨W, hW⟩ : ∃ W, W = w.alloc (.cells #[.bool sv, .int .u8 r.kind, .int .i64 r.from_, .int .i64 r.num, .string r.wk, .string r.wv, .bool r.wd, .string r.key, .string r.fin, .slice r.A r.len r.cap] 38) := ⟨_, rfl⟩
  rw [← hW]
  have HB : Hid (Below w.heap.size w W) := Lib.hid (hW ▸ bel_alloc (Below.refl _ _) _)
  have n1 : W.heap[w.heap.size]? = some (.cells #[.bool sv, .int .u8 r.kind, .int .i64 r.from_, .int .i64 r.num, .string r.wk, .string r.wv, .bool r.wd, .string r.key, .string r.fin, .slice r.A r.len r.cap] 38 (0, 0)) := hW ▸ blk_new _ _
  have HN := Lib.hid n1
  have y0 : W.cell? ⟨w.heap.size, 0, none⟩ = some (.bool sv) := blk_cell n1 0
  clear hW n1
  cases sv
  · skip
    as_aux_lemma =>
    have hka : ∀ X : World, X.heap[w.heap.size]? = some (.cells #[.bool false, .int .u8 r.kind, .int .i64 r.from_, .int .i64 r.num, .string r.wk, .string r.wv, .bool r.wd, .string r.key, .string r.fin, .slice r.A r.len r.cap] 38 (0, 0)) → X.cell? ⟨w.heap.size, 1, none⟩ = some (.int .u8 r.kind) ∧ X.cell? ⟨w.heap.size, 2, none⟩ = some (.int .i64 r.from_) ∧ X.cell? ⟨w.heap.size, 3, none⟩ = some (.int .i64 r.num) ∧ X.cell? ⟨w.heap.size, 4, none⟩ = some (.string r.wk) ∧ X.cell? ⟨w.heap.size, 5, none⟩ = some (.string r.wv) ∧ X.cell? ⟨w.heap.size, 6, none⟩ = some (.bool r.wd) ∧ X.cell? ⟨w.heap.size, 7, none⟩ = some (.string r.key) ∧ X.cell? ⟨w.heap.size, 8, none⟩ = some (.string r.fin) ∧ X.cell? ⟨w.heap.size, 9, none⟩ = some (.slice r.A r.len r.cap) := fun X m =>
      ⟨blk_cell m 1, blk_cell m 2, blk_cell m 3, blk_cell m 4, blk_cell m 5, blk_cell m 6, blk_cell m 7, blk_cell m 8, blk_cell m 9⟩
    have HKA := Lib.hid hka
    clear hka
    have hloB := HBA.out.rx.lo.2.2.2
    have hlo := HBA.out.lo
    have hob := HBA.out.ow.rg.buf.lt
    have hop := blk_lt HBA.out.ow.rg.hp
    have hox := blk_lt HBA.out.rx.hx
    have HWl : Hid (∀ a, W2 = some a → a.block < w.heap.size ∧ Bo ≤ a.block) := Lib.hid (fun a e => ⟨(HBA.out.rx.tk.lt e).2, (HBA.out.rx.tk.lt e).1⟩)
    have hWs : w.heap.size < W.heap.size := blk_lt HN.out
    obtain ⟨y1, y2, y3, y4, y5, y6, y7, y8, y9⟩ := HKA.out W HN.out
    have htw := twinR_any r W (((Hi.out.more hloB).below HB.out).more HB.out.size) hreach
    have HTW := Lib.hid htw
    clear htw
    go_wp2_with fail
    refine HTW.out.mono ?_
    clear HTW y1 y2 y3 y4 y5 y6 y7 y8 y9
    rintro e w2 ⟨g, rfl, hgW, hg2, hb2⟩
    unfold Rq.val
    simp only
    have hgl := blk_lt hg2
    have HBW2 := Lib.hid hb2
    have HG2 := Lib.hid hg2
    clear hb2 hg2
    go_upto_region 6 with fail
    have HB3 : Hid (Below w2.heap.size w2 (w2.alloc (.cells #[.int .u8 r.kind, .int .i64 r.from_, .int .i64 r.num, .string r.wk, .string r.wv, .bool r.wd, .string r.key, .string r.fin, .slice (some ⟨g, 0, none⟩) r.len (r.len + 1)] 36))) := Lib.hid (bel_alloc (Below.refl _ _) _)
    have HN3 : Hid ((w2.alloc (.cells #[.int .u8 r.kind, .int .i64 r.from_, .int .i64 r.num, .string r.wk, .string r.wv, .bool r.wd, .string r.key, .string r.fin, .slice (some ⟨g, 0, none⟩) r.len (r.len + 1)] 36)).heap[w2.heap.size]? = some (.cells #[.int .u8 r.kind, .int .i64 r.from_, .int .i64 r.num, .string r.wk, .string r.wv, .bool r.wd, .string r.key, .string r.fin, .slice (some ⟨g, 0, none⟩) r.len (r.len + 1)] 36 (0, 0))) := Lib.hid (blk_new _ _)
    generalize w2.alloc (.cells #[.int .u8 r.kind, .int .i64 r.from_, .int .i64 r.num, .string r.wk, .string r.wv, .bool r.wd, .string r.key, .string r.fin, .slice (some ⟨g, 0, none⟩) r.len (r.len + 1)] 36) = w3 at HB3 HN3 ⊢
    have HW3 : Hid (Below W.heap.size W w3) := Lib.hid (HBW2.out.trans (HB3.out.mono HBW2.out.size))
    have HG3 : Hid (w3.heap[g]? = some (.cells ((r.bs ++ [spI]).flatMap Icell).toArray 3 (0, 0))) := Lib.hid ((HB3.out.block _ hgl).trans HG2.out)
    have HA3 : Hid (w3.heap[w.heap.size]? = _) := Lib.hid ((HW3.out.block _ hWs).trans HN.out)
    have hg2s : g < w2.heap.size := hgl
    have HBA3 := Lib.hid ((HBA.out.below HB.out).below HW3.out)
    have HBw3 : Hid (Below w.heap.size w w3) := Lib.hid (HB.out.trans (HW3.out.mono HB.out.size))
    have hz3 : w2.heap.size < w3.heap.size := blk_lt HN3.out
    have h2s : W.heap.size ≤ w2.heap.size := HBW2.out.size
    clear HB3 HBW2 HG2 HW3 HN
    obtain ⟨x0, x1, x2, x3, x4, x5, x6, x7, x8⟩ := rqzz r.kind r.from_ r.num r.wk r.wv r.wd r.key r.fin _ _ _ HN3.out
    have hrow3 : RowAt Icell 1 w3 w3.heap.size (some ⟨g, 0, none⟩) r.len r.bs := by
      have := (row_of_blk (len_int _) HG3.out (blk_lt HG3.out)).prefix_
      rwa [Hi.out.len] at this
    have hna := oask_b o f L q { r with A := some ⟨g, 0, none⟩, cap := r.len + 1 } w3 HBA3.out.ow hrow3 (fun e => by cases e) hlim
    have HNA := Lib.hid hna
    clear hna hrow3
    go_wp2_with fail
    refine HNA.out.mono ?_
    clear HNA x0 x1 x2 x3 x4 x5 x6 x7 x8
    rintro e w4 ⟨rfl, qz, ho4, k4, hq4, hq4'⟩
    have he4 : askB { r with A := some ⟨g, 0, none⟩, cap := r.len + 1 } q o.cap = askB r q o.cap := rfl
    have he4' : mayR { r with A := some ⟨g, 0, none⟩, cap := r.len + 1 } = mayR r := rfl
    rw [he4] at hq4 hq4' ⊢
    rw [he4']
    clear he4 he4'
    have HO4 := Lib.hid ho4
    have K4 := Lib.hid k4
    have HQ4 := Lib.hid hq4
    have HQ4' := Lib.hid hq4'
    have HN4 := Lib.hid (k4.blk HN3.out (blk_lt HN3.out) (by omega))
    have HG4 := Lib.hid (k4.blk HG3.out (blk_lt HG3.out) (by omega))
    have HA4 := Lib.hid (k4.blk HA3.out (blk_lt HA3.out) (by omega))
    have HRx4 := Lib.hid (rx_of_o HBA3.out.ow HBA3.out.rx HBA3.out.sp.1 HBA3.out.lo (k4.mono (fun b hb => by omega)))
    have HK4 : Hid (Kept w w4 (fun b => b = o.p ∨ b = o.b)) := Lib.hid ((Kept.of_below HBw3.out).trans k4)
    have HBo4 : Hid (Below Bo w w4) := Lib.hid (HK4.out.below hloB (fun b hb => by omega))
    have hz4 : w3.heap.size ≤ w4.heap.size := k4.size
    clear ho4 k4 hq4 hq4' HN3 HG3 HA3
    obtain ⟨y1, y2, y3, y4, y5, y6, y7, y8, y9⟩ := HKA.out w4 HA4.out
    have hql := HBA.out.lens
    have hrx4 := HRx4.out
    rw [← hql] at hrx4
    have hxa := xask_b Bo x s n cap o.cap wc A W2 L q' r w4 hrx4 (Hi.out.below HBo4.out) hlim
    have hqe : askB r q' o.cap = askB r q o.cap := by unfold askB; rw [hql]
    rw [hqe] at hxa
    have HXA := Lib.hid hxa
    clear hxa hrx4 hqe
    go_wp2_with fail
    refine HXA.out.mono ?_
    clear HXA y1 y2 y3 y4 y5 y6 y7 y8 y9
    rintro e w5 ⟨rfl, qz', W5, wc5, hrx5, k5, hf5, hq5, hq5'⟩
    have hlx : ∀ b, (b = x ∨ ∃ a, W2 = some a ∧ b = a.block) → b < w.heap.size ∧ Bo ≤ b := fun b hb => by
      rcases hb with rfl | ⟨a, e, rfl⟩
      · exact ⟨hox, HBA.out.rx.lo.1⟩
      · exact HWl.out a e
    have HN5 := Lib.hid (k5.blk HN4.out (blk_lt HN4.out) (fun hb => by have := (hlx _ hb).1; omega))
    have HG5 := Lib.hid (k5.blk HG4.out (blk_lt HG4.out) (fun hb => by have := (hlx _ hb).1; omega))
    have HA5 := Lib.hid (k5.blk HA4.out (blk_lt HA4.out) (fun hb => by have := (hlx _ hb).1; omega))
    have HBo5 : Hid (Below Bo w w5) := Lib.hid (HBo4.out.trans (k5.below (Nat.le_trans hloB HBo4.out.size) (fun b hb => (hlx _ hb).2)))
    have HBA5 : Hid (BothAt w5 Bo o f L qz x s A n cap W5 wc5 qz' ∧ (∀ y ∈ qz, ∀ a, y.A = some a → 0 < y.len → a.block ≠ g) ∧ qz.length ≤ q.length + 1) := Lib.hid (by
      have hq0 : ∀ y ∈ q, ∀ a, y.A = some a → 0 < y.len → a.block ≠ g := fun y hy a e hn => by have := HBA.out.ow.row_lt hy e hn; omega
      have hsp : SepX o qz x s A n W2 ∧ qz.map Rq.bare = qz'.map Rq.bare ∧ (∀ y ∈ qz, ∀ a, y.A = some a → 0 < y.len → a.block ≠ g) ∧ qz.length ≤ q.length + 1 := by
        cases hb : askB r q o.cap
        · rw [HQ4.out hb, hq5 hb]
          exact ⟨HBA.out.sp, HBA.out.eq, hq0, by omega⟩
        · obtain ⟨A1, c1, e1, e2⟩ := HQ4'.out hb
          rw [e1, hq5' hb]
          refine ⟨HBA3.out.sp.push HBA3.out.rx e2, by rw [List.map_append, List.map_append, HBA.out.eq]; rfl, fun y hy a e hn => ?_, by simp⟩
          rcases List.mem_append.1 hy with hy | hy
          · exact hq0 y hy a e hn
          · simp at hy; subst hy
            have := e2 a e; omega
      have hl : qz'.length = qz.length := by have := congrArg List.length hsp.2.1; simpa using this.symm
      rw [hl] at hrx5
      have how5 : OwAt w5 o f L qz := ow_of_x HO4.out HRx4.out hsp.1 (k5.mono (fun b hb => by
        rcases hb with rfl | h
        · exact Or.inl rfl
        · exact Or.inr (Or.inr (Or.inr h))))
      exact ⟨⟨how5, hrx5, hsp.2.1, hsp.1.next HO4.out (fun a e hn => Or.inl ⟨rfl, hn⟩) hf5, HBA.out.lo⟩, hsp.2.2.1, hsp.2.2.2⟩)
    clear hrx5 k5 hf5 hq5 hq5' HRx4 HO4 K4 HQ4 HQ4' HN4 HG4 HA4 HK4 HBA3 HBw3
    obtain ⟨y1, y2, y3, y4, y5, y6, y7, y8, y9⟩ := HKA.out w5 HA5.out
    obtain ⟨x0, x1, x2, x3, x4, x5, x6, x7, x8⟩ := rqzz r.kind r.from_ r.num r.wk r.wv r.wd r.key r.fin _ _ _ HN5.out
    have hla := leftR_any g r w5 HG5.out ((Hi.out.below HBo5.out).more (Nat.le_trans hloB HBo5.out.size)) hreach
    have HLA := Lib.hid hla
    clear hla
    generalize askB r q o.cap = b0
    generalize errOf (mayR r) = e0
    have hee := beq_self_eq_true e0
    have hen : (e0 != e0) = false := by simp
    have hbn : (b0 != b0) = false := by simp
    clear hlo
    have hbb : (b0 == b0) = true := by simp
    go_wp2_with fail
    refine HLA.out.mono ?_
    clear HLA x0 x1 x2 x3 x4 x5 x6 x7 x8 y1 y2 y3 y4 y5 y6 y7 y8 y9
    rintro e w6 ⟨rfl, hb6⟩
    have HN6 := Lib.hid ((hb6.block _ (blk_lt HN5.out)).trans HN5.out)
    have HG6 := Lib.hid ((hb6.block _ (blk_lt HG5.out)).trans HG5.out)
    have HBo6 := Lib.hid (HBo5.out.trans (hb6.mono (Nat.le_trans hloB HBo5.out.size)))
    have HBA6 := Lib.hid (HBA5.out.1.below hb6)
    have hls6 : Bo ≤ w6.heap.size := Nat.le_trans hloB HBo6.out.size
    clear hb6
    go_wp2_with fail
    go_loopw [16] (fun i wr => ∃ j : Nat, j ≤ r.len ∧ i = .int .i64 j ∧ Hid (wr.heap[w2.heap.size]? = some (.cells #[.int .u8 r.kind, .int .i64 r.from_, .int .i64 r.num, .string r.wk, .string r.wv, .bool r.wd, .string r.key, .string r.fin, .slice (some ⟨g, 0, none⟩) r.len (r.len + 1)] 36 (0, 0))) ∧ Hid (∃ cur, wr.heap[g]? = some (.cells cur 3 (0, 0)) ∧ r.len < cur.size) ∧ Hid (Kept w6 wr (fun b => b = g))) (fun i _ => r.len - (RowKit.intOf i).toNat)
    case atStart => exact ⟨0, by omega, rfl, HN6, Lib.hid ⟨_, HG6.out, by rw [tw_size, Hi.out.len]; omega⟩, Lib.hid (Kept.refl _ _)⟩
    case round =>
      obtain ⟨j, hj, rfl, HT, HC, HKr⟩ := hrel
      have x8 : wr.cell? ⟨w2.heap.size, 8, none⟩ = some (.slice (some ⟨g, 0, none⟩) r.len (r.len + 1)) := blk_cell HT.out 8
      by_cases hlt : j < r.len
      · obtain ⟨cur, hcu, hsz⟩ := HC.out
        have hjs : j < cur.size := by omega
        have c0 : wr.cell? ⟨g, j, none⟩ = some cur[j] := (blk_cell hcu j).trans (Array.getElem?_eq_getElem hjs)
        have f0 := blk_frozen hcu j
        have HCU := Lib.hid hcu
        clear hcu
        have k : Kept wr (wr.setCell ⟨g, j, none⟩ (.int .i64 (-77))) (fun b => b = g) := (Kept.refl wr (fun b => b = g)).setCell (p := ⟨g, j, none⟩) (Or.inl rfl) _
        have HT2 := Lib.hid (k.blk HT.out (blk_lt HT.out) (by omega))
        have HC2 : Hid (∃ cur, (wr.setCell ⟨g, j, none⟩ (.int .i64 (-77))).heap[g]? = some (.cells cur 3 (0, 0)) ∧ r.len < cur.size) := Lib.hid ⟨_, blk_set HCU.out j _, by simpa using hsz⟩
        have HKr2 : Hid (Kept w6 (wr.setCell ⟨g, j, none⟩ (.int .i64 (-77))) (fun b => b = g)) := Lib.hid (HKr.out.trans k)
        clear k
        go_wp2_with fail
        exact ⟨⟨j + 1, by omega, by go_num, HT2, HC2, HKr2⟩, by simp [RowKit.intOf]; omega⟩
      · go_wp2_with fail
        go_ret
        have hBg : Bo ≤ g := by omega
        have hl5 := HBA5.out.2.2
        exact ⟨rfl, _, _, _, _, _, _, _, _, _, 0, HBA6.out.far HKr.out HG6.out hBg HBA5.out.2.1, HBo6.out.trans (HKr.out.below hls6 (fun k hk => by subst hk; exact hBg)), by omega, by omega⟩
  · cases q with
    | nil =>
      as_aux_lemma =>
      have hq' : q' = [] := List.eq_nil_of_length_eq_zero HBA.out.lens
      subst hq'
      have hloB := HBA.out.rx.lo.2.2.2
      go_wp2_with fail
      refine (oserve_none o f L W (HBA.out.ow.below HB.out)).mono ?_
      rintro e w2 ⟨rfl, hb2⟩
      have HB2 := Lib.hid (HB.out.trans (hb2.mono HB.out.size))
      clear hb2
      unfold respZ
      go_wp2_with fail
      have HB3 : Hid (Below w2.heap.size w2 (w2.alloc (.cells #[.int .i64 0, .bool false, .slice none 0 0, .slice none 0 0, .int .i64 0] 56))) := Lib.hid (bel_alloc (Below.refl _ _) _)
      have HC3 : Hid ((w2.alloc (.cells #[.int .i64 0, .bool false, .slice none 0 0, .slice none 0 0, .int .i64 0] 56)).heap[w2.heap.size]? = some (.cells #[.int .i64 0, .bool false, .slice none 0 0, .slice none 0 0, .int .i64 0] 56 (0, 0))) := Lib.hid (blk_new _ _)
      generalize w2.alloc (.cells #[.int .i64 0, .bool false, .slice none 0 0, .slice none 0 0, .int .i64 0] 56) = w3 at HB3 HC3 ⊢
      refine (r15serve_none _ _ _ _ _ _ _ _ _ _ w3 ((HBA.out.below HB2.out).below HB3.out).rx).mono ?_
      rintro e w4 ⟨rfl, hb4⟩
      have HC4 := Lib.hid ((hb4.block _ (blk_lt HC3.out)).trans HC3.out)
      have HB4 := Lib.hid ((HB2.out.trans (HB3.out.mono HB2.out.size)).trans (hb4.mono (Nat.le_trans HB2.out.size HB3.out.size)))
      have hs4 : w2.heap.size < w4.heap.size := blk_lt HC4.out
      clear hb4
      unfold respZ
      have hb5 : Below w4.heap.size w4 (w4.alloc (.cells #[.int .i64 0, .bool false, .slice none 0 0, .slice none 0 0, .int .i64 0] 56)) := bel_alloc (Below.refl _ _) _
      have m1 := (hb5.block _ (blk_lt HC4.out)).trans HC4.out
      have m2 := blk_new w4 (.cells #[.int .i64 0, .bool false, .slice none 0 0, .slice none 0 0, .int .i64 0] 56)
      have HB5 := Lib.hid (HB4.out.trans (hb5.mono HB4.out.size))
      clear hb5
      go_upto_region 4 with fail
      generalize w4.alloc (.cells #[.int .i64 0, .bool false, .slice none 0 0, .slice none 0 0, .int .i64 0] 56) = w5 at m1 m2 HB5 ⊢
      have a0 : w5.cell? ⟨w2.heap.size, 0, none⟩ = some (.int .i64 0) := blk_cell m1 0
      have a1 : w5.cell? ⟨w2.heap.size, 1, none⟩ = some (.bool false) := blk_cell m1 1
      have a2 : w5.cell? ⟨w2.heap.size, 2, none⟩ = some (.slice none 0 0) := blk_cell m1 2
      have a3 : w5.cell? ⟨w2.heap.size, 3, none⟩ = some (.slice none 0 0) := blk_cell m1 3
      have a4 : w5.cell? ⟨w2.heap.size, 4, none⟩ = some (.int .i64 0) := blk_cell m1 4
      have b0 : w5.cell? ⟨w4.heap.size, 0, none⟩ = some (.int .i64 0) := blk_cell m2 0
      have b1 : w5.cell? ⟨w4.heap.size, 1, none⟩ = some (.bool false) := blk_cell m2 1
      have b2 : w5.cell? ⟨w4.heap.size, 2, none⟩ = some (.slice none 0 0) := blk_cell m2 2
      have b3 : w5.cell? ⟨w4.heap.size, 3, none⟩ = some (.slice none 0 0) := blk_cell m2 3
      have b4 : w5.cell? ⟨w4.heap.size, 4, none⟩ = some (.int .i64 0) := blk_cell m2 4
      clear m1 m2
      go_wp2_with fail
      refine (sameR_any 0 false 0 none none none none 0 0 0 0 0 0 [] [] [] w5 RowAt.nil_ RowAt.nil_ (by omega) ⟨RowAt.nil_, by simp⟩ ⟨RowAt.nil_, by simp⟩ rfl (by omega) (by simp)).mono ?_
      rintro e w6 ⟨rfl, hb6⟩
      have HB6 := Lib.hid (HB5.out.trans (hb6.mono HB5.out.size))
      clear hb6
      go_wp2_with fail
      go_ret
      exact ⟨rfl, _, _, _, _, _, _, _, _, _, 0, HBA.out.below HB6.out, HB6.out.mono hloB, by omega, by simp⟩
    | cons r1 q1 =>
      as_aux_lemma =>
      obtain ⟨r2, q2', rfl⟩ : ∃ r2 q2', q' = r2 :: q2' := by
        cases q' with
        | nil => have := HBA.out.lens; simp at this
        | cons a b => exact ⟨a, b, rfl⟩
      have hbare : r1.bare = r2.bare ∧ q1.map Rq.bare = q2'.map Rq.bare := by simpa using HBA.out.eq
      have Hbare := Lib.hid hbare
      clear hbare
      have hloB := HBA.out.rx.lo.2.2.2
      have hlo := HBA.out.lo
      have hll : q2'.length = q1.length := by have := HBA.out.lens; simpa using this
      have hWs : w.heap.size ≤ W.heap.size := HB.out.size
      have HBW := Lib.hid (HBA.out.below HB.out)
      go_wp2_with fail
      refine (oserve_any o f L r1 q1 W HBW.out.ow (by omega) (sizeb HBW.out.ow.sh.ok (by omega))).mono ?_
      rintro e w2 ⟨f2, L2, cs, rfl, hrep, ho2, k2⟩
      obtain ⟨bo, A5, n5, c5, A6, n6, c6, d5, rfl⟩ := hrep.form
      have HRep := Lib.hid hrep
      have HO2 := Lib.hid ho2
      have HK2 := Lib.hid k2
      have HRx2 := Lib.hid (rx_of_o HBW.out.ow HBW.out.rx HBW.out.sp.1 HBW.out.lo k2)
      clear hrep ho2 k2
      have HB3 : Hid (Below w2.heap.size w2 (w2.alloc (.cells #[.int .i64 r1.from_, .bool bo, .slice A5 n5 c5, .slice A6 n6 c6, .int .i64 d5] 56))) := Lib.hid (bel_alloc (Below.refl _ _) _)
      have HC3 : Hid ((w2.alloc (.cells #[.int .i64 r1.from_, .bool bo, .slice A5 n5 c5, .slice A6 n6 c6, .int .i64 d5] 56)).heap[w2.heap.size]? = some (.cells #[.int .i64 r1.from_, .bool bo, .slice A5 n5 c5, .slice A6 n6 c6, .int .i64 d5] 56 (0, 0))) := Lib.hid (blk_new _ _)
      go_upto_region 3 with fail
      generalize w2.alloc (.cells #[.int .i64 r1.from_, .bool bo, .slice A5 n5 c5, .slice A6 n6 c6, .int .i64 d5] 56) = w3 at HB3 HC3 ⊢
      have hz2 : W.heap.size ≤ w2.heap.size := HK2.out.size
      have HRx3 : Hid (RxAt w3 Bo x s A n cap L o.cap W2 (q2'.length + 1) wc (r2 :: q2')) := Lib.hid (by have := HRx2.out.below HB3.out; rw [hll]; exact this)
      go_wp2_with fail
      refine (r15serve_any Bo x s n cap o.cap q2'.length wc A W2 L r2 q2' w3 HRx3.out (by rw [HBW.out.len]; omega) (sizeb HBW.out.ow.sh.ok (by omega))).mono ?_
      rintro e w4 ⟨A7, n7, cap7, W7, wc7, L7, cs7, rfl, hrep7, hrx7, k7, hA7, hW7⟩
      obtain ⟨rfl, A1, A2, A3, A4, nn, mm, c1, c2, c3, c4, hs1, hs2, e1, e2, g1, g2, g3, g4, hpl, hn1, hm1, hv1⟩ := rep_like HRep.out hrep7 (HBW.out.ow.may r1 (by simp)) Hbare.out.1 HBW.out.ow.sh.ok (by omega)
      subst e2
      simp only [Array.mk.injEq, List.cons.injEq, Value.int.injEq, Value.bool.injEq, Value.slice.injEq, true_and, and_true] at e1
      obtain ⟨rfl, ⟨rfl, rfl, rfl⟩, ⟨rfl, rfl, rfl⟩, rfl⟩ := e1
      have hx7 : ∀ b, (b = x ∨ b = s ∨ ∃ a, A = some a ∧ 0 < n ∧ b = a.block) → b < W.heap.size ∧ Bo ≤ b := fun b hb => by
        rcases hb with rfl | rfl | ⟨a, e, hn, rfl⟩
        · exact ⟨blk_lt HBW.out.rx.hx, HBW.out.rx.lo.1⟩
        · exact ⟨blk_lt HBW.out.rx.sh.blk, HBW.out.rx.lo.2.1⟩
        · obtain ⟨c1, h1⟩ := HBW.out.rx.sh.tyA e hn
          exact ⟨blk_lt h1, HBW.out.rx.lo.2.2.1 a e hn⟩
      have k27 : Kept w2 w4 (fun b => b = x ∨ b = s ∨ ∃ a, A = some a ∧ 0 < n ∧ b = a.block) := (Kept.of_below HB3.out).trans k7
      have HBA4 : Hid (BothAt w4 Bo o f2 L2 q1 x s A7 n7 cap7 W7 wc7 q2') := Lib.hid (by
        have hsp := HBW.out.sp.tail
        have how : OwAt w4 o f2 L2 q1 := ow_of_x HO2.out HRx2.out hsp (k27.mono (fun b hb => by
          rcases hb with h | h | h
          · exact Or.inl h
          · exact Or.inr (Or.inl h)
          · exact Or.inr (Or.inr (Or.inl h))))
        have h3 : OwAt w3 o f2 L2 q1 := HO2.out.below HB3.out
        rw [hll] at hrx7
        exact ⟨how, hrx7, Hbare.out.2, hsp.next h3 hA7 hW7, HBW.out.lo⟩)
      have HG1 := Lib.hid (ownsRow_kept g1 k27 (fun b hb => (hx7 b hb).1))
      have HG3 := Lib.hid (hrow_kept g3 k27 (fun b hb => (hx7 b hb).1))
      have HG2 := Lib.hid g2
      have HG4 := Lib.hid g4
      have HPl := Lib.hid hpl
      have Hv1 := Lib.hid hv1
      have HC4 := Lib.hid (k7.blk HC3.out (blk_lt HC3.out) (fun hb => by have := (hx7 _ hb).1; omega))
      have HBo4 : Hid (Below Bo w w4) := Lib.hid ((HB.out.mono hloB).trans (((HK2.out.below (by omega) (fun b hb => by omega)).trans (k27.below (by omega) (fun b hb => (hx7 b hb).2)))))
      have HL2 : Hid (L2.length ≤ L.length + 1) := Lib.hid (HRep.out.bound HBW.out.ow.sh.ok).1
      clear g1 g2 g3 g4 hpl hv1 k7 k27 hrep7 hrx7 hA7 hW7 HRep HRx2 HRx3 HC3 HK2 HO2
      generalize repB L r1 = bo at HC4 ⊢
      generalize repC L r1 = d5 at HC4 ⊢
      have hb5 : Below w4.heap.size w4 (w4.alloc (.cells #[.int .i64 r1.from_, .bool bo, .slice A2 n5 c2, .slice A4 n6 c4, .int .i64 d5] 56)) := bel_alloc (Below.refl _ _) _
      have hs4 : w2.heap.size < w4.heap.size := blk_lt HC4.out
      have m1 := (hb5.block _ (blk_lt HC4.out)).trans HC4.out
      have m2 := blk_new w4 (.cells #[.int .i64 r1.from_, .bool bo, .slice A2 n5 c2, .slice A4 n6 c4, .int .i64 d5] 56)
      have HBo5 := Lib.hid (HBo4.out.trans (hb5.mono (Nat.le_trans hloB HBo4.out.size)))
      have HBA5 := Lib.hid (HBA4.out.below hb5)
      have HG15 := Lib.hid (ownsRow_below HG1.out (hb5.mono (Nat.le_refl _)))
      have HG25 := Lib.hid (ownsRow_below HG2.out (hb5.mono (Nat.le_refl _)))
      have HG35 := Lib.hid (hrow_kept HG3.out (Kept.of_below (X := fun _ => False) hb5) (fun _ h => h.elim))
      have HG45 := Lib.hid (hrow_kept HG4.out (Kept.of_below (X := fun _ => False) hb5) (fun _ h => h.elim))
      clear hb5 HG1 HG2 HG3 HG4
      go_upto_region 4 with fail
      generalize w4.alloc (.cells #[.int .i64 r1.from_, .bool bo, .slice A2 n5 c2, .slice A4 n6 c4, .int .i64 d5] 56) = w5 at m1 m2 HBo5 HBA5 HG15 HG25 HG35 HG45 ⊢
      have a0 : w5.cell? ⟨w2.heap.size, 0, none⟩ = some (.int .i64 r1.from_) := blk_cell m1 0
      have a1 : w5.cell? ⟨w2.heap.size, 1, none⟩ = some (.bool bo) := blk_cell m1 1
      have a2 : w5.cell? ⟨w2.heap.size, 2, none⟩ = some (.slice A5 n5 c5) := blk_cell m1 2
      have a3 : w5.cell? ⟨w2.heap.size, 3, none⟩ = some (.slice A6 n6 c6) := blk_cell m1 3
      have a4 : w5.cell? ⟨w2.heap.size, 4, none⟩ = some (.int .i64 d5) := blk_cell m1 4
      have b0 : w5.cell? ⟨w4.heap.size, 0, none⟩ = some (.int .i64 r1.from_) := blk_cell m2 0
      have b1 : w5.cell? ⟨w4.heap.size, 1, none⟩ = some (.bool bo) := blk_cell m2 1
      have b2 : w5.cell? ⟨w4.heap.size, 2, none⟩ = some (.slice A2 n5 c2) := blk_cell m2 2
      have b3 : w5.cell? ⟨w4.heap.size, 3, none⟩ = some (.slice A4 n6 c4) := blk_cell m2 3
      have b4 : w5.cell? ⟨w4.heap.size, 4, none⟩ = some (.int .i64 d5) := blk_cell m2 4
      clear m1 m2
      go_wp2_with fail
      refine (sameR_any r1.from_ bo d5 A5 A2 A6 A4 n5 n6 c5 c2 c6 c4 (repE L r1) hs1 hs2 w5 (en_at2 HG15.out) (en_at2 HG25.out) hn1 (hr_at HG35.out).1 (hr_at HG45.out).1 HPl.out hm1 Hv1.out).mono ?_
      rintro e w6 ⟨rfl, hb6⟩
      have HBo6 := Lib.hid (HBo5.out.trans (hb6.mono (Nat.le_trans hloB HBo5.out.size)))
      have HBA6 := Lib.hid (HBA5.out.below hb6)
      clear hb6
      go_wp2_with fail
      go_ret
      have hl2 := HL2.out
      exact ⟨rfl, _, _, _, _, _, _, _, _, _, 1, HBA6.out, HBo6.out, hl2, by simp; omega⟩
end Go.Proofs.YtfpcgfgofemhoaaGreat

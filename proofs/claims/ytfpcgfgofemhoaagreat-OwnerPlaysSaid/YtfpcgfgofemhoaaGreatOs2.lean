/- OwnerPlays: Serve where nothing waits; stands; made. -/
import Derived.Test.YtfpcgfgofemhoaaGreatOs1
import Derived.Test.YtfpcgfgofemhoaaGreatTh
import Derived.Test.YtfpcgfgofemhoaaGreatSl1
import Derived.Test.YtfpcgfgofemhoaaGreatOl0
namespace Go.Proofs.YtfpcgfgofemhoaaGreat
open Go.RowKit
set_option linter.unusedVariables false
set_option linter.unusedSimpArgs false

set_option maxRecDepth 100000
set_option maxHeartbeats 4000000 in
theorem r15serve_none (Bo x s n cap qn wc : Nat) (A W : Option Addr) (L : Hs) (w : World) (h : RxAt w Bo x s A n cap L qn W 0 wc []) :
    Calls Tryz.prog 14 #[.pointer (some ⟨x, 0, none⟩)] w fun e w' => e = .returned (.tuple #[.agg respZ, .int .i64 9]) ∧ Below w.heap.size w w' := by
  have H := Lib.hid h
  obtain ⟨W1, hW⟩ : ∃ W1, W1 = w.alloc (.cells respZ 56) := ⟨_, rfl⟩
  have HB1 : Hid (Below w.heap.size w W1) := Lib.hid (hW ▸ bel_alloc (Below.refl _ _) _)
  have HZ1 : Hid (W1.heap[w.heap.size]? = some (.cells respZ 56 (0, 0))) := Lib.hid (hW ▸ blk_new _ _)
  have d2 : W1.cell? ⟨x, 2, none⟩ = some (.slice W 0 wc) := (H.out.below HB1.out).c2
  have HW := Lib.hid hW
  clear hW h
  go_enter Tryz.func14, Tryz.ntmps14
  go_upto_region 3 with fail
  change Code.wp _ _ _ _ (w.alloc (.cells respZ 56))
  rw [← HW.out]
  clear HW
  go_wp2_with (with_reducible refine wpList_store_row rfl 56 _ _ rfl w.heap.size #[.int .i64 0, .bool false, .slice none 0 0, .slice none 0 0, .int .i64 0] rfl rfl 56 _ HZ1.out (resp_info _ _ _ _ _) rfl (resp_one _ _ _ _ _ _ _ _ _) ?_)
  have HZ8 := setRow_heap W1 w.heap.size _ #[.int .i64 0, .bool false, .slice none 0 0, .slice none 0 0, .int .i64 0] 56 (0, 0) HZ1.out
  exact bodyPost_ret (results_ct_row rfl _ _ w.heap.size _ _ _ _ rfl HZ8 Tryz.underlying56 rfl (resp_info _ _ _ _ _)) rfl ⟨rfl, below_setRow HB1.out (Nat.le_refl _) _⟩
set_option maxHeartbeats 4000000 in
theorem stands_any (Bo x s n cap wc f : Nat) (A W : Option Addr) (L : Hs) (q q' : List Rq) (o : OB) (w : World) (h : BothAt w Bo o f L q x s A n cap W wc q') (hn : L.length ≤ 3518437208883) :
    Calls Tryz.prog 7 #[.pointer (some ⟨o.g, 0, none⟩), .pointer (some ⟨x, 0, none⟩)] w fun e w' => e = .returned (.bool true) ∧ Below w.heap.size w w' := by
  have H := Lib.hid h
  have hq : q'.length = q.length := h.rx.len
  have Hn : n = L.length := h.len
  have hb0 := beq_self_eq_true (q.length : Int)
  have hb1 := beq_self_eq_true ((o.cap - q.length : Nat) : Int)
  clear h
  go_enter Tryz.func7, Tryz.ntmps7
  go_wp2_with fail
  refine (olen_any o f L q w H.out.ow).mono ?_
  rintro e w1 ⟨rfl, rfl⟩
  go_wp2_with fail
  refine (r15len_any _ _ _ _ _ _ _ _ _ _ _ _ w1 H.out.rx).mono ?_
  rintro e w2 ⟨rfl, rfl⟩
  rw [hq]
  go_wp2_with fail
  refine (oroom_any o f L q w2 H.out.ow).mono ?_
  rintro e w3 ⟨rfl, hb3⟩
  have HB3 := Lib.hid hb3
  clear hb3
  go_wp2_with fail
  refine (r15room_any _ _ _ _ _ _ _ _ _ _ _ _ w3 (H.out.rx.below HB3.out)).mono ?_
  rintro e w4 ⟨rfl, hb4⟩
  have HB4 := Lib.hid (HB3.out.trans (hb4.mono HB3.out.size))
  clear hb4
  rw [hq]
  go_wp2_with fail
  refine (oall_any o f L q w4 (H.out.ow.below HB4.out) hn).mono ?_
  rintro e w5 ⟨v, hs, rfl, hrow, hpl, hb5⟩
  obtain ⟨A5, c5, rfl, hh5, -, -⟩ := hrow.hds
  have HB5 := Lib.hid (HB4.out.trans (hb5.mono HB4.out.size))
  have Hh5 := Lib.hid hh5
  have Hpl := Lib.hid hpl
  have Hv := Lib.hid (hr_lens hrow hpl H.out.ow.sh.ok)
  clear hb5 hrow hh5 hpl
  go_wp2_with fail
  refine (r15all_any _ _ _ _ _ _ _ _ _ _ _ _ w5 (H.out.rx.below HB5.out) (by omega)).mono ?_
  rintro e w6 ⟨v, hs6, rfl, hrow, hpl6, hb6⟩
  obtain ⟨A6, c6, rfl, hh6, -, -⟩ := hrow.hds
  have HB6 := Lib.hid (HB5.out.trans (hb6.mono HB5.out.size))
  have Hh56 := Lib.hid ((Hh5.out.below hb6).more hb6.size)
  have Hh6 := Lib.hid hh6
  have Hpl6 := Lib.hid hpl6
  have hl5 : hs.length = L.length := by rw [← Hpl.out, plainR_len]
  have hl6 : hs6.length = L.length := by rw [← Hpl6.out, plainR_len]
  clear hb6 hrow hh6 hpl6
  rw [hl5] at Hh56 ⊢
  rw [hl6] at Hh6 ⊢
  go_wp2_with fail
  refine (sameH_any A5 A6 L.length c5 c6 hs hs6 w6 Hh56.out Hh6.out (by rw [Hpl.out, Hpl6.out]) hn Hv.out).mono ?_
  rintro e w7 ⟨rfl, hb7⟩
  have HB7 := Lib.hid (HB6.out.trans (hb7.mono HB6.out.size))
  clear hb7
  go_wp2_with fail
  go_ret
  exact ⟨rfl, HB7.out⟩
/-- What made answers. -/
def MadeEnd (w : World) (L : Hs) (queue : Int) (e : Ending) (w' : World) : Prop :=
  (e = .returned (.tuple #[.pointer none, .pointer none, .bool true]) ∧ Below w.heap.size w w') ∨
  ∃ (o : OB) (x s : Nat) (A : Option Addr) (cap : Nat), e = .returned (.tuple #[.pointer (some ⟨o.g, 0, none⟩), .pointer (some ⟨x, 0, none⟩), .bool true]) ∧ BothAt w' w.heap.size o 0 L [] x s A L.length cap none 0 [] ∧ HsOk L ∧ Below w.heap.size w w'
theorem hw_plain {w : World} {g : Nat} : ∀ {rs rs' : List HR}, rs'.length = rs.length → HwAll w g rs rs' → plainR rs' = plainR rs := fun {rs rs'} hl h => by
  apply List.ext_getElem?
  intro i
  simp only [plainR, List.getElem?_map]
  cases h1 : rs[i]? with
  | none =>
    have : rs'[i]? = none := by rw [List.getElem?_eq_none_iff] at h1 ⊢; omega
    rw [this]
  | some r =>
    have hi := (List.getElem?_eq_some_iff.1 h1).1
    have h2 : rs'[i]? = some (rs'[i]'(by omega)) := List.getElem?_eq_getElem _
    obtain ⟨e1, e2, -⟩ := h i r _ h1 h2
    rw [h2]
    simp [e1, e2]
theorem hw_hds {w : World} {g len : Nat} {rs rs' : List HR} (hl' : rs'.length = len) (hl : rs.length = len) (hg : w.heap[g]? = some (.cells ((rs' ++ [spH]).flatMap HR.cells).toArray 70 (0, 0))) (h : HwAll w g rs rs') : HdsAt w w.heap.size (some ⟨g, 0, none⟩) len rs' := by
  have hrow := (row_of_blk (len_hr _) hg (blk_lt hg)).prefix_
  rw [hl'] at hrow
  refine ⟨hrow, fun r' hr' => ?_⟩
  obtain ⟨i, hi⟩ := List.getElem?_of_mem hr'
  have h0 := (List.getElem?_eq_some_iff.1 hi).1
  have h1 : rs[i]? = some (rs[i]'(by omega)) := List.getElem?_eq_getElem _
  obtain ⟨e1, e2, e3, b, h4, h5, h6, h7, h8, h9⟩ := h i _ r' h1 hi
  have hv := (row_of_blk (cells := Ver.cells) (size := 3) (len_ver _) h8 (blk_lt h8)).prefix_
  rw [h9] at hv
  exact ⟨by rw [h6]; exact hv, by omega, fun e => by rw [h6] at e; cases e⟩
set_option maxHeartbeats 8000000 in
theorem made_any (shard queue : Int) (A : Option Addr) (len cap : Nat) (hs : List HR) (w : World) (hw : HdsAt w w.heap.size A len hs) (hl : len ≤ 3518437208780) (hlv : ∀ h ∈ hs, h.len ≤ 4398046510976) :
    Calls Tryz.prog 5 #[.int .i64 shard, .int .i64 queue, .slice A len cap] w (MadeEnd w (plainR hs) queue) := by
  have Hw := Lib.hid hw
  have hlen : hs.length = len := hw.1.len
  have hb0 := beq_self_eq_true (0 : Int)
  have hb1 := beq_self_eq_true (1 : Int)
  have Hlv : Hid (∀ h ∈ hs, h.len * 32 ≤ 140737488351232) := Lib.hid (fun h hh => by have := hlv h hh; omega)
  have Hlv2 : Hid (∀ h ∈ hs, h.len ≤ 4398046511104) := Lib.hid (fun h hh => by have := hlv h hh; omega)
  clear hw hlv
  go_enter Tryz.func5, Tryz.ntmps5
  go_wp2_with fail
  refine (twinH_any A len cap hs w Hw.out Hlv.out (by omega)).mono ?_
  rintro e w1 ⟨hs', hl', rfl, hg1, htw, hb1'⟩
  have HB1 := Lib.hid hb1'
  have HG1 := Lib.hid hg1
  have HTW := Lib.hid htw
  have Hd1 := Lib.hid (hw_hds hl' hlen hg1 htw)
  have Hp1 := Lib.hid (hw_plain (by omega) htw)
  have Hlv' : Hid (∀ h ∈ hs', h.len ≤ 4398046511104) := Lib.hid (fun h hh => by
    obtain ⟨i, hi⟩ := List.getElem?_of_mem hh
    have h0 := (List.getElem?_eq_some_iff.1 hi).1
    have h1 : hs[i]? = some (hs[i]'(by omega)) := List.getElem?_eq_getElem _
    obtain ⟨-, -, e3, -⟩ := htw i _ h h1 hi
    rw [e3]
    exact Hlv2.out _ (List.mem_of_getElem? h1))
  clear hb1' hg1 htw
  go_wp2_with fail
  refine (onew_any shard queue _ len (len + 1) hs' w1 Hd1.out (by omega) Hlv'.out).mono ?_
  rw [Hp1.out]
  intro e w2 he
  unfold ONewEnd at he
  by_cases hc : (0 ≤ shard ∧ shard < 16 ∧ 1 ≤ queue ∧ queue ≤ 16) ∧ mayH (plainR hs) = true
  · rw [if_pos hc] at he
    obtain ⟨o, rfl, how, hcap, h1, h2, h3, h4, h5, hb2⟩ := he
    have HO2 := Lib.hid how
    have HB2 := Lib.hid hb2
    have Hc := Lib.hid hc
    have HB12 := Lib.hid (HB1.out.trans (hb2.mono HB1.out.size))
    have Hd2 : Hid (HdsAt w2 w2.heap.size A len hs) := Lib.hid ((Hw.out.below HB12.out).more HB12.out.size)
    have HTW2 := Lib.hid (HTW.out.keep hb2.size (fun b _ hbl => hb2.block b hbl))
    have HG2 := Lib.hid ((hb2.block _ (blk_lt HG1.out)).trans HG1.out)
    clear how hb2 hc
    go_wp2_with fail
    refine (r15new_any w.heap.size shard queue A len cap hs w2 HB12.out.size Hd2.out (by omega) Hlv2.out).mono ?_
    intro e w3 he
    unfold R15New at he
    rw [if_pos Hc.out] at he
    obtain ⟨x, s, A3, cap3, rfl, hrx, hx1, hx2, hx3, hb3⟩ := he
    have HB3 := Lib.hid (HB12.out.trans (hb3.mono HB12.out.size))
    have HO3 := Lib.hid (HO2.out.below hb3)
    have HRx := Lib.hid hrx
    have Hd3 : Hid (HdsAt w3 w3.heap.size A len hs) := Lib.hid ((Hw.out.below HB3.out).more HB3.out.size)
    have HTW3 := Lib.hid (HTW2.out.keep hb3.size (fun b _ hbl => hb3.block b hbl))
    have HG3 := Lib.hid ((hb3.block _ (blk_lt HG2.out)).trans HG2.out)
    clear hrx hb3 HTW2 HG2 HTW HG1
    go_wp2_with fail
    refine (leftH_any w.heap.size A len cap hs hs' w3 hl' HG3.out HTW3.out Hd3.out Hlv.out (by omega)).mono ?_
    rintro e w4 ⟨rfl, hb4⟩
    have HB4 := Lib.hid (HB3.out.trans (hb4.mono HB3.out.size))
    have HO4 := Lib.hid (HO3.out.below hb4)
    have HRx4 := Lib.hid (HRx.out.below hb4)
    clear hb4
    go_wp2_with fail
    refine bodyPost_ret (v := .tuple #[.pointer (some ⟨o.g, 0, none⟩), .pointer (some ⟨x, 0, none⟩), .bool true]) (by simp [results, Tryz.results5, go_sem]) rfl (Or.inr ⟨o, x, s, A3, cap3, rfl, ?_, HO4.out.sh.ok, HB4.out⟩)
    have hq : queue.toNat = o.cap := by omega
    have hr := HRx4.out
    rw [hq] at hr
    have hz := HB1.out.size
    exact ⟨HO4.out, hr, rfl, ⟨fun a e => (by cases e), fun r hr => (by cases hr)⟩, by omega, by omega, by omega⟩
  · rw [if_neg hc] at he
    obtain ⟨rfl, hb2⟩ := he
    have HB2 := Lib.hid hb2
    have Hc := Lib.hid hc
    have HB12 := Lib.hid (HB1.out.trans (hb2.mono HB1.out.size))
    have Hd2 : Hid (HdsAt w2 w2.heap.size A len hs) := Lib.hid ((Hw.out.below HB12.out).more HB12.out.size)
    have HTW2 := Lib.hid (HTW.out.keep hb2.size (fun b _ hbl => hb2.block b hbl))
    have HG2 := Lib.hid ((hb2.block _ (blk_lt HG1.out)).trans HG1.out)
    clear hb2 hc
    go_wp2_with fail
    refine (r15new_any w.heap.size shard queue A len cap hs w2 HB12.out.size Hd2.out (by omega) Hlv2.out).mono ?_
    intro e w3 he
    unfold R15New at he
    rw [if_neg Hc.out] at he
    obtain ⟨rfl, hb3⟩ := he
    have HB3 := Lib.hid (HB12.out.trans (hb3.mono HB12.out.size))
    have Hd3 : Hid (HdsAt w3 w3.heap.size A len hs) := Lib.hid ((Hw.out.below HB3.out).more HB3.out.size)
    have HTW3 := Lib.hid (HTW2.out.keep hb3.size (fun b _ hbl => hb3.block b hbl))
    have HG3 := Lib.hid ((hb3.block _ (blk_lt HG2.out)).trans HG2.out)
    clear hb3 HTW2 HG2 HTW HG1
    go_wp2_with fail
    refine (leftH_any w.heap.size A len cap hs hs' w3 hl' HG3.out HTW3.out Hd3.out Hlv.out (by omega)).mono ?_
    rintro e w4 ⟨rfl, hb4⟩
    have HB4 := Lib.hid (HB3.out.trans (hb4.mono HB3.out.size))
    clear hb4
    go_wp2_with fail
    exact bodyPost_ret (v := .tuple #[.pointer none, .pointer none, .bool true]) (by simp [results, Tryz.results5, go_sem]) rfl (Or.inl ⟨rfl, HB4.out⟩)
end Go.Proofs.YtfpcgfgofemhoaaGreat

/- FoldCounts: a log of the law's own, of each transaction just the writes that count. -/
import Derived.Test.YtdcnaieieggclaaAl
import Derived.Test.YtdcnaieieggclaaFlp
import Derived.Test.YtdcnaieieggclaaApp
import Derived.Deep.DeepCutAuto
import Derived.Deep.RegionLaw
namespace Go.Proofs.Ytdcnaieieggclaa
open Go.RowKit
set_option linter.unusedVariables false
set_option linter.unusedSimpArgs false

open Go.Maps
theorem info_txv : (Try.prog.info? 37).map (fun i => (i.zero, i.size, i.bytes)) = some (some (.agg #[.int .i64 0, .slice none 0 0]), 2, 32) := by kernel_rfl
/-- A list of transactions that the walk owns, each with its writes in a block of its own. -/
def MRow (w : World) (B : Nat) (v : Value) (rs : List RTx) : Prop :=
  w.ownsRow B 37 2 v rs.length (rs.flatMap RTx.cells) ∧ ∀ r ∈ rs, w.ownsRow B 39 3 (.slice r.A r.len r.cap) r.len (r.ws.flatMap Wr.cells) ∧ r.ws.length = r.len ∧ ∀ b, (Value.slice r.A r.len r.cap).ownBlock = some b → v.ownBlock ≠ some b
theorem MRow.below {w w' : World} {B : Nat} {v : Value} {rs : List RTx} (h : MRow w B v rs) (hb : Below w.heap.size w w') : MRow w' B v rs :=
  ⟨ownsRow_below h.1 hb, fun r hr => ⟨ownsRow_below (h.2 r hr).1 hb, (h.2 r hr).2⟩⟩
theorem MRow.txs {w : World} {B : Nat} {v : Value} {rs : List RTx} (h : MRow w B v rs) (h32 : ∀ r ∈ rs, r.len ≤ 32) : ∃ A cap, v = .slice A rs.length cap ∧ TxsAt w w.heap.size A rs.length rs ∧ rs.length ≤ cap := by
  obtain ⟨A, cap, h1, h2, -, h4⟩ := rowAt_own (len_tx _) h.1
  refine ⟨A, cap, h1, ⟨h2, fun r hr => ?_⟩, h4⟩
  obtain ⟨g1, g2, -⟩ := h.2 r hr
  have g3 : w.ownsRow B 39 3 (.slice r.A r.len r.cap) r.ws.length (r.ws.flatMap Wr.cells) := by rw [g2]; exact g1
  obtain ⟨A', cap', k1, k2, -, -⟩ := rowAt_own (len_wr _) g3
  injection k1 with k1 k3 k4
  subst k1
  refine ⟨by rw [← g2]; exact k2, by have := h32 r hr; omega⟩
/-- One more. -/
theorem MRow.add {w w' : World} {B g cap : Nat} {v : Value} {rs : List RTx} {r : RTx} {t : Nat} (h : MRow w t v rs) (hr : w.ownsRow t 39 3 (.slice r.A r.len r.cap) r.len (r.ws.flatMap Wr.cells)) (hl : r.ws.length = r.len)
    (hne : ∀ b, (Value.slice r.A r.len r.cap).ownBlock = some b → v.ownBlock ≠ some b)
    (hown : w'.ownsRow t 37 2 (.slice (some ⟨g, 0, none⟩) (rs.length + 1) cap) (rs.length + 1) (rs.flatMap RTx.cells ++ r.cells)) (hg : w.grownBy w' v.ownBlock) (hat : v.ownBlock = some g ∨ g = B) (hB : w.heap.size ≤ B) :
    MRow w' t (.slice (some ⟨g, 0, none⟩) (rs.length + 1) cap) (rs ++ [r]) := by
  have hk : ∀ q : RTx, w.ownsRow t 39 3 (.slice q.A q.len q.cap) q.len (q.ws.flatMap Wr.cells) → (∀ b, (Value.slice q.A q.len q.cap).ownBlock = some b → v.ownBlock ≠ some b) →
      w'.ownsRow t 39 3 (.slice q.A q.len q.cap) q.len (q.ws.flatMap Wr.cells) ∧ ∀ b, (Value.slice q.A q.len q.cap).ownBlock = some b → (Value.slice (some ⟨g, 0, none⟩) (rs.length + 1) cap).ownBlock ≠ some b := fun q h1 h2 => by
    refine ⟨h1.kept hg ?_, fun b hb => ?_⟩
    · cases hq : (Value.slice q.A q.len q.cap).ownBlock with
      | none => exact Or.inl rfl
      | some b => right; intro e; exact h2 b hq e.symm
    · have hlt := (h1.lt b hb).2
      have hne2 := h2 b hb
      simp only [Value.ownBlock, ne_eq, Option.some.injEq]
      rcases hat with ha | ha
      · intro e; rw [ha, e] at hne2; exact hne2 rfl
      · omega
  refine ⟨by rw [List.length_append, List.flatMap_append]; simpa using hown, fun q hq => ?_⟩
  rcases List.mem_append.1 hq with hq | hq
  · obtain ⟨g1, g2, g3⟩ := h.2 q hq
    obtain ⟨k1, k2⟩ := hk q g1 g3
    exact ⟨k1, g2, k2⟩
  · simp at hq; subst hq
    obtain ⟨k1, k2⟩ := hk q hr hne
    exact ⟨k1, hl, k2⟩
/-- The first t of them, cut. -/
def CutN (rs rs' : List RTx) (t : Nat) : Prop := rs'.map (fun r => (r.number, r.ws)) = (rs.take t).map (fun r => (r.number, cnt r.ws))
theorem CutN.next {rs rs' : List RTx} {t : Nat} {r q : RTx} (h : CutN rs rs' t) (hr : rs[t]? = some r) (h1 : q.number = r.number) (h2 : q.ws = cnt r.ws) : CutN rs (rs' ++ [q]) (t + 1) := by
  unfold CutN at *
  rw [List.map_append, h, List.take_add_one, hr, List.map_append]
  simp [h1, h2]
set_option maxHeartbeats 8000000 in
set_option maxRecDepth 100000 in
theorem lawcounts_any (A : Option Addr) (len cap : Nat) (rs : List RTx) (f : Nat) (w : World) (hw : TxsAt w w.heap.size A len rs) (hl : len * 32 ≤ 140737488351232) (hc : len ≤ cap) (hf : f ≤ 65535)
    (hs : ∀ r ∈ rs, ∀ x ∈ r.ws, x.key.size ≤ 140737488351232 ∧ x.val.size ≤ 140737488351232) :
    Calls Try.prog 5 #[.slice A len cap, .int .u16 f] w (TrueB w) := by
  have hlen := Lib.hid hw.1.len
  have Hs := Lib.hid hs
  obtain ⟨i0, hi, hz0, hz1, hz2⟩ := info_parts info_wr
  obtain ⟨i1, hi1, hy0, hy1, hy2⟩ := info_parts info_txv
  clear hs
  go_enter Try.func5, Try.ntmps5
  go_wp2_with fail
  refine (alive_any _).mono ?_
  rintro e w1 ⟨rfl, hb1⟩
  have hs1 := hb1.size
  have hw1 := (hw.below hb1).more hs1
  have Hb1 := Lib.hid hb1
  clear hb1
  go_wp2_with fail
  refine (txsize_any A len cap rs _ hw1 (by omega) Hs.out).mono ?_
  rintro e w2 ⟨q, rfl, q0, q1, hb2⟩
  have hs2 := hb2.size
  have hq : RowAt Icell 1 (w2.alloc (.cells #[.int .i64 q] 3)) (w2.alloc (.cells #[.int .i64 q] 3)).heap.size (some ⟨w2.heap.size, 0, none⟩) 1 [q] := rowAt_block [q] (len_int _) (blk_new _ _) (by simp) (fun j u hu => by simpa [Icell] using hu)
  have Hq := Lib.hid hq
  have Hb2 := Lib.hid (Hb1.out.trans (hb2.mono hs1))
  clear hq hb2 hw1
  go_wp2_with fail
  refine (beyond_any _ 1 1 [q] _ Hq.out (by omega) (fun x hx => by simp at hx; omega)).mono ?_
  rintro e w3 ⟨bb, rfl, hb3⟩
  have hb3' : Below w.heap.size w w3 := Hb2.out.trans (((bel_alloc (Below.refl _ _) _).trans (hb3.mono (by simp))).mono (by omega))
  have hw3 := (hw.below hb3').more hb3'.size
  have Hb3 := Lib.hid hb3'
  have hs3 := hb3'.size
  clear hb3 hb3'
  cases bb
  case true =>
    clear hw3
    go_wp2_with fail
    refine (alive_any _).mono ?_
    rintro e w4 ⟨rfl, hb4⟩
    have Hb4 := Lib.hid (Hb3.out.trans (hb4.mono hs3))
    clear hb4
    go_wp2_with fail
    go_ret
    exact ⟨rfl, Hb4.out⟩
  go_wp2_with fail
  refine (may_any A len cap rs _ hw3 (by omega)).mono ?_
  rintro e w4 ⟨rfl, hb4⟩
  have hb4' : Below w.heap.size w w4 := Hb3.out.trans (hb4.mono hs3)
  have hw4 := (hw.below hb4').more hb4'.size
  have Hb4 := Lib.hid hb4'
  have hs4 := hb4'.size
  clear hb4 hb4' hw3
  by_cases he : logErr rs 1 = 0
  case neg =>
    have hd : decide (logErr rs 1 = 0) = false := decide_eq_false he
    rw [hd]
    clear hw4 hd he
    go_wp2_with fail
    refine (alive_any _).mono ?_
    rintro e w5 ⟨rfl, hb5⟩
    have Hb5 := Lib.hid (Hb4.out.trans (hb5.mono hs4))
    clear hb5
    go_wp2_with fail
    go_ret
    exact ⟨rfl, Hb5.out⟩
  have hd : decide (logErr rs 1 = 0) = true := decide_eq_true he
  rw [hd]
  have He := Lib.hid he
  clear hd he
  by_cases h200 : 40 < len
  case pos =>
    clear hw4
    go_wp2_with fail
    refine (alive_any _).mono ?_
    rintro e w5 ⟨rfl, hb5⟩
    have Hb5 := Lib.hid (Hb4.out.trans (hb5.mono hs4))
    clear hb5
    go_wp2_with fail
    go_ret
    exact ⟨rfl, Hb5.out⟩
  have hl2 : len ≤ 40 := by omega
  have hd2 : decide (40 < (len : Int)) = false := by rw [decide_eq_false_iff_not]; omega
  go_wp2_with fail
  go_loopw [5, 6] (fun v i wr => ∃ (t : Nat) (rs' : List RTx), t ≤ len ∧ rs'.length = t ∧ i = .int .i64 t ∧ Hid (MRow wr w4.heap.size v rs') ∧ Hid (CutN rs rs' t) ∧ Hid (Below w4.heap.size w4 wr)) (fun _ i _ => len - (RowKit.intOf i).toNat)
  case atStart => exact ⟨0, [], Nat.zero_le _, rfl, rfl, Lib.hid ⟨⟨rfl, Or.inl ⟨rfl, rfl⟩⟩, fun r hr => by cases hr⟩, Lib.hid rfl, Lib.hid (Below.refl _ _)⟩
  case round =>
    obtain ⟨t, rs', ht, hl', rfl, HM, HC, Hb⟩ := hrel
    obtain ⟨wo, hwo⟩ : ∃ wo : World, wo = wr := ⟨_, rfl⟩
    subst hwo
    have hT : ∀ X : World, Below wo.heap.size wo X → TxsAt X w.heap.size A len rs ∧ Below w.heap.size w X ∧ wo.heap.size ≤ X.heap.size ∧ w.heap.size ≤ wo.heap.size := fun X h => by
      have h1 : Below w.heap.size w wo := Hb4.out.trans (Hb.out.mono hs4)
      have h0 : Below w.heap.size w X := h1.trans (h.mono h1.size)
      exact ⟨hw.below h0, h0, h.size, h1.size⟩
    obtain ⟨hr, -, -, hso⟩ := hT wo (Below.refl _ _)
    have HT := Lib.hid hT
    clear hT
    by_cases hlt : t < len
    · obtain ⟨bb, off, r, rfl, hbl2, hx, x0, x1, hws, hrl⟩ := hr.cell2 hlt
      have hr32 : r.ws.length ≤ 32 ∧ r.ws.length = r.len := by
        have h1 := (logErr_ok He.out hx).1
        simp only [txB, Bool.and_eq_true, decide_eq_true_eq] at h1
        exact ⟨h1.1.2, hws.len⟩
      have Hr32 := Lib.hid hr32
      have Hx := Lib.hid hx
      clear hx hr hws hr32
      go_wp2_with fail
      go_loopw [8] (fun i wr => ∃ (k : Nat) (V : Value), k ≤ r.len ∧ i = .int .i64 k ∧ Hid (wr.heap[wo.heap.size]? = some (.cells #[.int .i64 r.number, V] 37 (0, 0))) ∧ Hid (wr.ownsRow (wo.heap.size + 1) 39 3 V (cntU r.ws k).length ((cntU r.ws k).flatMap Wr.cells)) ∧ Hid (Below wo.heap.size wo wr)) (fun i _ => r.len - (RowKit.intOf i).toNat)
      case atStart => exact ⟨0, .slice none 0 0, Nat.zero_le _, rfl, Lib.hid (blk_new _ _), Lib.hid ⟨rfl, Or.inl ⟨rfl, rfl⟩⟩, Lib.hid (bel_alloc (Below.refl _ _) _)⟩
      case round =>
        obtain ⟨k, V, hk, rfl, HV, HO, Hbk⟩ := hrel
        obtain ⟨wk, hwk⟩ : ∃ wk : World, wk = wr := ⟨_, rfl⟩
        subst hwk
        have z1 := (Hbk.out.cell (p := ⟨bb, off + t * 2 + 1, none⟩) (by show bb < _; omega)).trans x1
        have hsk := Hbk.out.size
        have hltk := blk_lt HV.out
        obtain ⟨Av, capv, rfl, -, -, -⟩ := rowAt_own (len_wr _) HO.out
        by_cases hkl : k < r.len
        · obtain ⟨hr, -, -, -⟩ := HT.out _ Hbk.out
          obtain ⟨b2, off2, x, hA2, hbl3, hx2, y0, y1, y2⟩ := WsAt.cell3 (hr.2 r (List.mem_of_getElem? Hx.out)).1 hkl
          have hcx : cntU r.ws (k + 1) = if (r.ws.drop (k + 1)).any (keyIs x.key) = true then cntU r.ws k else cntU r.ws k ++ [x] := by rw [cntU, hx2]
          have Hcx := Lib.hid hcx
          have hcl := cntU_len r.ws k
          have Hx2 := Lib.hid hx2
          rw [hA2] at z1
          clear hr hx2 hcx
          go_wp2_with fail
          go_loopw [9, 10] (fun v i wi => ∃ q : Nat, k + 1 ≤ q ∧ q ≤ r.len ∧ i = .int .i64 q ∧ v = .bool (((r.ws.drop (k + 1)).take (q - (k + 1))).any (keyIs x.key)) ∧ Below wk.heap.size wk wi) (fun _ i _ => r.len - (RowKit.intOf i).toNat)
          case atStart => exact ⟨k + 1, Nat.le_refl _, by omega, by first | rfl | go_num, by simp, Below.refl _ _⟩
          case round =>
            obtain ⟨q, hq1, hq2, rfl, rfl, hb⟩ := hrel
            have e1 := (hb.cell (p := ⟨bb, off + t * 2 + 1, none⟩) (by show bb < _; omega)).trans z1
            have Hbq := Lib.hid hb
            by_cases hql : q < r.len
            · have e0 := (hb.cell (p := ⟨b2, off2 + k * 3, none⟩) (by show b2 < _; omega)).trans y0
              obtain ⟨hr, -, -, -⟩ := HT.out _ (Hbk.out.trans (hb.mono hsk))
              obtain ⟨b3, off3, y, hA3, hbl4, hx3, u0, u1, u2⟩ := WsAt.cell3 (hr.2 r (List.mem_of_getElem? Hx.out)).1 hql
              rw [hA2] at hA3
              simp only [Option.some.injEq, Addr.mk.injEq, and_true] at hA3
              obtain ⟨rfl, rfl⟩ := hA3
              have hsn : ((r.ws.drop (k + 1)).take (q + 1 - (k + 1))).any (keyIs x.key) = (((r.ws.drop (k + 1)).take (q - (k + 1))).any (keyIs x.key) || keyIs x.key y) := by
                rw [show q + 1 - (k + 1) = (q - (k + 1)) + 1 from by omega]
                exact any_take_succ (by rw [List.getElem?_drop, show k + 1 + (q - (k + 1)) = q from by omega]; exact hx3)
              generalize hpre : ((r.ws.drop (k + 1)).take (q - (k + 1))).any (keyIs x.key) = pre at hsn
              have hkk : (y.key.toList == x.key.toList) = keyIs x.key y := rfl
              generalize hkv : keyIs x.key y = kv at hkk hsn
              have Hsn := Lib.hid hsn
              clear hsn hpre hx3 hr hkv hb
              cases pre
              · cases kv
                · go_wp2_with fail
                  go_quiet (fail)
                  go_wp2_with fail
                  exact ⟨⟨q + 1, by omega, by omega, by go_num, by rw [Hsn.out]; rfl, below_drewN Hbq.out _⟩, by simp [RowKit.intOf]; omega⟩
                · go_wp2_with fail
                  go_quiet (fail)
                  go_wp2_with fail
                  exact ⟨⟨q + 1, by omega, by omega, by go_num, by rw [Hsn.out]; rfl, below_drewN Hbq.out _⟩, by simp [RowKit.intOf]; omega⟩
              · go_wp2_with fail
                go_quiet (fail)
                go_wp2_with fail
                exact ⟨⟨q + 1, by omega, by omega, by go_num, by rw [Hsn.out]; rfl, below_drewN Hbq.out _⟩, by simp [RowKit.intOf]; omega⟩
            · obtain rfl : q = r.len := by omega
              have hall : ((r.ws.drop (k + 1)).take (r.len - (k + 1))) = r.ws.drop (k + 1) := List.take_of_length_le (by rw [List.length_drop]; have := Hr32.out; omega)
              rw [hall]
              generalize hpre : (r.ws.drop (k + 1)).any (keyIs x.key) = pre
              have Hpre := Lib.hid hpre
              clear hall hpre hb
              cases pre
              · have e0 := (Hbq.out.cell (p := ⟨b2, off2 + k * 3, none⟩) (by show b2 < _; omega)).trans y0
                have e00 := (Hbq.out.cell (p := ⟨b2, off2 + k * 3 + 1, none⟩) (by show b2 < _; omega)).trans y1
                have e000 := (Hbq.out.cell (p := ⟨b2, off2 + k * 3 + 2, none⟩) (by show b2 < _; omega)).trans y2
                have hblkq := (Hbq.out.block _ hltk).trans HV.out
                have v1 := blk_cell hblkq 1
                have v2 := blk_frozen hblkq 1
                simp only [List.getElem?_toArray, List.getElem?_cons_zero, List.getElem?_cons_succ] at v1
                have HOq := Lib.hid (ownsRow_below HO.out Hbq.out)
                have Hblkq := Lib.hid hblkq
                have hltq := blk_lt hblkq
                have hbkq := Lib.hid (Hbk.out.trans (Hbq.out.mono hsk))
                have hkr : (0 : Int) ≤ (k : Int) := by omega
                clear hblkq
                have hne : some wo.heap.size ≠ (Value.slice Av (cntU r.ws k).length capv).ownBlock := fun e => by have := (HOq.out.lt _ e.symm).1; omega
                have Hne := Lib.hid hne
                clear hne
                go_wp2_with fail
                go_region_law (first | (refine step_append_lies _ rfl (.tmp 99) (.tmp 108) 35 rfl (wo.heap.size + 1) 39 i0 _ 3 40 Try.underlying35 hi hz0 hz1 hz2 rfl (by decide) (.slice Av (cntU r.ws k).length capv) (cntU r.ws k).length ((cntU r.ws k).flatMap Wr.cells) rfl (by first | exact ownsRow_below HOq.out (bel_drew (bel_alloc (Below.refl _ _) _)) | exact ownsRow_below HOq.out (bel_alloc (bel_drew (Below.refl _ _)) _)) ⟨wr.heap.size, 0, none⟩ 1 1 (Wr.cells x) rfl rfl (cells_new wr (Wr.cells x) _) (one_wr x) (by omega) (by simp only [maxLen]; omega) (by omega) (by simp; omega) _ rfl ?_; intro g3 cap3 w3 hown3 hg3 hat3 hlt3; have hblk3 := (hg3.block wo.heap.size (by simp; omega) Hne.out).trans ((Below.heap_alloc wr _ _ hltq).trans Hblkq.out); have hb3 := ((Below.refl wo.heap.size wr).alloc (by omega) _).drew.grown hg3 (by simp; omega) (fun k hk => by have := (HOq.out.lt k hk).1; omega); have Hown3 := Lib.hid hown3; have Hb3 := Lib.hid hb3; have p1 := blk_cell hblk3 1; have p2 := blk_frozen hblk3 1; simp only [List.getElem?_toArray, List.getElem?_cons_zero, List.getElem?_cons_succ] at p1; have Hblk3 := Lib.hid hblk3; have Hlt3 := Lib.hid (hown3.lt _ rfl); clear hown3 hg3 hat3 hblk3 hb3))
                all_goals
                  go_wp2_with fail
                  refine ⟨⟨k + 1, .slice (some ⟨g3, 0, none⟩) ((cntU r.ws k).length + 1) cap3, by omega, by go_num, Lib.hid (by simpa using blk_set Hblk3.out 1 (.slice (some ⟨g3, 0, none⟩) ((cntU r.ws k).length + 1) cap3)), Lib.hid ?_, Lib.hid ((hbkq.out.trans Hb3.out).setCell (Nat.le_refl _) _)⟩, by simp [RowKit.intOf]; omega⟩
                  rw [Hcx.out, if_neg (by rw [Hpre.out]; simp), List.length_append, List.flatMap_append]
                  have hkp := Hown3.out.kept (only_setCell (p := ⟨wo.heap.size, 1, none⟩) (grownBy_refl w3 (some wo.heap.size)) (Or.inl rfl) (.slice (some ⟨g3, 0, none⟩) ((cntU r.ws k).length + 1) cap3)) (Or.inr (fun e => by simp only [Value.ownBlock, Option.some.injEq] at e; have := Hlt3.out.1; simp only at this; omega))
                  simpa using hkp
              · go_wp2_with fail
                exact ⟨⟨k + 1, _, by omega, by go_num, Lib.hid ((Hbq.out.block _ hltk).trans HV.out), Lib.hid (by rw [Hcx.out, if_pos Hpre.out]; exact ownsRow_below HO.out Hbq.out), Lib.hid (Hbk.out.trans (Hbq.out.mono hsk))⟩, by simp [RowKit.intOf]; omega⟩
        · obtain rfl : k = r.len := by omega
          have hcnt : cntU r.ws r.len = cnt r.ws := by unfold cnt; rw [Hr32.out.2]
          have p0 := blk_cell HV.out 0
          have p1 := blk_cell HV.out 1
          simp only [List.getElem?_toArray, List.getElem?_cons_zero, List.getElem?_cons_succ] at p0 p1
          have hMk := HM.out.below Hbk.out
          have hMa : ∀ o, MRow (wk.alloc o) w4.heap.size (u5) rs' := fun o => hMk.below (bel_alloc (Below.refl _ _) o)
          have HMa := Lib.hid hMa
          have Hcnt := Lib.hid hcnt
          clear hMk hMa hcnt
          have hs4o : w4.heap.size ≤ wo.heap.size := Hb.out.size
          go_wp2_with (at_builtin; refine wpList_append_lies _ rfl (.tmp 111) (.tmp 113) 22 rfl w4.heap.size 37 i1 _ 2 32 Try.underlying22 hi1 hy0 hy1 hy2 rfl (by decide) u5 rs'.length (rs'.flatMap RTx.cells) rfl (HMa.out _).1 ⟨wk.heap.size, 0, none⟩ 1 1 (RTx.cells ⟨r.number, Av, (cntU r.ws r.len).length, capv, cntU r.ws r.len⟩) rfl rfl (cells_new wk _ _) (one_tx _) (by omega) (by simp only [maxLen]; omega) (by omega) (by simp; omega) _ rfl ?_; intro g4 cap4 w5 hown4 hg4 hat4 hlt4)
          refine ⟨⟨t + 1, rs' ++ [⟨r.number, Av, (cntU r.ws r.len).length, capv, cntU r.ws r.len⟩], by omega, by simp [hl'], by go_num, Lib.hid ?_, Lib.hid (HC.out.next Hx.out rfl Hcnt.out), Lib.hid ?_⟩, by simp [RowKit.intOf]; omega⟩
          · have hadd := MRow.add (r := ⟨r.number, Av, (cntU r.ws r.len).length, capv, cntU r.ws r.len⟩) (HMa.out _) ((ownsRow_base_a HO.out (by omega)).alloc _) rfl (fun b hb hv => by
                have h1 := (HO.out.lt b hb).1
                have h2 := (HM.out.1.lt b hv).2
                omega) hown4 hg4 hat4 (by simp)
            rwa [hl'] at hadd
          · exact Hb.out.trans ((Hbk.out.mono hs4o).trans (((Below.refl w4.heap.size wk).alloc (by omega) _).grown hg4 (by simp; omega) (fun q hq => ((HMa.out (.cells #[] 0)).1.lt q hq).1)))
    · obtain rfl : t = len := by omega
      clear hr
      have hcut : CutTo rs rs' := by have := HC.out; unfold CutN at this; rwa [List.take_of_length_le (by rw [hlen.out]; exact Nat.le_refl _)] at this
      have h32 : ∀ q ∈ rs', q.len ≤ 32 := fun q hq => by
        have h1 := (HM.out.2 q hq).2.1
        obtain ⟨i, hi⟩ := List.getElem?_of_mem hq
        obtain ⟨p, hp, -, e⟩ := hcut.at_ hi
        have h2 := (logErr_ok He.out hp).1
        simp only [txB, Bool.and_eq_true, decide_eq_true_eq] at h2
        rw [← h1, e]
        exact Nat.le_trans (cntU_len _ _) h2.1.2
      obtain ⟨Am, capm, hu5, htm, hcm⟩ := HM.out.txs h32
      rw [hl'] at hu5 htm hcm
      subst hu5
      have hmod : ((f : Int) % ((t : Int) + 1)) = ((f % (t + 1) : Nat) : Int) := int_rem (a := f) (b := t + 1) (by omega)
      have hm : f % (t + 1) ≤ t := by have := Nat.mod_lt f (show 0 < t + 1 by omega); omega
      have Hmod := Lib.hid hmod
      generalize f % (t + 1) = m at *
      have he' := hcut.err He.out
      have hlrs : rs.length = t := hlen.out
      have hst1 : ∀ X : World, TxsAt X X.heap.size A t rs → Calls Try.prog 21 #[.slice A t cap, .int .i64 m] X fun e w' => ∃ v, e = .returned (.tuple #[v, .int .i64 0]) ∧ EntsOwn w' X.heap.size v (foldE rs m) ∧ Below X.heap.size X w' := fun X h => by
        have hsc : scanErr rs m = 0 := by unfold scanErr; rw [if_neg (by rw [He.out]; simp), if_pos (by simp only [argB, Bool.and_eq_true, decide_eq_true_eq]; omega)]
        have hE : scanL rs m ⟨#[]⟩ ⟨#[]⟩ = foldE rs m := by unfold scanL; rw [if_pos hsc, show ((m : Int)).toNat = m from by omega]; exact cut_all rfl rfl
        have := fstore_any A t cap rs m X h (by omega) hc
        unfold ScanPost at this; rwa [hsc, hE] at this
      have hst2 : ∀ X : World, TxsAt X X.heap.size Am t rs' → Calls Try.prog 21 #[.slice Am t capm, .int .i64 m] X fun e w' => ∃ v, e = .returned (.tuple #[v, .int .i64 0]) ∧ EntsOwn w' X.heap.size v (foldE rs m) ∧ Below X.heap.size X w' := fun X h => by
        have hsc : scanErr rs' m = 0 := by unfold scanErr; rw [if_neg (by rw [he']; simp), if_pos (by simp only [argB, Bool.and_eq_true, decide_eq_true_eq]; omega)]
        have hE : scanL rs' m ⟨#[]⟩ ⟨#[]⟩ = foldE rs m := by unfold scanL; rw [if_pos hsc, show ((m : Int)).toNat = m from by omega, hcut.fold (by omega)]; exact cut_all rfl rfl
        have := fstore_any Am t capm rs' m X h (by omega) hcm
        unfold ScanPost at this; rwa [hsc, hE] at this
      have hca : ∀ j : Nat, 2 ≤ j → j ≤ t → chainAns rs 1 (j : Int) = (CB rs 0 (j - 1), 0) ∧ chainAns rs' 1 (j : Int) = (CB rs 0 (j - 1), 0) := fun j h1 h2 => by
        refine ⟨?_, ?_⟩
        · unfold chainAns CB
          rw [if_neg (by rw [He.out]; simp), if_neg (by omega), show ((1 : Int) - 1).toNat = 0 from rfl, show ((j : Int) - 1).toNat = j - 1 from by omega]
        · unfold chainAns CB
          rw [if_neg (by rw [he']; simp), if_neg (by omega), show ((1 : Int) - 1).toNat = 0 from rfl, show ((j : Int) - 1).toNat = j - 1 from by omega, hcut.reach]
      have hU : ∀ X : World, Below wo.heap.size wo X → TxsAt X X.heap.size A t rs ∧ TxsAt X X.heap.size Am t rs' ∧ Below w.heap.size w X ∧ wo.heap.size ≤ X.heap.size := fun X h => by
        obtain ⟨k1, k2, k3, k4⟩ := HT.out X h
        exact ⟨k1.more (by omega), (htm.below h).more h.size, k2, k3⟩
      have hfl : (foldE rs m).length ≤ 2097152 := len_foldE_le He.out (by omega)
      generalize foldE rs m = E at hst1 hst2 hfl
      obtain ⟨t0, t1, -, -⟩ := hU wo (Below.refl _ _)
      have Hst1 := Lib.hid hst1
      have Hst2 := Lib.hid hst2
      have Hca := Lib.hid hca
      have HU := Lib.hid hU
      clear hcut h32 htm hmod he' hst1 hst2 hca hU hlrs
      go_wp2_with fail
      rw [Hmod.out]
      refine (Hst1.out _ t0).mono ?_
      rintro e w6 ⟨v6, rfl, ho6, hb6⟩
      obtain ⟨A6, c6, rfl, hrow6, -, -⟩ := ho6.row
      obtain ⟨t2, t3, -, hs6⟩ := HU.out _ hb6
      have Hb6 := Lib.hid hb6
      clear ho6 hb6 t0 t1
      go_wp2_with fail
      refine (Hst2.out _ t3).mono ?_
      rintro e w7 ⟨v7, rfl, ho7, hb7⟩
      obtain ⟨A7, c7, rfl, hrow7, -, -⟩ := ho7.row
      have hrow6 := (hrow6.below hb7).more hb7.size
      have Hb7 := Lib.hid (Hb6.out.trans (hb7.mono hs6))
      have hs7 := Hb7.out.size
      clear ho7 hb7 t2 t3
      go_wp2_with fail
      refine (sameE_any A6 _ c6 A7 c7 E _ hrow6 hrow7 (by omega)).mono ?_
      rintro e w8 ⟨rfl, hb8⟩
      have Hb8 := Lib.hid (Hb7.out.trans (hb8.mono hs7))
      have hs8 := Hb8.out.size
      clear hb8 hrow6 hrow7
      go_wp2_with fail
      go_loopw [16] (fun i wr => ∃ j : Nat, 2 ≤ j ∧ j ≤ t + 2 ∧ i = .int .i64 j ∧ Below wo.heap.size wo wr) (fun i _ => t + 2 - (RowKit.intOf i).toNat)
      case atStart => exact ⟨2, Nat.le_refl _, by omega, rfl, Hb8.out⟩
      case round =>
        obtain ⟨j, hj1, hj2, rfl, hb⟩ := hrel
        obtain ⟨t0, t1, hbw, hsj⟩ := HU.out _ hb
        have Hbw := Lib.hid hbw
        have Hbj := Lib.hid hb
        clear hb hbw
        by_cases hjt : j ≤ t
        · obtain ⟨ca1, ca2⟩ := Hca.out j hj1 hjt
          have hc1 := chained_any A t cap rs 1 (j : Int) wr t0 (by omega)
          rw [ca1] at hc1
          have hc2 : ∀ X : World, TxsAt X X.heap.size Am t rs' → Calls Try.prog 15 #[.slice Am t capm, .int .i64 1, .int .i64 j] X fun e w' => e = .returned (.tuple #[.bool (CB rs 0 (j - 1)), .int .i64 0]) ∧ Below X.heap.size X w' := fun X h => by
            have := chained_any Am t capm rs' 1 (j : Int) X h (by omega); rwa [ca2] at this
          generalize CB rs 0 (j - 1) = cb at hc1 hc2
          have Hc1 := Lib.hid hc1
          have Hc2 := Lib.hid hc2
          clear ca1 ca2 hc1 hc2 t0 t1
          go_wp2_with fail
          refine Hc1.out.mono ?_
          rintro e w9 ⟨rfl, hb9⟩
          have hb9' := Hbj.out.trans (hb9.mono hsj)
          obtain ⟨-, t1, -, hs9⟩ := HU.out _ hb9'
          have Hb9 := Lib.hid hb9'
          clear hb9 hb9'
          go_wp2_with fail
          refine (Hc2.out _ t1).mono ?_
          rintro e w10 ⟨rfl, hb10⟩
          have Hb10 := Lib.hid (Hb9.out.trans (hb10.mono hs9))
          clear hb10 t1
          cases cb
          · go_wp2_with fail
            exact ⟨⟨j + 1, by omega, by omega, by go_num, Hb10.out⟩, by simp [RowKit.intOf]; omega⟩
          · go_wp2_with fail
            exact ⟨⟨j + 1, by omega, by omega, by go_num, Hb10.out⟩, by simp [RowKit.intOf]; omega⟩
        · clear t0 t1
          go_wp2_with fail
          go_ret
          exact ⟨rfl, Hbw.out⟩
end Go.Proofs.Ytdcnaieieggclaa

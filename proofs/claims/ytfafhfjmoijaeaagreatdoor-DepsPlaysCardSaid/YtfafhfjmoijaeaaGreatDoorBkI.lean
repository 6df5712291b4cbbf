/- towpathlaw01.Book: lists of ints. -/
import Derived.Test.YtfafhfjmoijaeaaGreatDoorBk0
import Derived.Test.YtfafhfjmoijaeaaGreatDoorProg
import Derived.Deep.DeepCutAuto
namespace Go.Proofs.YtfafhfjmoijaeaaGreatDoor
open Go.RowKit
set_option linter.unusedVariables false
set_option linter.unusedSimpArgs false

set_option maxRecDepth 100000
def mkInt (n : Nat) : List Value := [.int .i64 (-1000 - (n : Int))]
theorem markInt_any (n : Nat) (w : World) (hn : n ≤ 1152921504606846976) {Bo : Nat} (hT : TabB Tryz.prog Bo w) : Calls Tryz.prog 74 #[.int .i64 n] w fun e w' => e = .returned (.int .i64 (-1000 - (n : Int))) ∧ Below w.heap.size w w' := by
  clear hT
  go_enter Tryz.func74, Tryz.ntmps74
  go_wp2_with fail
  go_ret
  exact ⟨rfl, Below.refl _ _⟩
theorem one_mkInt (n : Nat) : ∀ u ∈ mkInt n, u.oneCell' = true := fun u hu => by simp [mkInt] at hu; subst hu; rfl
theorem isInt_any (n : Nat) (w : World) (hn : n ≤ 1152921504606846976) {Bo : Nat} (hT : TabB Tryz.prog Bo w) : Calls Tryz.prog 85 #[.int .i64 (-1000 - (n : Int)), .int .i64 n] w fun e w' => e = .returned (.bool true) ∧ Below w.heap.size w w' := by
  clear hT
  have hb := beq_self_eq_true (-1000 - (n : Int))
  go_enter Tryz.func85, Tryz.ntmps85
  go_wp2_with fail
  go_ret
  exact ⟨ret_bool (by first | rfl | simp), Below.refl _ _⟩
theorem len_mkInt (n : Nat) : (mkInt n).length = 1 := rfl
theorem info_mkInt : (Tryz.prog.info? 3).map (fun i => (i.zero, i.size, i.bytes)) = some (some (.int .i64 0), 1, 8) := by kernel_rfl
set_option maxHeartbeats 4000000 in
theorem fillInt_any (g Bo : Nat) (es : List BkE) (SA : Option Addr) (sc : Nat) (w : World) (hg : ∃ cs, w.heap[g]? = some (.cells cs 46 (0, 0)) ∧ cs[2]? = some (.slice SA es.length sc)) (hs : TkAt BkE.cells 3 93 w Bo SA es.length sc es)
    (hp : ∀ e ∈ es, P0 mkInt 1 3 17592186044345 w Bo e) (hd : DisE es) (hB : Bo ≤ w.heap.size) (hT : TabB Tryz.prog Bo w) (hl : es.length ≤ 4398046511104) :
    Calls Tryz.prog 26 #[.pointer (some ⟨g, 0, none⟩)] w fun e w' => e = .returned (.tuple #[]) ∧ Kept w w' (InE es) ∧ ∀ e ∈ es, P1 mkInt 1 3 w' Bo e := by
  have Hg := Lib.hid hg
  have Hs := Lib.hid hs
  have Hp := Lib.hid hp
  have Hd := Lib.hid hd
  have HT := Lib.hid hT
  have Hlo : Hid (∀ b, InE es b → Bo ≤ b) := Lib.hid (InE.lo fun e he a ha => ((hp e he).tk.lt ha).1)
  have Hty : Hid (∀ b, InE es b → ∃ cs, w.heap[b]? = some (.cells cs 3 (0, 0))) := Lib.hid (fun b ⟨e, he, a, ha, hb⟩ => by rw [hb]; exact (hp e he).tk.ty ha)
  clear hg hs hp hd hT
  go_enter Tryz.func26, Tryz.ntmps26
  go_wp2_with fail
  go_loopw [2] (fun i wr => ∃ j : Nat, j ≤ es.length ∧ i = .int .i64 j ∧ Hid (Kept w wr (InE es)) ∧ Hid (∀ m e, es[m]? = some e → TkAt mkInt 1 3 wr Bo e.A (if m < j then e.len else 0) e.cap (List.replicate (if m < j then e.len else 0) e.n))) (fun i _ => es.length - (RowKit.intOf i).toNat)
  case atStart => exact ⟨0, Nat.zero_le _, rfl, Lib.hid (Kept.refl _ _), Lib.hid (fun m e he => by simpa using (Hp.out e (List.mem_of_getElem? he)).tk)⟩
  case round =>
    obtain ⟨j, hj, rfl, HK, HP⟩ := hrel
    have hbk : ∃ cs, wr.heap[g]? = some (.cells cs 46 (0, 0)) ∧ cs[2]? = some (.slice SA es.length sc) := by
      obtain ⟨cs, h1, h2⟩ := Hg.out
      exact ⟨cs, HK.out.blk h1 (blk_lt h1) (fun hx => by obtain ⟨c2, h3⟩ := Hty.out _ hx; exact blk_ne2 h1 h3 (by decide) rfl), h2⟩
    have g0 : wr.cell? ⟨g, 2, none⟩ = some (.slice SA es.length sc) := by
      obtain ⟨cs, h1, h2⟩ := hbk
      rw [blk_cell h1]; exact h2
    have hsr := Hs.out.kept HK.out (fun a ea hx => by
      obtain ⟨c1, h1⟩ := Hs.out.ty ea
      obtain ⟨c2, h2⟩ := Hty.out _ hx
      exact blk_ne2 h1 h2 (by decide) rfl)
    have Hsr := Lib.hid hsr
    have hws : w.heap.size ≤ wr.heap.size := HK.out.size
    clear hbk hsr
    by_cases hlt : j < es.length
    · obtain ⟨b, off, e, rfl, hbl, hbB, hx, x0, x1, x2, -⟩ := Hsr.out.bk_at hlt
      have HX := Lib.hid hx
      have HPe := Lib.hid (Hp.out e (List.mem_of_getElem? hx))
      have Hje : Hid (TkAt mkInt 1 3 wr Bo e.A 0 e.cap []) := Lib.hid (by have := HP.out j e hx; simpa using this)
      have hle := HPe.out.le
      have hlim := HPe.out.lim
      have hnum := HPe.out.num
      clear hx
      obtain ⟨v, hv⟩ : ∃ v, v = wr := ⟨_, rfl⟩
      obtain ⟨vz, hvz⟩ : ∃ vz, vz = v.heap.size := ⟨_, rfl⟩
      go_wp2_with fail
      obtain ⟨wo, hwo⟩ : ∃ wo, wo = wr.alloc (.cells #[.slice e.A e.len e.cap, .slice e.B e.bl e.bc, .int .i64 e.n] 93) := ⟨_, rfl⟩
      rw [← hwo]
      subst hv
      have HBo : Hid (Below v.heap.size v wo) := Lib.hid (hwo ▸ bel_alloc (Below.refl _ _) _)
      have HHo : Hid (wo.heap[vz]? = some (.cells #[.slice e.A e.len e.cap, .slice e.B e.bl e.bc, .int .i64 e.n] 93 (0, 0))) := Lib.hid (hwo ▸ hvz ▸ blk_new _ _)
      rw [← hvz]
      have Hvz := Lib.hid hvz
      clear hwo g0 x0 x1 x2 hvz
      have Hjo := Lib.hid (Hje.out.below HBo.out)
      have hwos : w.heap.size ≤ wo.heap.size := Nat.le_trans hws HBo.out.size
      obtain ⟨A, len, cap, nn, B2, bl, bc⟩ := e
      simp only at *
      go_loopw [4] (fun i wr => ∃ k : Nat, k ≤ len ∧ i = .int .i64 k ∧ Hid (TkAt mkInt 1 3 wr Bo A k cap (List.replicate k nn)) ∧ Hid (Kept wo wr (fun b => ∃ a, A = some a ∧ b = a.block))) (fun i _ => len - (RowKit.intOf i).toNat)
      case atStart => exact ⟨0, Nat.zero_le _, rfl, Hjo, Lib.hid (Kept.refl _ _)⟩
      case round =>
        obtain ⟨k, hk, rfl, HTq, HKq⟩ := hrel
        have hhq : wr.heap[vz]? = some (.cells #[.slice A len cap, .slice B2 bl bc, .int .i64 nn] 93 (0, 0)) := HKq.out.blk HHo.out (blk_lt HHo.out) (fun ⟨a, ea, eb⟩ => by
          obtain ⟨c2, h2⟩ := Hjo.out.ty ea
          exact blk_ne2 HHo.out h2 (by decide) eb)
        have Hhq := Lib.hid hhq
        have hvl : vz < wr.heap.size := blk_lt hhq
        have y0 : wr.cell? ⟨vz, 0, none⟩ = some (.slice A len cap) := blk_cell hhq 0
        clear hhq
        by_cases hk2 : k < len
        · obtain ⟨ga, oa, cur, rfl, hga, hcur, hfit⟩ : ∃ ga oa cur, A = some ⟨ga, oa, none⟩ ∧ Bo ≤ ga ∧ wr.heap[ga]? = some (.cells cur 3 (0, 0)) ∧ oa + cap * 1 ≤ cur.size := by
            obtain ⟨-, -, ⟨-, h4⟩ | ⟨g', o', cur, h3, h4, h5, h6, -⟩⟩ := HTq.out
            · omega
            · exact ⟨g', o', cur, h3, h4, h5, h6⟩
          have HC := Lib.hid hcur
          have k0 : ∀ n : Ext wr, n.X.cell? ⟨vz, 0, none⟩ = some (.slice (some ⟨ga, oa, none⟩) len cap) := fun n => (n.h.cell (p := ⟨vz, 0, none⟩) hvl).trans y0
          have k2 : ∀ n : Ext wr, n.X.cell? ⟨vz, 2, none⟩ = some (.int .i64 nn) := fun n => (n.h.cell (p := ⟨vz, 2, none⟩) hvl).trans (blk_cell Hhq.out 2)
          have HBw : Hid (∀ X, Below wr.heap.size wr X → Below Bo w X) := Lib.hid (fun X hX => by
            have h1 : Below Bo w v := HK.out.below hB Hlo.out
            have h2 : Below Bo w wo := h1.trans (HBo.out.mono (Nat.le_trans hB hws))
            have h3 : Below Bo wo wr := HKq.out.below (Nat.le_trans hB hwos) (fun b ⟨a, ea, eb⟩ => by rw [eb]; exact (Hjo.out.lt ea).1)
            exact (h2.trans h3).trans (hX.mono (by have := HKq.out.size; omega)))
          have hN := Lib.hid (fun n : Ext wr => Ext.call (markInt_any nn n.X (by omega) (HT.out.next (HBw.out n.X n.h))))
          have hi1 : (0 : Int) ≤ (k : Int) := by omega
          have hi2 : (k : Int) < (len : Int) := by omega
          clear hcur
          go_wp2_with fail
          clear y0
          refine wp_region_ext_tail 6 (by kernel_rfl) (by kernel_rfl) ?_
          simp only [List.take_succ_cons, List.take_zero, List.drop_succ_cons, List.drop_zero]
          repeat (go_big_quiet_step ((go_at_call 74; exact hN.out _)))
          refine Ext.tail fun X hX => ?_
          clear k0 k2
          have hgl := blk_lt HC.out
          have hXb := (hX.block _ hgl).trans HC.out
          have hkm : (k + 1) * 1 ≤ cap * 1 := Nat.mul_le_mul_right _ (by omega)
          have HTx := Lib.hid ((HTq.out.below hX).room len_mkInt (by omega) nn)
          have c0 : X.cell? ⟨ga, oa + k, none⟩ = some (cur[oa + k]'(by omega)) := (blk_cell hXb _).trans (Array.getElem?_eq_getElem _)
          have f0 : X.frozen? ⟨ga, oa + k, none⟩ = false := blk_frozen hXb _
          have HKx := Lib.hid ((HKq.out.trans (Kept.of_below hX)).trans ((kept_sc ga (mkInt nn) (oa + k * 1) X).mono fun b hb => ⟨_, rfl, hb⟩))
          clear hXb hN hX
          simp only [mkInt, World.setCells, rep_snoc, Nat.mul_one] at HTx HKx
          go_wp2_with fail
          exact ⟨⟨k + 1, by omega, by go_num, HTx, HKx⟩, by simp [RowKit.intOf]; omega⟩
        · obtain rfl : k = len := by omega
          go_wp2_with fail
          refine ⟨⟨j + 1, by omega, by go_num, Lib.hid ((HK.out.trans (Kept.of_below HBo.out)).trans (HKq.out.mono fun b ⟨a, ea, eb⟩ => ⟨_, List.mem_of_getElem? HX.out, a, ea, eb⟩)), Lib.hid (fun m e he => ?_)⟩, by simp [RowKit.intOf]; omega⟩
          by_cases hm : m = j
          · subst hm
            rw [HX.out] at he
            injection he with he
            subst he
            simpa using HTq.out
          · have h1 : (m < j + 1) = (m < j) := by simp; omega
            simp only [h1]
            exact ((HP.out m e he).below HBo.out).kept HKq.out (fun a ea ⟨c, ec, eb⟩ => Hd.out.ne he HX.out hm ea ec eb)
    · obtain rfl : j = es.length := by omega
      go_wp2_with fail
      refine bodyPost_end (results_none rfl _ _ _) rfl ⟨rfl, HK.out, fun e he => ?_⟩
      obtain ⟨m, hm⟩ := List.getElem?_of_mem he
      have := HP.out m e hm
      rw [if_pos (List.getElem?_eq_some_iff.1 hm).1] at this
      exact this
/-- What a list's entry has become of. -/
structure GrInt (w0 w : World) (Bo : Nat) (e e1 : BkE) (fin : Bool) : Prop where
  same : e1.A = e.A ∧ e1.len = e.len ∧ e1.cap = e.cap ∧ e1.n = e.n
  p1 : P1 mkInt 1 3 w Bo e
  p2 : fin = true → P2 mkInt 1 3 w Bo e1
  fr : fin = true → ∀ b, e1.B = some b → (∃ a, e.A = some a ∧ a.block = b.block) ∨ w0.heap.size ≤ b.block
set_option maxHeartbeats 8000000 in
theorem growInt_any (g Bo : Nat) (es : List BkE) (SA : Option Addr) (sc : Nat) (w : World) (hg : ∃ cs, w.heap[g]? = some (.cells cs 46 (0, 0)) ∧ cs[2]? = some (.slice SA es.length sc)) (hs : TkAt BkE.cells 3 93 w Bo SA es.length sc es)
    (hp : ∀ e ∈ es, e.len ≤ 17592186044345 ∧ e.n ≤ 1152921504606846976 ∧ P1 mkInt 1 3 w Bo e) (hd : DisE es) (hB : Bo ≤ w.heap.size) (hT : TabB Tryz.prog Bo w) (hl : es.length ≤ 4398046511104) :
    Calls Tryz.prog 37 #[.pointer (some ⟨g, 0, none⟩)] w fun e w' => e = .returned (.tuple #[]) ∧ Kept w w' (fun b => InE es b ∨ ∃ a, SA = some a ∧ b = a.block) ∧ ∃ es1 : List BkE, es1.length = es.length ∧ TkAt BkE.cells 3 93 w' Bo SA es.length sc es1 ∧
      ∀ (m : Nat) e, es[m]? = some e → ∃ e1, es1[m]? = some e1 ∧ GrInt w w' Bo e e1 true := by
  have Hg := Lib.hid hg
  have Hs := Lib.hid hs
  have Hp := Lib.hid hp
  have Hd := Lib.hid hd
  have HT := Lib.hid hT
  obtain ⟨i0, hi, hz0, hz1, hz2⟩ := info_parts info_mkInt
  have Hty : Hid (∀ b, InE es b → ∃ cs, w.heap[b]? = some (.cells cs 3 (0, 0))) := Lib.hid (fun b ⟨e, he, a, ha, hb⟩ => by rw [hb]; exact (hp e he).2.2.ty ha)
  have Hlo : Hid (∀ b, (InE es b ∨ ∃ a, SA = some a ∧ b = a.block) → Bo ≤ b) := Lib.hid (fun b hb => by
    rcases hb with hb | ⟨a, ea, rfl⟩
    · exact InE.lo (fun e he a ha => ((hp e he).2.2.lt ha).1) b hb
    · exact (hs.lt ea).1)
  have Hty2 : Hid (∀ b, (InE es b ∨ ∃ a, SA = some a ∧ b = a.block) → ∃ cs t, w.heap[b]? = some (.cells cs t (0, 0)) ∧ (t = 3 ∨ t = 93)) := Lib.hid (fun b hb => by
    rcases hb with hb | ⟨a, ea, rfl⟩
    · obtain ⟨cs, h⟩ := Hty.out b hb; exact ⟨cs, _, h, Or.inl rfl⟩
    · obtain ⟨cs, h⟩ := hs.ty ea; exact ⟨cs, _, h, Or.inr rfl⟩)
  clear hg hs hp hd hT
  go_enter Tryz.func37, Tryz.ntmps37
  go_wp2_with fail
  go_loopw [2] (fun i wr => ∃ (j : Nat) (es1 : List BkE), j ≤ es.length ∧ i = .int .i64 j ∧ Hid (Kept w wr (fun b => InE es b ∨ ∃ a, SA = some a ∧ b = a.block)) ∧ Hid (es1.length = es.length) ∧ Hid (TkAt BkE.cells 3 93 wr Bo SA es.length sc es1) ∧ Hid (∀ (m : Nat) e, es[m]? = some e → ∃ e1, es1[m]? = some e1 ∧ GrInt w wr Bo e e1 (decide (m < j)))) (fun i _ => es.length - (RowKit.intOf i).toNat)
  case atStart => exact ⟨0, es, Nat.zero_le _, rfl, Lib.hid (Kept.refl _ _), Lib.hid rfl, Hs, Lib.hid (fun m e he => ⟨e, he, ⟨rfl, rfl, rfl, rfl⟩, (Hp.out e (List.mem_of_getElem? he)).2.2, (fun h => by simp at h), (fun h => by simp at h)⟩)⟩
  case round =>
    obtain ⟨j, es1, hj, rfl, HK, HL, Hsr, HP⟩ := hrel
    have hbk : ∃ cs, wr.heap[g]? = some (.cells cs 46 (0, 0)) ∧ cs[2]? = some (.slice SA es.length sc) := by
      obtain ⟨cs, h1, h2⟩ := Hg.out
      exact ⟨cs, HK.out.blk h1 (blk_lt h1) (fun hx => by
        obtain ⟨c2, t, h3, rfl | rfl⟩ := Hty2.out _ hx
        · exact blk_ne2 h1 h3 (by decide) rfl
        · exact blk_ne2 h1 h3 (by decide) rfl), h2⟩
    have HG := Lib.hid hbk
    have g0 : wr.cell? ⟨g, 2, none⟩ = some (.slice SA es.length sc) := by
      obtain ⟨cs, h1, h2⟩ := hbk
      rw [blk_cell h1]; exact h2
    have hws : w.heap.size ≤ wr.heap.size := HK.out.size
    clear hbk
    by_cases hlt : j < es.length
    · obtain ⟨b, off, e, rfl, hbl, hbB, hx, x0, x1, x2, hbt⟩ := Hsr.out.bk_at hlt
      have HX := Lib.hid hx
      have HBt := Lib.hid hbt
      obtain ⟨ez, hez⟩ : ∃ ez, es[j]? = some ez := ⟨_, List.getElem?_eq_getElem hlt⟩
      obtain ⟨e', he', hge⟩ := HP.out j ez hez
      rw [hx] at he'
      injection he' with he'
      subst he'
      have HZ := Lib.hid hez
      obtain ⟨hlim, hnum, -⟩ := Hp.out ez (List.mem_of_getElem? hez)
      obtain ⟨A, len, cap, nn, Bz, blz, bcz⟩ := ez
      obtain ⟨⟨q1, q2, q3, q4⟩, hp1, -, -⟩ := hge
      obtain ⟨A', len', cap', nn', B2, bl, bc⟩ := e
      simp only at q1 q2 q3 q4 hp1 hlim hnum x0 x1 x2
      subst q1 q2 q3 q4
      have HP1 : Hid (TkAt mkInt 1 3 wr Bo A' len' cap' (List.replicate len' nn')) := Lib.hid hp1
      have hwt := Hty.out
      clear hx hbt hez hp1 hwt
      obtain ⟨v, hv⟩ : ∃ v, v = wr := ⟨_, rfl⟩
      obtain ⟨vz, hvz⟩ : ∃ vz, vz = v.heap.size := ⟨_, rfl⟩
      have hlc : len' ≤ cap' := HP1.out.le
      have f7 : vz < v.heap.size + 1 := by omega
      go_upto_region 5 with fail
      obtain ⟨wo, hwo⟩ : ∃ wo, wo = wr.alloc (.cells #[.slice A' len' cap', .slice B2 bl bc, .int .i64 nn'] 93) := ⟨_, rfl⟩
      rw [← hwo]
      subst hv
      have HBo : Hid (Below v.heap.size v wo) := Lib.hid (hwo ▸ bel_alloc (Below.refl _ _) _)
      have HHo : Hid (wo.heap[vz]? = some (.cells #[.slice A' len' cap', .slice B2 bl bc, .int .i64 nn'] 93 (0, 0))) := Lib.hid (hwo ▸ hvz ▸ blk_new _ _)
      rw [← hvz]
      have Hvz := Lib.hid hvz
      clear hwo x0 x1 x2 hvz f7
      have Hjo := Lib.hid (HP1.out.below HBo.out)
      have hwos : w.heap.size ≤ wo.heap.size := Nat.le_trans hws HBo.out.size
      have HGo : Hid (∃ cs, wo.heap[g]? = some (.cells cs 46 (0, 0)) ∧ cs[2]? = some (.slice (some ⟨b, off, none⟩) es.length sc)) := Lib.hid (by
        obtain ⟨cs, h1, h2⟩ := HG.out
        exact ⟨cs, (HBo.out.block _ (blk_lt h1)).trans h1, h2⟩)
      clear g0
      go_wp2_with fail
      go_loopw [4, 5] (fun s i wr => ∃ (k : Nat) (Bq : Option Addr) (bq : Nat), k ≤ 70 ∧ i = .int .i64 k ∧ s = .slice Bq (len' + k) bq ∧ Hid (TkAt mkInt 1 3 wr Bo Bq (len' + k) bq (List.replicate (len' + k) nn')) ∧ Hid (TkAt mkInt 1 3 wr Bo A' len' cap' (List.replicate len' nn')) ∧ Hid ((Bq = A' ∧ bq = cap') ∨ ∀ b, Bq = some b → wo.heap.size ≤ b.block) ∧ Hid (Kept wo wr (fun b => ∃ a, A' = some a ∧ b = a.block))) (fun _ i _ => 70 - (RowKit.intOf i).toNat)
      case atStart => exact ⟨0, A', cap', by omega, rfl, rfl, Hjo, Hjo, Lib.hid (Or.inl ⟨rfl, rfl⟩), Lib.hid (Kept.refl _ _)⟩
      case round =>
        obtain ⟨k, Bq, bq, hk, rfl, rfl, HTq, HTl, HFq, HKq⟩ := hrel
        have hhq : wr.heap[vz]? = some (.cells #[.slice A' len' cap', .slice B2 bl bc, .int .i64 nn'] 93 (0, 0)) := HKq.out.blk HHo.out (blk_lt HHo.out) (fun ⟨a, ea, eb⟩ => by
          obtain ⟨c2, h2⟩ := Hjo.out.ty ea
          exact blk_ne2 HHo.out h2 (by decide) eb)
        have hwoq : wo.heap.size ≤ wr.heap.size := HKq.out.size
        have HBw : Hid (∀ X, Below wr.heap.size wr X → Below Bo w X) := Lib.hid (fun X hX => by
          have h1 : Below Bo w v := HK.out.below hB Hlo.out
          have h2 : Below Bo w wo := h1.trans (HBo.out.mono (Nat.le_trans hB hws))
          have h3 : Below Bo wo wr := HKq.out.below (Nat.le_trans hB hwos) (fun b ⟨a, ea, eb⟩ => by rw [eb]; exact (Hjo.out.lt ea).1)
          exact (h2.trans h3).trans (hX.mono (by omega)))
        by_cases hk2 : k < 70
        · have y2 : wr.cell? ⟨vz, 2, none⟩ = some (.int .i64 nn') := blk_cell hhq 2
          clear hhq
          go_wp2_with fail
          refine (markInt_any nn' wr (by omega) (HT.out.next (HBw.out wr (Below.refl _ _)))).mono ?_
          rintro e wm ⟨rfl, hbm⟩
          clear y2
          have HTm := Lib.hid (HTq.out.below (bel_alloc hbm (.cells (mkInt nn').toArray 3)))
          have HBm := Lib.hid (bel_alloc hbm (.cells (mkInt nn').toArray 3))
          have hms : wr.heap.size ≤ wm.heap.size := hbm.size
          clear hbm
          go_wp2_with (at_builtin; refine wpList_push2 rfl _ _ 64 rfl 3 i0 (.int .i64 0) 1 8 Tryz.underlying64 hi hz0 hz1 hz2 rfl (by decide) len_mkInt one_mkInt Bo Bq (len' + k) bq (List.replicate (len' + k) nn') rfl HTm.out (by simp; omega) nn' ⟨wm.heap.size, 0, none⟩ 1 rfl (cells_nw wm (mkInt nn') _) (by simp only [maxLen]; omega) (by omega) ?_)
          intro Bn bn w' h1 h2 h3 h4
          have HT' : Hid (TkAt mkInt 1 3 w' Bo Bn (len' + (k + 1)) bn (List.replicate (len' + (k + 1)) nn')) := Lib.hid (by rw [rep_snoc] at h1; exact h1)
          have hbl : ∀ c, (∃ a, Bq = some a ∧ c = a.block) → (∃ a, A' = some a ∧ c = a.block) ∨ wo.heap.size ≤ c := fun c ⟨a, ea, ec⟩ => by
            rcases HFq.out with ⟨h, -⟩ | h
            · exact Or.inl ⟨a, by rw [← h]; exact ea, ec⟩
            · exact Or.inr (by rw [ec]; exact h a ea)
          have HK' : Hid (Kept wo w' (fun b => ∃ a, A' = some a ∧ b = a.block)) := Lib.hid ((HKq.out.trans (Kept.of_below HBm.out)).trans2 h2 hbl)
          have HTl' : Hid (TkAt mkInt 1 3 w' Bo A' len' cap' (List.replicate len' nn')) := Lib.hid (by
            rcases HFq.out with ⟨h, h5⟩ | h
            · subst h h5
              exact h4.take_ (Nat.le_add_right _ _) (rep_take (Nat.le_add_right _ _))
            · refine (HTl.out.below HBm.out).kept h2 (fun a ea ⟨c, ec, eb⟩ => ?_)
              have := h c ec
              have := (Hjo.out.lt ea).2
              omega)
          have HF' : Hid ((Bn = A' ∧ bn = cap') ∨ ∀ b, Bn = some b → wo.heap.size ≤ b.block) := Lib.hid (by
            rcases h3 with ⟨h, h5⟩ | ⟨a, ea, h⟩
            · subst h h5; exact HFq.out
            · refine Or.inr (fun c ec => ?_)
              rw [ea] at ec; injection ec with ec; subst ec
              first | omega | (simp at h; omega) | (have h9 := HBm.out.size; omega))
          clear h1 h2 h3 h4 hbl
          go_wp2_with fail
          exact ⟨⟨k + 1, Bn, bn, by omega, by go_num, rfl, HT', HTl', HF', HK'⟩, by simp [RowKit.intOf]; omega⟩
        · obtain rfl : k = 70 := by omega
          have hne : b ≠ vz := by have := Hvz.out; omega
          have hbq : ∃ cs, wr.heap[b]? = some (.cells cs 93 (0, 0)) := by
            obtain ⟨cs, h1⟩ := HBt.out
            exact ⟨cs, HKq.out.blk ((HBo.out.block _ hbl).trans h1) (Nat.lt_of_lt_of_le hbl HBo.out.size) (fun ⟨a, ea, eb⟩ => by
              obtain ⟨c2, h2⟩ := Hjo.out.ty ea
              exact blk_ne2 ((HBo.out.block _ hbl).trans h1) h2 (by decide) eb)⟩
          have g0 : wr.cell? ⟨g, 2, none⟩ = some (.slice (some ⟨b, off, none⟩) es.length sc) := by
            obtain ⟨cs, h1, h2⟩ := HGo.out
            rw [blk_cell (HKq.out.blk h1 (blk_lt h1) (fun ⟨a, ea, eb⟩ => by
              obtain ⟨c2, h3⟩ := Hjo.out.ty ea
              exact blk_ne2 h1 h3 (by decide) eb))]
            exact h2
          have HSq : Hid (TkAt BkE.cells 3 93 wr Bo (some ⟨b, off, none⟩) es.length sc es1) := Lib.hid ((Hsr.out.below HBo.out).kept HKq.out (fun a ea ⟨c, ec, eb⟩ => by
            obtain ⟨c1, h1⟩ := (Hsr.out.below HBo.out).ty ea
            obtain ⟨c2, h2⟩ := Hjo.out.ty ec
            exact blk_ne2 h1 h2 (by decide) eb))
          obtain ⟨b', off', e9, hb9, hbl9, -, hx9, z0, z1, z2, -⟩ := HSq.out.bk_at hlt
          injection hb9 with hb9
          injection hb9 with hb1 hb2
          subst hb1 hb2
          obtain ⟨cb, hcb⟩ := hbq
          have zf := blk_frozen hcb (off + j * 3 + 1)
          have hi1 : (0 : Int) ≤ (j : Int) := by omega
          have hi2 : (j : Int) < (es.length : Int) := by omega
          have HS' := Lib.hid (HSq.out.put1 (C := Bq) (m := len' + 70) (c := bq) HX.out)
          have hKs : Kept wr (wr.setCell ⟨b, off + j * 3 + 1, none⟩ (.slice Bq (len' + 70) bq)) (fun c => c = b) := Kept.setCell (X := fun c => c = b) (Kept.refl _ _) (p := ⟨b, off + j * 3 + 1, none⟩) (Or.inl rfl) _
          have HKs := Lib.hid hKs
          have hcE : ∀ X : World, ∀ (a : Addr), (∃ cs, wr.heap[a.block]? = some (.cells cs 3 (0, 0))) → a.block ≠ b := fun X a ⟨cs, h⟩ => blk_ne2 h hcb (by decide)
          have HcE := Lib.hid hcE
          clear hcb z0 z2 hx9 hKs hcE hhq
          go_wp2_with fail
          clear g0 z1 zf
          refine ⟨⟨j + 1, es1.set j _, by omega, by go_num, Lib.hid ?_, Lib.hid (by rw [List.length_set]; exact HL.out), HS', Lib.hid (fun m e he => ?_)⟩, by simp [RowKit.intOf]; omega⟩
          · refine (((HK.out.trans (Kept.of_below HBo.out)).trans2 HKq.out (fun c ⟨a, ea, ec⟩ => Or.inl (Or.inl ⟨_, List.mem_of_getElem? HZ.out, a, ea, ec⟩))).trans (HKs.out.mono fun c ec => Or.inr ⟨_, rfl, ec⟩))
          · by_cases hm : m = j
            · subst hm
              rw [HZ.out] at he
              injection he with he
              subst he
              refine ⟨_, List.getElem?_set_self (by rw [HL.out]; exact hlt), ⟨rfl, rfl, rfl, rfl⟩, HTl.out.kept HKs.out (fun a ea => HcE.out wr a (HTl.out.ty ea)), fun _ => ⟨rfl, HTq.out.kept HKs.out (fun a ea => HcE.out wr a (HTq.out.ty ea))⟩, fun _ c ec => ?_⟩
              rcases HFq.out with ⟨h, -⟩ | h
              · exact Or.inl ⟨c, by rw [← h]; exact ec, rfl⟩
              · exact Or.inr (by have := h c ec; omega)
            · obtain ⟨e1, he1, hgr⟩ := HP.out m e he
              have hd1 : decide (m < j + 1) = decide (m < j) := by simp; omega
              rw [hd1]
              have hkeep : ∀ (C : Option Addr) (n9 c9 : Nat) (l9 : List Nat), TkAt mkInt 1 3 v Bo C n9 c9 l9 → (∀ a, C = some a → ¬ ∃ c, A' = some c ∧ a.block = c.block) → TkAt mkInt 1 3 (wr.setCell ⟨b, off + j * 3 + 1, none⟩ (.slice Bq (len' + 70) bq)) Bo C n9 c9 l9 := fun C n9 c9 l9 h h2 => by
                have h3 := (h.below HBo.out).kept HKq.out h2
                exact h3.kept HKs.out (fun a ea => HcE.out wr a (h3.ty ea))
              refine ⟨e1, by rw [List.getElem?_set_ne (Ne.symm hm)]; exact he1, hgr.same, hkeep _ _ _ _ hgr.p1 (fun a ea ⟨c, ec, eb⟩ => Hd.out.ne he HZ.out hm ea ec eb), fun hf => ⟨(hgr.p2 hf).1, hkeep _ _ _ _ (hgr.p2 hf).2 (fun a ea ⟨c, ec, eb⟩ => ?_)⟩, hgr.fr⟩
              rcases hgr.fr hf a ea with ⟨c2, e2, e3⟩ | h
              · exact Hd.out.ne he HZ.out hm e2 ec (e3.trans eb)
              · have := ((Hp.out _ (List.mem_of_getElem? HZ.out)).2.2.lt (show _ = some c from ec)).2
                omega
    · obtain rfl : j = es.length := by omega
      go_wp2_with fail
      refine bodyPost_end (results_none rfl _ _ _) rfl ⟨rfl, HK.out, es1, HL.out, Hsr.out, fun m e he => ?_⟩
      obtain ⟨e1, h1, h2⟩ := HP.out m e he
      have hm := (List.getElem?_eq_some_iff.1 he).1
      exact ⟨e1, h1, by simpa [hm] using h2⟩
set_option maxHeartbeats 8000000 in
theorem lookInt_any (g Bo : Nat) (es : List BkE) (SA : Option Addr) (sc : Nat) (w : World) (hg : ∃ cs, w.heap[g]? = some (.cells cs 46 (0, 0)) ∧ cs[2]? = some (.slice SA es.length sc)) (hs : TkAt BkE.cells 3 93 w Bo SA es.length sc es)
    (hp : ∀ e ∈ es, e.len ≤ 17592186044345 ∧ e.n ≤ 1152921504606846976 ∧ P1 mkInt 1 3 w Bo e ∧ P2 mkInt 1 3 w Bo e) (hB : Bo ≤ w.heap.size) (hT : TabB Tryz.prog Bo w) (hl : es.length ≤ 4398046511104) :
    Calls Tryz.prog 48 #[.pointer (some ⟨g, 0, none⟩)] w fun e w' => e = .returned (.bool true) ∧ Below w.heap.size w w' := by
  have Hg := Lib.hid hg
  have Hs := Lib.hid hs
  have Hp := Lib.hid hp
  have HT := Lib.hid hT
  clear hg hs hp hT
  go_enter Tryz.func48, Tryz.ntmps48
  go_wp2_with fail
  go_loopw [3] (fun i wr => ∃ j : Nat, j ≤ es.length ∧ i = .int .i64 j ∧ Hid (Below w.heap.size w wr)) (fun i _ => es.length - (RowKit.intOf i).toNat)
  case atStart => exact ⟨0, Nat.zero_le _, rfl, Lib.hid (Below.refl _ _)⟩
  case round =>
    obtain ⟨j, hj, rfl, HB0⟩ := hrel
    have g0 : wr.cell? ⟨g, 2, none⟩ = some (.slice SA es.length sc) := by
      obtain ⟨cs, h1, h2⟩ := Hg.out
      rw [blk_cell ((HB0.out.block _ (blk_lt h1)).trans h1)]; exact h2
    have hws : w.heap.size ≤ wr.heap.size := HB0.out.size
    by_cases hlt : j < es.length
    · obtain ⟨b, off, e, rfl, hbl, hbB, hx, x0, x1, x2, -⟩ := (Hs.out.below HB0.out).bk_at hlt
      obtain ⟨hlim, hnum, hp1, hp2⟩ := Hp.out e (List.mem_of_getElem? hx)
      obtain ⟨A, len, cap, nn, B2, bl, bc⟩ := e
      simp only at hlim hnum hp1 hp2 x0 x1 x2
      obtain ⟨hp3, hp4⟩ := hp2
      simp only at hp3 hp4
      subst hp3
      have HP1 := Lib.hid hp1
      have HP2 := Lib.hid hp4
      clear hx hp1 hp4
      obtain ⟨v, hv⟩ : ∃ v, v = wr := ⟨_, rfl⟩
      obtain ⟨vz, hvz⟩ : ∃ vz, vz = v.heap.size := ⟨_, rfl⟩
      go_upto_region 5 with fail
      obtain ⟨wo, hwo⟩ : ∃ wo, wo = wr.alloc (.cells #[.slice A len cap, .slice B2 (len + 70) bc, .int .i64 nn] 93) := ⟨_, rfl⟩
      rw [← hwo]
      subst hv
      have HBo : Hid (Below w.heap.size w wo) := Lib.hid (HB0.out.trans (by rw [hwo]; exact (Below.refl _ _).alloc hws _))
      have hHo : wo.heap[vz]? = some (.cells #[.slice A len cap, .slice B2 (len + 70) bc, .int .i64 nn] 93 (0, 0)) := hwo ▸ hvz ▸ blk_new _ _
      have HHo := Lib.hid hHo
      have v0 : wo.cell? ⟨vz, 0, none⟩ = some (.slice A len cap) := blk_cell hHo 0
      have v1 : wo.cell? ⟨vz, 1, none⟩ = some (.slice B2 (len + 70) bc) := blk_cell hHo 1
      rw [← hvz]
      clear hwo x0 x1 x2 hvz g0 hHo
      go_wp2_with fail
      clear v0 v1
      go_loopw [5] (fun i wr => ∃ k : Nat, k ≤ len + 70 ∧ i = .int .i64 k ∧ Hid (Below wo.heap.size wo wr)) (fun i _ => len + 70 - (RowKit.intOf i).toNat)
      case atStart => exact ⟨0, Nat.zero_le _, rfl, Lib.hid (Below.refl _ _)⟩
      case round =>
        obtain ⟨k, hk, rfl, HBq⟩ := hrel
        have HBw : Hid (Below w.heap.size w wr) := Lib.hid (HBo.out.trans (HBq.out.mono HBo.out.size))
        have hhq := (HBq.out.block _ (blk_lt HHo.out)).trans HHo.out
        have Hhq := Lib.hid hhq
        have hvl : vz < wr.heap.size := blk_lt hhq
        have y1 : wr.cell? ⟨vz, 1, none⟩ = some (.slice B2 (len + 70) bc) := blk_cell hhq 1
        clear hhq
        by_cases hk2 : k < len + 70
        · obtain ⟨gb, ob, yb, rfl, hgb, hyb, hcb⟩ := (HP2.out.below HBw.out).row.at_ hk2
          have hye := (rep_get hyb).symm
          subst hye
          have q0 : ∀ n : Ext wr, n.X.cell? ⟨gb, ob + k, none⟩ = some (.int .i64 (-1000 - (nn : Int))) := fun n => (n.h.cell (p := ⟨gb, ob + k, none⟩) hgb).trans (by have := hcb 0 _ rfl; simpa using this)
          have k0 : ∀ n : Ext wr, n.X.cell? ⟨vz, 0, none⟩ = some (.slice A len cap) := fun n => (n.h.cell (p := ⟨vz, 0, none⟩) hvl).trans (blk_cell Hhq.out 0)
          have k1 : ∀ n : Ext wr, n.X.cell? ⟨vz, 1, none⟩ = some (.slice (some ⟨gb, ob, none⟩) (len + 70) bc) := fun n => (n.h.cell (p := ⟨vz, 1, none⟩) hvl).trans y1
          have k2 : ∀ n : Ext wr, n.X.cell? ⟨vz, 2, none⟩ = some (.int .i64 nn) := fun n => (n.h.cell (p := ⟨vz, 2, none⟩) hvl).trans (blk_cell Hhq.out 2)
          have hN := Lib.hid (fun n : Ext wr => Ext.call (isInt_any nn n.X (by omega) (HT.out.next ((HBw.out.mono hB).trans (n.h.mono (Nat.le_trans hB HBw.out.size))))))
          have hi1 : (0 : Int) ≤ (k : Int) := by omega
          have hi2 : (k : Int) < (len : Int) + 70 := by omega
          clear hcb hyb
          by_cases hk3 : k < len
          · obtain ⟨ga, oa, ya, rfl, hga, hya, hca⟩ := (HP1.out.below HBw.out).row.at_ hk3
            have hyd := (rep_get hya).symm
            subst hyd
            have r0 : ∀ n : Ext wr, n.X.cell? ⟨ga, oa + k, none⟩ = some (.int .i64 (-1000 - (nn : Int))) := fun n => (n.h.cell (p := ⟨ga, oa + k, none⟩) hga).trans (by have := hca 0 _ rfl; simpa using this)
            have hi3 : (k : Int) < (len : Int) := by omega
            have hd1 : decide ((k : Int) < (len : Int)) = true := by simp; omega
            have hd2 : decide (k < len) = true := by simp; omega
            clear hca hya
            go_wp2_with fail
            clear y1
            refine wp_region_ext (by kernel_rfl) (by kernel_rfl) ?_
            repeat (go_big_quiet_step ((go_at_call 85; exact hN.out _)))
            refine Ext.end_ fun X hX => ?_
            have HX := Lib.hid (HBq.out.trans (hX.mono HBq.out.size))
            clear k0 k1 k2 hN hX q0 r0
            go_wp2_with fail
            exact ⟨⟨k + 1, by omega, by go_num, HX⟩, by simp [RowKit.intOf]; omega⟩
          · have hd1 : decide ((k : Int) < (len : Int)) = false := by simp; omega
            have hd2 : decide (k < len) = false := by simp; omega
            go_wp2_with fail
            clear y1
            refine wp_region_ext (by kernel_rfl) (by kernel_rfl) ?_
            repeat (go_big_quiet_step ((go_at_call 85; exact hN.out _)))
            refine Ext.end_ fun X hX => ?_
            have HX := Lib.hid (HBq.out.trans (hX.mono HBq.out.size))
            clear k0 k1 k2 hN hX q0
            go_wp2_with fail
            exact ⟨⟨k + 1, by omega, by go_num, HX⟩, by simp [RowKit.intOf]; omega⟩
        · obtain rfl : k = len + 70 := by omega
          go_wp2_with fail
          exact ⟨⟨j + 1, by omega, by go_num, HBw⟩, by simp [RowKit.intOf]; omega⟩
    · obtain rfl : j = es.length := by omega
      go_wp2_with fail
      go_ret
      exact ⟨rfl, HB0.out⟩
theorem info_hdInt : (Tryz.prog.info? 93).map (fun i => (i.zero, i.size, i.bytes)) = some (some (.agg #[.slice none 0 0, .slice none 0 0, .int .i64 0]), 3, 56) := by kernel_rfl
set_option maxHeartbeats 4000000 in
theorem keepInt_any (g Bo cnt : Nat) (cs : Array Value) (es : List BkE) (SA : Option Addr) (sc : Nat) (A : Option Addr) (len cap : Nat) (w : World) (hg : w.heap[g]? = some (.cells cs 46 (0, 0))) (hz : cs.size = 12) (h0 : cs[0]? = some (.int .i64 cnt)) (hF : cs[2]? = some (.slice SA es.length sc))
    (hs : TkAt BkE.cells 3 93 w Bo SA es.length sc es) (hB : Bo ≤ w.heap.size) (hl : es.length ≤ 2199023255552) (hc : cnt ≤ 1152921504606846976) :
    Calls Tryz.prog 70 #[.pointer (some ⟨g, 0, none⟩), .slice A len cap] w fun e w' => e = .returned (.tuple #[]) ∧ ∃ SA' sc', w'.heap[g]? = some (.cells ((cs.setIfInBounds 0 (.int .i64 ((cnt + 1 : Nat) : Int))).setIfInBounds 2 (.slice SA' (es.length + 1) sc')) 46 (0, 0)) ∧
      TkAt BkE.cells 3 93 w' Bo SA' (es.length + 1) sc' (es ++ [⟨A, len, cap, cnt + 1, none, 0, 0⟩]) ∧ Kept w w' (fun b => b = g ∨ ∃ a, SA = some a ∧ b = a.block) ∧ FromA w SA SA' := by
  obtain ⟨i0, hi, hz0, hz1, hz2⟩ := info_parts info_hdInt
  have Hg := Lib.hid hg
  have Hs := Lib.hid hs
  have H0 := Lib.hid h0
  have HF := Lib.hid hF
  have Hz := Lib.hid hz
  have c0 : w.cell? ⟨g, 0, none⟩ = some (.int .i64 cnt) := (blk_cell hg 0).trans h0
  have f0 := blk_frozen hg 0
  have e1 : IntKind.i64.wrap ((cnt : Int) + 1) = (cnt : Int) + 1 := IntWalk.i64_in _ (by omega)
  have E1 := Lib.hid e1
  clear hg hs h0 hF hz e1
  go_enter Tryz.func70, Tryz.ntmps70
  go_upto_region 1 with fail
  obtain ⟨W, hW⟩ : ∃ W, W = w.setCell ⟨g, 0, none⟩ (.int .i64 ((cnt : Int) + 1)) := ⟨_, rfl⟩
  rw [← hW]
  have kW : Kept w W (fun b => b = g) := hW ▸ Kept.setCell (X := fun b => b = g) (Kept.refl _ _) (p := ⟨g, 0, none⟩) (Or.inl rfl) _
  have hGW : W.heap[g]? = some (.cells (cs.setIfInBounds 0 (.int .i64 ((cnt : Int) + 1))) 46 (0, 0)) := hW ▸ blk_set Hg.out 0 _
  have KW := Lib.hid kW
  have HGW := Lib.hid hGW
  have hcF : (cs.setIfInBounds 0 (.int .i64 ((cnt : Int) + 1)))[2]? = some (.slice SA es.length sc) := by rw [Array.getElem?_setIfInBounds_ne (by omega)]; exact HF.out
  have HcF := Lib.hid hcF
  have HsW : Hid (TkAt BkE.cells 3 93 W Bo SA es.length sc es) := Lib.hid (Hs.out.kept kW (fun a ea e => by
    obtain ⟨c1, h1⟩ := Hs.out.ty ea
    exact blk_ne2 Hg.out h1 (by decide) e.symm))
  have hBW : Bo ≤ W.heap.size := Nat.le_trans hB kW.size
  clear hW c0 f0 kW hcF
  have d0 : W.cell? ⟨g, 0, none⟩ = some (.int .i64 ((cnt : Int) + 1)) := (blk_cell hGW 0).trans (by rw [Array.getElem?_setIfInBounds_self_of_lt (by rw [Hz.out]; omega)])
  have d2 : W.cell? ⟨g, 2, none⟩ = some (.slice SA es.length sc) := (blk_cell hGW 2).trans HcF.out
  have hgl : g < W.heap.size := blk_lt hGW
  have HA : Hid (∀ (w6 : World), Kept W w6 (fun b => ∃ a, SA = some a ∧ b = a.block) → w6.cell? ⟨g, 2, none⟩ = some (.slice SA es.length sc) ∧ w6.frozen? ⟨g, 2, none⟩ = false ∧ w6.heap[g]? = some (.cells (cs.setIfInBounds 0 (.int .i64 ((cnt : Int) + 1))) 46 (0, 0))) := Lib.hid (fun w6 k => by
    have hx6 := k.blk HGW.out (blk_lt HGW.out) (fun ⟨a, e, e2⟩ => by
      obtain ⟨c1, hc⟩ := HsW.out.ty e
      exact blk_ne2 HGW.out hc (by decide) e2)
    exact ⟨(blk_cell hx6 2).trans HcF.out, blk_frozen hx6 2, hx6⟩)
  clear hGW
  go_upto_region 1 with fail
  go_region_law (first | (refine step_push rfl (.tmp 15) (.tmp 22) 35 rfl 93 i0 _ 3 56 Tryz.underlying35 hi hz0 hz1 hz2 rfl (by decide) len_bk one_bk Bo SA es.length sc es rfl (by first | exact HsW.out.below (bel_alloc (bel_drew (Below.refl _ _)) _)) (by simp; omega) ⟨A, len, cap, cnt + 1, none, 0, 0⟩ ⟨W.heap.size, 0, none⟩ 1 rfl (cells_nw _ (BkE.cells ⟨A, len, cap, cnt + 1, none, 0, 0⟩) _) (by simp only [maxLen]; omega) (by omega) ?_; intro SA' sc' w6 ht6 hk6 hf6; have hk7 := (Kept.of_below (X := fun b => ∃ a, SA = some a ∧ b = a.block) (bel_alloc (bel_drew (Below.refl W.heap.size W)) _)).trans hk6; obtain ⟨y2, y3, y4⟩ := HA.out w6 hk7; have HT6 := Lib.hid ht6; have HK6 := Lib.hid hk7; have HY4 := Lib.hid y4; have HF6 : Hid (FromA W SA SA') := Lib.hid (fun a e => (hf6 a e).imp id (fun h => by simp at h; omega)); clear ht6 hk6 hf6 hk7 y4))
  all_goals
    go_wp2_with fail
    refine bodyPost_end (results_none rfl _ _ _) rfl ⟨rfl, SA', sc', ?_, ?_, ?_, fun a e => (HF6.out a e).imp id (fun h => Nat.le_trans KW.out.size h)⟩
    · have := blk_set HY4.out 2 (.slice SA' (es.length + 1) sc')
      simpa using this
    · refine HT6.out.kept (Kept.setCell (X := fun b => b = g) (Kept.refl _ _) (p := ⟨g, 2, none⟩) (Or.inl rfl) _) (fun a ea e => ?_)
      obtain ⟨c1, h1⟩ := HT6.out.ty ea
      exact blk_ne2 HY4.out h1 (by decide) e.symm
    · exact ((KW.out.mono fun b e => Or.inl e).trans (HK6.out.mono fun b e => Or.inr e)).setCell (p := ⟨g, 2, none⟩) (Or.inl (Or.inl rfl)) _
end Go.Proofs.YtfafhfjmoijaeaaGreatDoor

/- The document's story: an owner's step. (Printed by gen_ru4.py.) -/
import Derived.Test.YtcjmppjppmiggaaGreatRu3
namespace Go.Proofs.YtcjmppjppmiggaaGreat
open Go.RowKit
set_option linter.unusedVariables false
set_option linter.unusedSimpArgs false

open Go.Maps
set_option maxRecDepth 100000
set_option maxHeartbeats 4000000 in
theorem r21owner_any (φ : Nat→Nat) (Bo : Nat) (c : Cfg) (rs rs' : List RTx) (by_ : List Int) (M k : Nat) (a : RA) (x : RG) (s : TS) (w : World) (i : Nat) (h0 : RsAt w φ Bo c rs rs' by_ a x s) (hi : SInv c rs rs' M k s) (hc : c.ok = true) (hk : k≤4398046511104) (hbd : x.bd≤4398046511104) (hi1 : (i : Int) < c.shards) :
    Calls Tryz.prog 51 #[ptrV a.g,.int .i64 i] w (RTaskEnd w φ Bo c rs rs' by_ a x.bd (s.owner i)) := by
 obtain ⟨φ0,hφ0⟩ : ∃ φ0 : Nat→Nat,φ0 = fun b => if b < w.heap.size then φ b else 50 := ⟨_,rfl⟩
 have hφ1 : ∀ b,b < w.heap.size→φ0 b = φ b := fun b hb => by rw [hφ0]; simp only [if_pos hb]
 have hφ2 : ∀ b,w.heap.size≤b→φ0 b = 50 := fun b hb => by rw [hφ0]; simp only [if_neg (show ¬ b < w.heap.size by omega)]
 have h : RsAt w φ0 Bo c rs rs' by_ a x s := h0.relabel hφ1
 have Hφ1 := Lib.hid hφ1
 have Hφ2 := Lib.hid hφ2
 clear hφ0 hφ1 hφ2 h0
 have H := Lib.hid h
 have HI := Lib.hid hi
 obtain ⟨W0,hW0⟩ : ∃ W0,W0 = w.alloc (.cells #[.int .i64 0,.int .u8 0,.int .i64 0,.int .i64 0,.int .i64 0,.int .i64 0] 51) := ⟨_,rfl⟩
 have hb0 : Below w.heap.size w W0 := hW0 ▸ bel_alloc (Below.refl _ _) _
 have hz0 : W0.heap.size = w.heap.size+1 := by rw [hW0]; simp
 have HE0 : Hid (W0.heap[w.heap.size]? = some evBox) := Lib.hid (by rw [hW0]; exact blk_new _ _)
 have HS0 := Lib.hid (h.below hb0 (fun h => h) (fun h => h))
 have HB0 : Hid (Below Bo w W0) := Lib.hid (hb0.mono h.lo)
 have HZ0 := Lib.hid hz0
 have HW0 := Lib.hid hW0
 clear h hi hb0 hz0 hW0
 have hL : 1≤c.lanes∧c.lanes≤16∧1≤c.shards∧c.shards≤16 := by simp [Cfg.ok,inB] at hc; omega
 obtain ⟨L,hL1⟩ : ∃ L : Nat,c.lanes = L := ⟨c.lanes.toNat,by omega⟩
 obtain ⟨S,hS1⟩ : ∃ S : Nat,c.shards = S := ⟨c.shards.toNat,by omega⟩
 have hst := H.out.st (fun h => h)
 unfold rstoryC at hst
 rw [hL1,hS1] at hst hL
 simp only [Int.toNat_natCast] at hst
 rw [hS1] at hi1
 obtain ⟨hqb,hql⟩ := H.out.qb (fun h => h)
 have hsl : s.qs.length = S := by have := HI.out.ql; omega
 obtain ⟨q,hq⟩ : ∃ q,s.qs[i]? = some q := ⟨_,List.getElem?_eq_getElem (by omega)⟩
 obtain ⟨⟨Aq,nq,cq⟩,hl⟩ : ∃ l,x.QA[i]? = some l := ⟨_,List.getElem?_eq_getElem (by omega)⟩
 obtain ⟨hT,hA⟩ := H.out.qw i q _ hq hl (fun h => h)
 simp only at hT hA
 have hlen := hT.len
 have hqc : (x.QA.map SL.v).toArray[i]? = some (.slice Aq nq cq) := by simp [hl,SL.v]
 have c13 : ∀ o,(w.alloc o).cell? ⟨a.g,13,none⟩ = some (.slice (some ⟨a.qb,0,none⟩) S S) := fun o => blk_cell ((Below.heap_alloc _ _ _ (blk_lt hst)).trans hst) 13
 have cq0 : ∀ o,(w.alloc o).cell? ⟨a.qb,i,none⟩ = some (.slice Aq nq cq) := fun o => (blk_cell ((Below.heap_alloc _ _ _ (blk_lt hqb)).trans hqb) i).trans hqc
 have hiL : (i : Int) < (S : Int) := by omega
 obtain ⟨R,hR⟩ : ∃ R,R = s.owner i := ⟨_,rfl⟩
 rw [← hR]
 unfold TS.owner at hR
 unfold ptrV
 rw [hq] at hR
 have HT := Lib.hid hT
 have HA := Lib.hid hA
 have Hq := Lib.hid hq
 have Hl := Lib.hid hl
 have HL := Lib.hid (And.intro hL1 hS1)
 clear hc hst hqb hql hsl hT hA hq hl hL1 hS1 hqc
 cases q with
 | nil =>
   have hn0 : nq = 0 := by rw [← hlen]; rfl
   subst hn0
   have HR : Hid (R = ((0,ev0,false),s)) := Lib.hid hR
   clear hR
   go_enter Tryz.func51,Tryz.ntmps51
   go_wp2_with fail
   refine bodyPost_ret (v := .tuple #[ev0.v,.bool false]) (by simp [results,Tryz.results51,go_sem,Ev.v,ev0]) rfl ⟨0,0,0,0,by rw [HR.out]; rfl,⟨by rw [← HW0.out]; exact HB0.out,by rw [← HW0.out]; exact HS0.out.markOk Hφ1.out H.out.fr.1⟩,fun e => by rw [HR.out] at e; cases e⟩
 | cons p r =>
   have hnq : nq = r.length+1 := by rw [← hlen]; rfl
   subst hnq
   obtain ⟨b,off,y,rfl,hbl,hx,hc⟩ := HT.out.row.at_ (i := 0) (by omega)
   have hy : y = p := by simp at hx; exact hx.symm
   subst hy
   have x0 : ∀ o,(w.alloc o).cell? ⟨b,off,none⟩ = some (.int .i64 y.1) := fun o => by
    have := hc 0 _ rfl
    simp only [Nat.zero_mul,Nat.add_zero] at this
    exact (((Below.refl w.heap.size w).alloc (Nat.le_refl _) o).cell (p := ⟨b,off,none⟩) hbl).trans this
   have x1 : ∀ o,(w.alloc o).cell? ⟨b,off+1,none⟩ = some (.int .i64 y.2) := fun o => by
    have := hc 1 _ rfl
    simp only [Nat.zero_mul,Nat.add_zero] at this
    exact (((Below.refl w.heap.size w).alloc (Nat.le_refl _) o).cell (p := ⟨b,off+1,none⟩) hbl).trans this
   clear hx hc
   obtain ⟨y1,y2⟩ := y
   have HR0 := Lib.hid hR
   clear hR
   have HP := Lib.hid HT.out.pop
   have hcap := HT.out.le
   obtain ⟨W1,hW1⟩ : ∃ W1,W1 = W0.alloc (.cells #[.int .i64 y1,.int .i64 y2] 146) := ⟨_,rfl⟩
   have hb1 : Below W0.heap.size W0 W1 := hW1 ▸ (Below.refl _ _).alloc (Nat.le_refl _) _
   have hz0 : W0.heap.size = w.heap.size+1 := HZ0.out
   have HE1 : Hid (W1.heap[w.heap.size]? = some evBox) := Lib.hid ((hb1.block _ (blk_lt HE0.out)).trans HE0.out)
   have HA1 : Hid (W1.heap[w.heap.size+1]? = some (.cells #[.int .i64 y1,.int .i64 y2] 146 (0,0))) := Lib.hid (by rw [hW1,← hz0]; exact blk_new _ _)
   have HS1 := Lib.hid (HS0.out.below hb1 (fun h => h) (fun h => h))
   have HB1 : Hid (Below Bo w W1) := Lib.hid (HB0.out.trans (hb1.mono HS0.out.lo))
   have HBw1 : Hid (Below w.heap.size w W1) := Lib.hid ((show Below w.heap.size w W0 by rw [HW0.out]; exact bel_alloc (Below.refl _ _) _).trans (hb1.mono (by omega)))
   have d13 : W1.cell? ⟨a.g,13,none⟩ = some (.slice (some ⟨a.qb,0,none⟩) S S) := by
    have := HS1.out.st (fun h => h)
    unfold rstoryC at this
    rw [HL.out.1,HL.out.2] at this
    simp only [Int.toNat_natCast] at this
    exact blk_cell this 13
   have dq : W1.cell? ⟨a.qb,i,none⟩ = some (.slice (some ⟨b,off,none⟩) (r.length+1) cq) := (blk_cell (HS1.out.qb (fun h => h)).1 i).trans (by simp [Hl.out,SL.v])
   have df : W1.frozen? ⟨a.qb,i,none⟩ = false := blk_frozen (HS1.out.qb (fun h => h)).1 i
   have hw1s : a.g < W1.heap.size∧a.qb < W1.heap.size := ⟨HS1.out.fst.2.2,HS1.out.fqb.2.2⟩
   have e13 : ∀ q : Ext W1,q.X.cell? ⟨a.g,13,none⟩ = some (.slice (some ⟨a.qb,0,none⟩) S S) := fun q => (q.h.cell (p := ⟨a.g,13,none⟩) hw1s.1).trans d13
   have eq : ∀ q : Ext W1,q.X.cell? ⟨a.qb,i,none⟩ = some (.slice (some ⟨b,off,none⟩) (r.length+1) cq) := fun q => (q.h.cell (p := ⟨a.qb,i,none⟩) hw1s.2).trans dq
   have HW1 := Lib.hid hW1
   rw [HW0.out] at hW1
   clear hb1 hz0
   go_enter Tryz.func51,Tryz.ntmps51
   go_wp2_with fail
   rw [← hW1]
   clear hW1 c13 cq0 x0 x1
   have hr1 : (1 : Int)≤(r.length : Int)+1 := by omega
   by_cases hc1 : cq = 1
   · have hr0 : Hid (r = []) := Lib.hid (List.eq_nil_of_length_eq_zero (by omega))
     obtain ⟨A1,n1,c1,hA1,hn1,hcc⟩ : ∃ (A1 : Option Addr) (n1 c1 : Nat),A1 = some ⟨b,off,none⟩∧n1 = r.length∧c1 = 0 := ⟨_,_,_,rfl,rfl,rfl⟩
     have HT1 : Hid (TkAt askC 2 146 w Bo A1 n1 c1 r) := Lib.hid (by rw [hA1,hn1,hcc]; have := HP.out; rw [if_pos hc1,hc1] at this; exact this)
     have HAq : Hid (At φ0 (100+i) A1) := Lib.hid (by rw [hA1]; exact HA.out)
     have HX := Lib.hid (And.intro hA1 (And.intro hn1 hcc))
     clear hA1 hn1 hcc
     refine wp_region_ext_tail 14 (by kernel_rfl) (by kernel_rfl) ?_
     simp only [List.take_succ_cons,List.take_zero,List.drop_succ_cons,List.drop_zero]
     repeat (go_big_quiet_step (fail))
     refine Ext.tail fun X hX => ?_
     have hsl : Value.slice (some ⟨b,off,none⟩) r.length 0 = Value.slice A1 n1 c1 := by rw [HX.out.1,HX.out.2.1,HX.out.2.2]
     rw [hsl]
     have dX : X.cell? ⟨a.qb,i,none⟩ = some (.slice (some ⟨b,off,none⟩) (r.length+1) cq) := (hX.cell (p := ⟨a.qb,i,none⟩) hw1s.2).trans dq
     have dfX : X.frozen? ⟨a.qb,i,none⟩ = false := blk_frozen ((hX.block _ hw1s.2).trans (HS1.out.qb (fun h => h)).1) i
     obtain ⟨W2,hW2⟩ : ∃ W2,W2 = X.setCell ⟨a.qb,i,none⟩ (.slice A1 n1 c1) := ⟨_,rfl⟩
     have hTw : TkAt askC 2 146 X Bo A1 n1 c1 r := (HT1.out.below HBw1.out).below hX
     have HS2 := Lib.hid (show RsAt W2 φ0 Bo c rs rs' by_ a { x with QA := x.QA.set i ⟨A1,n1,c1⟩ } { s with qs := s.qs.set i r } from hW2 ▸ (HS1.out.below hX (fun h => h) (fun h => h)).setQ (fun _ h => h.elim) hTw HAq.out)
     have hk2 : Kept W1 W2 (fun q => q = a.qb) := hW2 ▸ (Kept.of_below hX).trans ((Kept.refl X (fun q => q = a.qb)).setCell (p := ⟨a.qb,i,none⟩) (Or.inl rfl) _)
     clear e13 eq hX hsl df dq
     have HB2 : Hid (Below Bo w W2) := Lib.hid (HB1.out.trans (hk2.below HS1.out.lo (fun q e => by rw [e]; exact HS1.out.fqb.2.1)))
     have HE2 : Hid (W2.heap[w.heap.size]? = some evBox) := Lib.hid (hk2.blk HE1.out (blk_lt HE1.out) (by have := H.out.fqb.2.2; omega))
     have HA2 : Hid (W2.heap[w.heap.size+1]? = some (.cells #[.int .i64 y1,.int .i64 y2] 146 (0,0))) := Lib.hid (hk2.blk HA1.out (blk_lt HA1.out) (by have := H.out.fqb.2.2; omega))
     have b0 : (X.setCell ⟨a.qb,i,none⟩ (.slice A1 n1 c1)).cell? ⟨w.heap.size+1,0,none⟩ = some (.int .i64 y1) := by rw [← hW2]; exact blk_cell HA2.out 0
     have hqw := (HI.out.qw _ (List.mem_of_getElem? Hq.out)).2 (y1,y2) (by simp)
     simp only [HL.out.1] at hqw
     clear hk2 hTw d13
     by_cases hy : 0 < y1
     · have hyL : y1≤(L : Int) := by rcases hqw with h | h; exact h.2; omega
       obtain ⟨j,hj⟩ : ∃ j : Nat,y1 = (j : Int)+1 := ⟨(y1 - 1).toNat,by omega⟩
       subst hj
       have HR : Hid (R = ((7,⟨0,0,y2,i,0,0⟩,true),{ s with qs := s.qs.set i r,lanes := s.lanes.modify j fun h => { h with ack := h.ack+1 } })) := Lib.hid (by
        have := HR0.out
        simp only [if_pos hy] at this
        rw [this,show ((j : Int)+1 - 1).toNat = j by omega])
       have hjL : (j : Int) < (L : Int) := by omega
       have hj0 : (0 : Int)≤(j : Int) := by omega
       have hll := HI.out.ll
       obtain ⟨hh,hhj⟩ : ∃ hh,s.lanes[j]? = some hh := ⟨_,List.getElem?_eq_getElem (by rw [HL.out.1] at hll; omega)⟩
       obtain ⟨ll,hlj⟩ : ∃ ll,x.LA[j]? = some ll := ⟨_,List.getElem?_eq_getElem (by have := (H.out.ln (fun h => h)).2; rw [HL.out.1] at hll; omega)⟩
       have hack := (HI.out.lw hh (List.mem_of_getElem? hhj)).2.2.1
       have d12 : W2.cell? ⟨a.g,12,none⟩ = some (.slice (some ⟨a.ln,0,none⟩) L L) := by
        have := HS2.out.st (fun h => h)
        unfold rstoryC at this
        rw [HL.out.1,HL.out.2] at this
        simp only [Int.toNat_natCast] at this
        exact blk_cell this 12
       obtain ⟨dl,dfl⟩ := HS2.out.lcell (i := j) hhj hlj 4 (.int .i64 hh.ack) rfl
       have hw1 : IntKind.i64.wrap ((j : Int)+1 - 1) = j := by rw [IntKind.wrap_i64]; omega
       have hw2 : IntKind.i64.wrap ((hh.ack : Int)+1) = hh.ack+1 := by rw [IntKind.wrap_i64]; omega
       have e12 : ∀ q : Ext W2,q.X.cell? ⟨a.g,12,none⟩ = some (.slice (some ⟨a.ln,0,none⟩) L L) := fun q => (q.h.cell (p := ⟨a.g,12,none⟩) HS2.out.fst.2.2).trans d12
       have el : ∀ q : Ext W2,q.X.cell? ⟨a.ln,j * 5+4,none⟩ = some (.int .i64 hh.ack) := fun q => (q.h.cell (p := ⟨a.ln,j * 5+4,none⟩) HS2.out.fln.2.2).trans dl
       have eb : ∀ q : Ext W2,q.X.cell? ⟨w.heap.size+1,0,none⟩ = some (.int .i64 ((j : Int)+1)) := fun q => (q.h.cell (p := ⟨w.heap.size+1,0,none⟩) (blk_lt HA2.out)).trans (blk_cell HA2.out 0)
       go_wp2_with fail
       rw [← hW2]
       clear hW2 b0 dX dfX
       refine wp_region_ext_tail 13 (by kernel_rfl) (by kernel_rfl) ?_
       simp only [List.take_succ_cons,List.take_zero,List.drop_succ_cons,List.drop_zero]
       repeat (go_big_quiet_step (fail))
       refine Ext.tail fun Y hY => ?_
       have dY : Y.cell? ⟨a.ln,j * 5+4,none⟩ = some (.int .i64 hh.ack) := el ⟨Y,hY⟩
       have hSY := HS2.out.below hY (fun h => h) (fun h => h)
       have fY : Y.frozen? ⟨a.ln,j * 5+4,none⟩ = false := (hSY.lcell (i := j) hhj hlj 4 (.int .i64 hh.ack) rfl).2
       obtain ⟨W3,hW3⟩ : ∃ W3,W3 = Y.setCell ⟨a.ln,j * 5+4,none⟩ (.int .i64 ((hh.ack : Int)+1)) := ⟨_,rfl⟩
       have hmd : s.lanes.modify j (fun h => { h with ack := h.ack+1 }) = s.lanes.set j { hh with ack := hh.ack+1 } := modify_set hhj
       obtain ⟨hS3,hk3⟩ := hSY.putLane (i := j) hhj hlj 4 (.int .i64 ((hh.ack : Int)+1)) (h' := { hh with ack := hh.ack+1 }) (l' := ll) (by omega) (by simp [rlaneC]) (fun hn => hSY.lw j hh ll hhj hlj hn)
       rw [← hW3] at hS3 hk3
       have HS3 := Lib.hid hS3
       have hk4 : Kept W2 W3 (fun q => q = a.ln) := (Kept.of_below hY).trans hk3
       have HB3 : Hid (Below Bo w W3) := Lib.hid (HB2.out.trans (hk4.below HS2.out.lo (fun q e => by rw [e]; exact H.out.fln.2.1)))
       have HE3 : Hid (W3.heap[w.heap.size]? = some evBox) := Lib.hid (hk4.blk HE2.out (blk_lt HE2.out) (by have := H.out.fln.2.2; omega))
       have HA3 : Hid (W3.heap[w.heap.size+1]? = some (.cells #[.int .i64 ((j : Int)+1),.int .i64 y2] 146 (0,0))) := Lib.hid (hk4.blk HA2.out (blk_lt HA2.out) (by have := H.out.fln.2.2; omega))
       rw [← hmd] at HS3
       have b1 := blk_cell HA3.out 1
       clear hS3 hSY hk3 hk4 hmd e12 el eb d12 dl dfl hY
       have hE5 := HE3.out
       have g0 := blk_cell hE5 0
       have g1 := blk_cell hE5 1
       have g2 := blk_cell hE5 2
       have g3 := blk_cell hE5 3
       have g4 := blk_cell hE5 4
       have g5 := blk_cell hE5 5
       have k0 := blk_frozen hE5 0
       have k1 := blk_frozen hE5 1
       have k2 := blk_frozen hE5 2
       have k3 := blk_frozen hE5 3
       have k4 := blk_frozen hE5 4
       have k5 := blk_frozen hE5 5
       clear hE5
       rw [hW3] at g0 k0 g1 k1 g2 k2 g3 k3 g4 k4 g5 k5 b1
       go_wp2_with fail
       rw [← hW3]
       clear hW3
       obtain ⟨X0,hX0⟩ : ∃ X0,X0 = ((((((W3.setCell ⟨w.heap.size,0,none⟩ (.int .i64 0)).setCell ⟨w.heap.size,1,none⟩ (.int .u8 7)).setCell ⟨w.heap.size,2,none⟩ (.int .i64 y2)).setCell ⟨w.heap.size,3,none⟩ (.int .i64 i)).setCell ⟨w.heap.size,4,none⟩ (.int .i64 0)).setCell ⟨w.heap.size,5,none⟩ (.int .i64 0)) := ⟨_,rfl⟩
       rw [← hX0]
       obtain ⟨hXk,r0,r1,r2,r3,r4,r5⟩ := ev_box HE3.out rfl _ _ _ _ _ _ hX0
       have hBX : Below Bo w X0 := HB3.out.trans (hXk.below HS3.out.lo (fun q e => by rw [e]; have := H.out.lo; omega))
       have hSX := HS3.out.junk (hXk.mono fun q e => by rw [e]; exact Hφ2.out _ (by omega))
       clear hX0
       refine bodyPost_ret (v := .tuple #[.agg #[.int .i64 0,.int .u8 7,.int .i64 y2,.int .i64 i,.int .i64 0,.int .i64 0],.bool true]) (by simp [results,Tryz.results51,go_sem,r0,r1,r2,r3,r4,r5]) rfl ⟨7,y2,i,0,by rw [HR.out],⟨hBX,hSX.markOk Hφ1.out H.out.fr.1⟩,fun _ => by rw [HR.out]; exact ⟨rfl,rfl,rfl,rfl,φ0,_,Hφ1.out,hSX,by first | exact Nat.le_succ _ | exact Nat.le_refl _⟩⟩
     · have hyn : y1 < 0∧(mget s.calls y1).isSome = true := by rcases hqw with h | h; exact absurd h.1 hy; exact h
       obtain ⟨v,hv⟩ := Option.isSome_iff_exists.1 hyn.2
       have HR : Hid (R = ((7,⟨0,0,y2,i,0,0⟩,true),{ s with qs := s.qs.set i r,calls := mput s.calls y1 (v.1 - 1,v.2) })) := Lib.hid (by
        have := HR0.out
        simp only [if_neg hy,hv] at this
        exact this)
       obtain ⟨hTC,hAC,hFC⟩ := HS2.out.calls (fun h => h)
       simp only at hTC hAC hFC
       have HTC := Lib.hid hTC
       have HAC := Lib.hid hAC
       have hFit := hFC.upd (f := y1) (g := fun r => { r with served := r.served+1 }) (v' := (v.1 - 1,v.2)) (k' := x.bd+1) (fun _ => rfl) hv (fun r hr hn e => by
        have e1 := congrArg Prod.fst e
        have e2 := congrArg Prod.snd e
        simp only at e1 e2
        simp only [Prod.mk.injEq]
        exact ⟨by push_cast; omega,e2⟩) (by omega) (fun r hr hn => by have := hFC.small r hr; simp only; omega)
       have HFit := Lib.hid hFit
       have Hsm := Lib.hid hFC.small
       have hCl := hTC.len
       have hCn : x.C.n≤4398046511104 := by have := hFC.len; omega
       clear hTC hAC hFC hFit hv hqw hyn
       go_wp2_with fail
       rw [← hW2]
       clear hW2 b0 dX dfX
       go_loopw [7] (fun iv wr => ∃ j : Nat,j≤x.C.n∧iv = .int .i64 j∧Hid (Kept W2 wr (fun q => φ0 q = 4))∧Hid (TkAt RC.cells 4 142 wr Bo x.C.A x.C.n x.C.c ((x.cs.take j).map (updC y1 fun r => { r with served := r.served+1 }) ++ x.cs.drop j))) (fun iv _ => x.C.n - (RowKit.intOf iv).toNat)
       case atStart => exact ⟨0,Nat.zero_le _,rfl,Lib.hid (Kept.refl _ _),Lib.hid (by simpa using HTC.out)⟩
       case round =>
        obtain ⟨j,hj,rfl,HKj,HTj⟩ := hrel
        have hbg : a.g < W2.heap.size := HS2.out.fst.2.2
        have c14 : wr.cell? ⟨a.g,14,none⟩ = some (.slice x.C.A x.C.n x.C.c) := (HKj.out.cell hbg (fun h => by have := HS2.out.fst.1; omega)).trans (blk_cell (HS2.out.st (fun h => h)) 14)
        have bx : wr.heap[w.heap.size+1]? = some (.cells #[.int .i64 y1,.int .i64 y2] 146 (0,0)) := HKj.out.blk HA2.out (blk_lt HA2.out) (fun h => by rw [Hφ2.out _ (by omega)] at h; omega)
        have b0 := blk_cell bx 0
        have b1 := blk_cell bx 1
        by_cases hlt : j < x.C.n
        · obtain ⟨bc,oc,q,eA,hbl,hx,hxc⟩ := HTj.out.row.at_ hlt
          have hq : x.cs[j]? = some q := by
           rw [List.getElem?_append_right (by simp; omega)] at hx
           simp only [List.length_map,List.length_take] at hx
           rw [show j - min j x.cs.length = 0 by omega,List.getElem?_drop,Nat.add_zero] at hx
           exact hx
          have q0 : wr.cell? ⟨bc,oc+j * 4,none⟩ = some (.int .i64 q.num) := by simpa using hxc 0 _ rfl
          have q2 : wr.cell? ⟨bc,oc+j * 4+2,none⟩ = some (.int .i64 q.served) := hxc 2 _ rfl
          have hsv := (Hsm.out q (List.mem_of_getElem? hq)).2
          have hj0 : (0 : Int)≤(j : Int) := by omega
          have hjn : (j : Int) < (x.C.n : Int) := by omega
          have hw3 : IntKind.i64.wrap ((q.served : Int)+1) = q.served+1 := by rw [IntKind.wrap_i64]; omega
          have hsn : ((x.cs.take (j+1)).map (updC y1 fun r => { r with served := r.served+1 }) ++ x.cs.drop (j+1)) = ((x.cs.take j).map (updC y1 fun r => { r with served := r.served+1 }) ++ x.cs.drop j).set j (updC y1 (fun r => { r with served := r.served+1 }) q) := by
           obtain ⟨h1,h2⟩ := List.getElem?_eq_some_iff.1 hq
           rw [List.take_add_one,hq,Option.toList_some,List.map_append,List.map_singleton,List.append_assoc,List.set_append_right _ _ (by simp; omega)]
           congr 1
           simp only [List.length_map,List.length_take]
           rw [show j - min j x.cs.length = 0 by omega,List.drop_eq_getElem_cons h1,List.set_cons_zero]
           rfl
          have Hsn := Lib.hid hsn
          have HJ1 : Hid (j+1≤x.C.n) := Lib.hid hlt
          have Hx := Lib.hid hx
          rw [eA] at c14
          have fz : wr.frozen? ⟨bc,oc+j * 4+2,none⟩ = false := by
           obtain ⟨cs2,hcs2⟩ := HTj.out.ty eA
           exact blk_frozen hcs2 _
          have HeA := Lib.hid eA
          clear hx hxc hq hsn eA
          by_cases hqy : q.num = y1
          · have hqe : (q.num == y1) = true := by simpa using hqy
            go_wp2_with fail
            go_quiet (fail)
            go_wp2_with fail
            have hbc : φ0 bc = 4 := HAC.out ⟨bc,oc,none⟩ HeA.out
            refine ⟨⟨j+1,HJ1.out,by go_num,Lib.hid ((HKj.out.drewN _).setCell (p := ⟨bc,oc+j * 4+2,none⟩) (Or.inl hbc) _),Lib.hid ?_⟩,by have := HJ1.out; simp [RowKit.intOf]; omega⟩
            have hTd := fun n => HTj.out.below (below_drewN (Below.refl wr.heap.size wr) n)
            rw [HeA.out] at hTd ⊢
            rw [Hsn.out]
            exact (hTd _).setc (j := 2) Hx.out (fun _ => rfl) (by omega) (by unfold updC; rw [if_pos hqy]; simp [RC.cells])
          · have hqe : (q.num == y1) = false := by simpa using hqy
            go_wp2_with fail
            go_quiet (fail)
            go_wp2_with fail
            refine ⟨⟨j+1,HJ1.out,by go_num,Lib.hid (HKj.out.drewN _),Lib.hid ?_⟩,by have := HJ1.out; simp [RowKit.intOf]; omega⟩
            have e1 : updC y1 (fun r => { r with served := r.served+1 }) q = q := by unfold updC; rw [if_neg hqy]
            have e2 := Hsn.out
            rw [e1] at e2
            obtain ⟨t1,t2⟩ := List.getElem?_eq_some_iff.1 Hx.out
            rw [← t2,List.set_getElem_self t1] at e2
            rw [e2]
            exact HTj.out.below (below_drewN (Below.refl _ _) _)
        · obtain rfl : j = x.C.n := by omega
          have hT9 := HTj.out
          rw [List.take_of_length_le (by omega),List.drop_of_length_le (by omega),List.append_nil] at hT9
          have HS3 := Lib.hid (HS2.out.setCalls HKj.out hT9 HFit.out)
          have HB3 : Hid (Below Bo w wr) := Lib.hid (HB2.out.trans (HKj.out.below HS2.out.lo (fun q e => Nat.not_lt.1 fun hlt => by have := HS2.out.zero q hlt; omega)))
          have HE3 : Hid (wr.heap[w.heap.size]? = some evBox) := Lib.hid (HKj.out.blk HE2.out (blk_lt HE2.out) (fun h => by rw [Hφ2.out _ (Nat.le_refl _)] at h; omega))
          clear hT9 hlt
          have hE5 := HE3.out
          have g0 := blk_cell hE5 0
          have g1 := blk_cell hE5 1
          have g2 := blk_cell hE5 2
          have g3 := blk_cell hE5 3
          have g4 := blk_cell hE5 4
          have g5 := blk_cell hE5 5
          have k0 := blk_frozen hE5 0
          have k1 := blk_frozen hE5 1
          have k2 := blk_frozen hE5 2
          have k3 := blk_frozen hE5 3
          have k4 := blk_frozen hE5 4
          have k5 := blk_frozen hE5 5
          clear hE5
          go_wp2_with fail
          obtain ⟨X0,hX0⟩ : ∃ X0,X0 = ((((((wr.setCell ⟨w.heap.size,0,none⟩ (.int .i64 0)).setCell ⟨w.heap.size,1,none⟩ (.int .u8 7)).setCell ⟨w.heap.size,2,none⟩ (.int .i64 y2)).setCell ⟨w.heap.size,3,none⟩ (.int .i64 i)).setCell ⟨w.heap.size,4,none⟩ (.int .i64 0)).setCell ⟨w.heap.size,5,none⟩ (.int .i64 0)) := ⟨_,rfl⟩
          rw [← hX0]
          obtain ⟨hXk,r0,r1,r2,r3,r4,r5⟩ := ev_box HE3.out rfl _ _ _ _ _ _ hX0
          have hBX : Below Bo w X0 := HB3.out.trans (hXk.below HS3.out.lo (fun q e => by rw [e]; have := H.out.lo; omega))
          have hSX := HS3.out.junk (hXk.mono fun q e => by rw [e]; exact Hφ2.out _ (by omega))
          clear hX0
          refine bodyPost_ret (v := .tuple #[.agg #[.int .i64 0,.int .u8 7,.int .i64 y2,.int .i64 i,.int .i64 0,.int .i64 0],.bool true]) (by simp [results,Tryz.results51,go_sem,r0,r1,r2,r3,r4,r5]) rfl ⟨7,y2,i,0,by rw [HR.out],⟨hBX,hSX.markOk Hφ1.out H.out.fr.1⟩,fun _ => by rw [HR.out]; exact ⟨rfl,rfl,rfl,rfl,φ0,_,Hφ1.out,hSX,by first | exact Nat.le_succ _ | exact Nat.le_refl _⟩⟩
   · obtain ⟨A1,n1,c1,hA1,hn1,hcc⟩ : ∃ (A1 : Option Addr) (n1 c1 : Nat),A1 = some ⟨b,off+2,none⟩∧n1 = r.length∧c1 = cq - 1 := ⟨_,_,_,rfl,rfl,rfl⟩
     have HT1 : Hid (TkAt askC 2 146 w Bo A1 n1 c1 r) := Lib.hid (by rw [hA1,hn1,hcc]; have := HP.out; rw [if_neg hc1] at this; simpa [Addr.add_lit] using this)
     have HAq : Hid (At φ0 (100+i) A1) := Lib.hid (by rw [hA1]; intro q e; injection e with e; subst e; have := HA.out ⟨b,off,none⟩ rfl; exact this)
     have HX := Lib.hid (And.intro hA1 (And.intro hn1 hcc))
     clear hA1 hn1 hcc
     refine wp_region_ext_tail 14 (by kernel_rfl) (by kernel_rfl) ?_
     simp only [List.take_succ_cons,List.take_zero,List.drop_succ_cons,List.drop_zero]
     repeat (go_big_quiet_step (fail))
     refine Ext.tail fun X hX => ?_
     have hsl : Value.slice (some ⟨b,off+2,none⟩) r.length (cq - 1) = Value.slice A1 n1 c1 := by rw [HX.out.1,HX.out.2.1,HX.out.2.2]
     rw [hsl]
     have dX : X.cell? ⟨a.qb,i,none⟩ = some (.slice (some ⟨b,off,none⟩) (r.length+1) cq) := (hX.cell (p := ⟨a.qb,i,none⟩) hw1s.2).trans dq
     have dfX : X.frozen? ⟨a.qb,i,none⟩ = false := blk_frozen ((hX.block _ hw1s.2).trans (HS1.out.qb (fun h => h)).1) i
     obtain ⟨W2,hW2⟩ : ∃ W2,W2 = X.setCell ⟨a.qb,i,none⟩ (.slice A1 n1 c1) := ⟨_,rfl⟩
     have hTw : TkAt askC 2 146 X Bo A1 n1 c1 r := (HT1.out.below HBw1.out).below hX
     have HS2 := Lib.hid (show RsAt W2 φ0 Bo c rs rs' by_ a { x with QA := x.QA.set i ⟨A1,n1,c1⟩ } { s with qs := s.qs.set i r } from hW2 ▸ (HS1.out.below hX (fun h => h) (fun h => h)).setQ (fun _ h => h.elim) hTw HAq.out)
     have hk2 : Kept W1 W2 (fun q => q = a.qb) := hW2 ▸ (Kept.of_below hX).trans ((Kept.refl X (fun q => q = a.qb)).setCell (p := ⟨a.qb,i,none⟩) (Or.inl rfl) _)
     clear e13 eq hX hsl df dq
     have HB2 : Hid (Below Bo w W2) := Lib.hid (HB1.out.trans (hk2.below HS1.out.lo (fun q e => by rw [e]; exact HS1.out.fqb.2.1)))
     have HE2 : Hid (W2.heap[w.heap.size]? = some evBox) := Lib.hid (hk2.blk HE1.out (blk_lt HE1.out) (by have := H.out.fqb.2.2; omega))
     have HA2 : Hid (W2.heap[w.heap.size+1]? = some (.cells #[.int .i64 y1,.int .i64 y2] 146 (0,0))) := Lib.hid (hk2.blk HA1.out (blk_lt HA1.out) (by have := H.out.fqb.2.2; omega))
     have b0 : (X.setCell ⟨a.qb,i,none⟩ (.slice A1 n1 c1)).cell? ⟨w.heap.size+1,0,none⟩ = some (.int .i64 y1) := by rw [← hW2]; exact blk_cell HA2.out 0
     have hqw := (HI.out.qw _ (List.mem_of_getElem? Hq.out)).2 (y1,y2) (by simp)
     simp only [HL.out.1] at hqw
     clear hk2 hTw d13
     by_cases hy : 0 < y1
     · have hyL : y1≤(L : Int) := by rcases hqw with h | h; exact h.2; omega
       obtain ⟨j,hj⟩ : ∃ j : Nat,y1 = (j : Int)+1 := ⟨(y1 - 1).toNat,by omega⟩
       subst hj
       have HR : Hid (R = ((7,⟨0,0,y2,i,0,0⟩,true),{ s with qs := s.qs.set i r,lanes := s.lanes.modify j fun h => { h with ack := h.ack+1 } })) := Lib.hid (by
        have := HR0.out
        simp only [if_pos hy] at this
        rw [this,show ((j : Int)+1 - 1).toNat = j by omega])
       have hjL : (j : Int) < (L : Int) := by omega
       have hj0 : (0 : Int)≤(j : Int) := by omega
       have hll := HI.out.ll
       obtain ⟨hh,hhj⟩ : ∃ hh,s.lanes[j]? = some hh := ⟨_,List.getElem?_eq_getElem (by rw [HL.out.1] at hll; omega)⟩
       obtain ⟨ll,hlj⟩ : ∃ ll,x.LA[j]? = some ll := ⟨_,List.getElem?_eq_getElem (by have := (H.out.ln (fun h => h)).2; rw [HL.out.1] at hll; omega)⟩
       have hack := (HI.out.lw hh (List.mem_of_getElem? hhj)).2.2.1
       have d12 : W2.cell? ⟨a.g,12,none⟩ = some (.slice (some ⟨a.ln,0,none⟩) L L) := by
        have := HS2.out.st (fun h => h)
        unfold rstoryC at this
        rw [HL.out.1,HL.out.2] at this
        simp only [Int.toNat_natCast] at this
        exact blk_cell this 12
       obtain ⟨dl,dfl⟩ := HS2.out.lcell (i := j) hhj hlj 4 (.int .i64 hh.ack) rfl
       have hw1 : IntKind.i64.wrap ((j : Int)+1 - 1) = j := by rw [IntKind.wrap_i64]; omega
       have hw2 : IntKind.i64.wrap ((hh.ack : Int)+1) = hh.ack+1 := by rw [IntKind.wrap_i64]; omega
       have e12 : ∀ q : Ext W2,q.X.cell? ⟨a.g,12,none⟩ = some (.slice (some ⟨a.ln,0,none⟩) L L) := fun q => (q.h.cell (p := ⟨a.g,12,none⟩) HS2.out.fst.2.2).trans d12
       have el : ∀ q : Ext W2,q.X.cell? ⟨a.ln,j * 5+4,none⟩ = some (.int .i64 hh.ack) := fun q => (q.h.cell (p := ⟨a.ln,j * 5+4,none⟩) HS2.out.fln.2.2).trans dl
       have eb : ∀ q : Ext W2,q.X.cell? ⟨w.heap.size+1,0,none⟩ = some (.int .i64 ((j : Int)+1)) := fun q => (q.h.cell (p := ⟨w.heap.size+1,0,none⟩) (blk_lt HA2.out)).trans (blk_cell HA2.out 0)
       go_wp2_with fail
       rw [← hW2]
       clear hW2 b0 dX dfX
       refine wp_region_ext_tail 13 (by kernel_rfl) (by kernel_rfl) ?_
       simp only [List.take_succ_cons,List.take_zero,List.drop_succ_cons,List.drop_zero]
       repeat (go_big_quiet_step (fail))
       refine Ext.tail fun Y hY => ?_
       have dY : Y.cell? ⟨a.ln,j * 5+4,none⟩ = some (.int .i64 hh.ack) := el ⟨Y,hY⟩
       have hSY := HS2.out.below hY (fun h => h) (fun h => h)
       have fY : Y.frozen? ⟨a.ln,j * 5+4,none⟩ = false := (hSY.lcell (i := j) hhj hlj 4 (.int .i64 hh.ack) rfl).2
       obtain ⟨W3,hW3⟩ : ∃ W3,W3 = Y.setCell ⟨a.ln,j * 5+4,none⟩ (.int .i64 ((hh.ack : Int)+1)) := ⟨_,rfl⟩
       have hmd : s.lanes.modify j (fun h => { h with ack := h.ack+1 }) = s.lanes.set j { hh with ack := hh.ack+1 } := modify_set hhj
       obtain ⟨hS3,hk3⟩ := hSY.putLane (i := j) hhj hlj 4 (.int .i64 ((hh.ack : Int)+1)) (h' := { hh with ack := hh.ack+1 }) (l' := ll) (by omega) (by simp [rlaneC]) (fun hn => hSY.lw j hh ll hhj hlj hn)
       rw [← hW3] at hS3 hk3
       have HS3 := Lib.hid hS3
       have hk4 : Kept W2 W3 (fun q => q = a.ln) := (Kept.of_below hY).trans hk3
       have HB3 : Hid (Below Bo w W3) := Lib.hid (HB2.out.trans (hk4.below HS2.out.lo (fun q e => by rw [e]; exact H.out.fln.2.1)))
       have HE3 : Hid (W3.heap[w.heap.size]? = some evBox) := Lib.hid (hk4.blk HE2.out (blk_lt HE2.out) (by have := H.out.fln.2.2; omega))
       have HA3 : Hid (W3.heap[w.heap.size+1]? = some (.cells #[.int .i64 ((j : Int)+1),.int .i64 y2] 146 (0,0))) := Lib.hid (hk4.blk HA2.out (blk_lt HA2.out) (by have := H.out.fln.2.2; omega))
       rw [← hmd] at HS3
       have b1 := blk_cell HA3.out 1
       clear hS3 hSY hk3 hk4 hmd e12 el eb d12 dl dfl hY
       have hE5 := HE3.out
       have g0 := blk_cell hE5 0
       have g1 := blk_cell hE5 1
       have g2 := blk_cell hE5 2
       have g3 := blk_cell hE5 3
       have g4 := blk_cell hE5 4
       have g5 := blk_cell hE5 5
       have k0 := blk_frozen hE5 0
       have k1 := blk_frozen hE5 1
       have k2 := blk_frozen hE5 2
       have k3 := blk_frozen hE5 3
       have k4 := blk_frozen hE5 4
       have k5 := blk_frozen hE5 5
       clear hE5
       rw [hW3] at g0 k0 g1 k1 g2 k2 g3 k3 g4 k4 g5 k5 b1
       go_wp2_with fail
       rw [← hW3]
       clear hW3
       obtain ⟨X0,hX0⟩ : ∃ X0,X0 = ((((((W3.setCell ⟨w.heap.size,0,none⟩ (.int .i64 0)).setCell ⟨w.heap.size,1,none⟩ (.int .u8 7)).setCell ⟨w.heap.size,2,none⟩ (.int .i64 y2)).setCell ⟨w.heap.size,3,none⟩ (.int .i64 i)).setCell ⟨w.heap.size,4,none⟩ (.int .i64 0)).setCell ⟨w.heap.size,5,none⟩ (.int .i64 0)) := ⟨_,rfl⟩
       rw [← hX0]
       obtain ⟨hXk,r0,r1,r2,r3,r4,r5⟩ := ev_box HE3.out rfl _ _ _ _ _ _ hX0
       have hBX : Below Bo w X0 := HB3.out.trans (hXk.below HS3.out.lo (fun q e => by rw [e]; have := H.out.lo; omega))
       have hSX := HS3.out.junk (hXk.mono fun q e => by rw [e]; exact Hφ2.out _ (by omega))
       clear hX0
       refine bodyPost_ret (v := .tuple #[.agg #[.int .i64 0,.int .u8 7,.int .i64 y2,.int .i64 i,.int .i64 0,.int .i64 0],.bool true]) (by simp [results,Tryz.results51,go_sem,r0,r1,r2,r3,r4,r5]) rfl ⟨7,y2,i,0,by rw [HR.out],⟨hBX,hSX.markOk Hφ1.out H.out.fr.1⟩,fun _ => by rw [HR.out]; exact ⟨rfl,rfl,rfl,rfl,φ0,_,Hφ1.out,hSX,by first | exact Nat.le_succ _ | exact Nat.le_refl _⟩⟩
     · have hyn : y1 < 0∧(mget s.calls y1).isSome = true := by rcases hqw with h | h; exact absurd h.1 hy; exact h
       obtain ⟨v,hv⟩ := Option.isSome_iff_exists.1 hyn.2
       have HR : Hid (R = ((7,⟨0,0,y2,i,0,0⟩,true),{ s with qs := s.qs.set i r,calls := mput s.calls y1 (v.1 - 1,v.2) })) := Lib.hid (by
        have := HR0.out
        simp only [if_neg hy,hv] at this
        exact this)
       obtain ⟨hTC,hAC,hFC⟩ := HS2.out.calls (fun h => h)
       simp only at hTC hAC hFC
       have HTC := Lib.hid hTC
       have HAC := Lib.hid hAC
       have hFit := hFC.upd (f := y1) (g := fun r => { r with served := r.served+1 }) (v' := (v.1 - 1,v.2)) (k' := x.bd+1) (fun _ => rfl) hv (fun r hr hn e => by
        have e1 := congrArg Prod.fst e
        have e2 := congrArg Prod.snd e
        simp only at e1 e2
        simp only [Prod.mk.injEq]
        exact ⟨by push_cast; omega,e2⟩) (by omega) (fun r hr hn => by have := hFC.small r hr; simp only; omega)
       have HFit := Lib.hid hFit
       have Hsm := Lib.hid hFC.small
       have hCl := hTC.len
       have hCn : x.C.n≤4398046511104 := by have := hFC.len; omega
       clear hTC hAC hFC hFit hv hqw hyn
       go_wp2_with fail
       rw [← hW2]
       clear hW2 b0 dX dfX
       go_loopw [7] (fun iv wr => ∃ j : Nat,j≤x.C.n∧iv = .int .i64 j∧Hid (Kept W2 wr (fun q => φ0 q = 4))∧Hid (TkAt RC.cells 4 142 wr Bo x.C.A x.C.n x.C.c ((x.cs.take j).map (updC y1 fun r => { r with served := r.served+1 }) ++ x.cs.drop j))) (fun iv _ => x.C.n - (RowKit.intOf iv).toNat)
       case atStart => exact ⟨0,Nat.zero_le _,rfl,Lib.hid (Kept.refl _ _),Lib.hid (by simpa using HTC.out)⟩
       case round =>
        obtain ⟨j,hj,rfl,HKj,HTj⟩ := hrel
        have hbg : a.g < W2.heap.size := HS2.out.fst.2.2
        have c14 : wr.cell? ⟨a.g,14,none⟩ = some (.slice x.C.A x.C.n x.C.c) := (HKj.out.cell hbg (fun h => by have := HS2.out.fst.1; omega)).trans (blk_cell (HS2.out.st (fun h => h)) 14)
        have bx : wr.heap[w.heap.size+1]? = some (.cells #[.int .i64 y1,.int .i64 y2] 146 (0,0)) := HKj.out.blk HA2.out (blk_lt HA2.out) (fun h => by rw [Hφ2.out _ (by omega)] at h; omega)
        have b0 := blk_cell bx 0
        have b1 := blk_cell bx 1
        by_cases hlt : j < x.C.n
        · obtain ⟨bc,oc,q,eA,hbl,hx,hxc⟩ := HTj.out.row.at_ hlt
          have hq : x.cs[j]? = some q := by
           rw [List.getElem?_append_right (by simp; omega)] at hx
           simp only [List.length_map,List.length_take] at hx
           rw [show j - min j x.cs.length = 0 by omega,List.getElem?_drop,Nat.add_zero] at hx
           exact hx
          have q0 : wr.cell? ⟨bc,oc+j * 4,none⟩ = some (.int .i64 q.num) := by simpa using hxc 0 _ rfl
          have q2 : wr.cell? ⟨bc,oc+j * 4+2,none⟩ = some (.int .i64 q.served) := hxc 2 _ rfl
          have hsv := (Hsm.out q (List.mem_of_getElem? hq)).2
          have hj0 : (0 : Int)≤(j : Int) := by omega
          have hjn : (j : Int) < (x.C.n : Int) := by omega
          have hw3 : IntKind.i64.wrap ((q.served : Int)+1) = q.served+1 := by rw [IntKind.wrap_i64]; omega
          have hsn : ((x.cs.take (j+1)).map (updC y1 fun r => { r with served := r.served+1 }) ++ x.cs.drop (j+1)) = ((x.cs.take j).map (updC y1 fun r => { r with served := r.served+1 }) ++ x.cs.drop j).set j (updC y1 (fun r => { r with served := r.served+1 }) q) := by
           obtain ⟨h1,h2⟩ := List.getElem?_eq_some_iff.1 hq
           rw [List.take_add_one,hq,Option.toList_some,List.map_append,List.map_singleton,List.append_assoc,List.set_append_right _ _ (by simp; omega)]
           congr 1
           simp only [List.length_map,List.length_take]
           rw [show j - min j x.cs.length = 0 by omega,List.drop_eq_getElem_cons h1,List.set_cons_zero]
           rfl
          have Hsn := Lib.hid hsn
          have HJ1 : Hid (j+1≤x.C.n) := Lib.hid hlt
          have Hx := Lib.hid hx
          rw [eA] at c14
          have fz : wr.frozen? ⟨bc,oc+j * 4+2,none⟩ = false := by
           obtain ⟨cs2,hcs2⟩ := HTj.out.ty eA
           exact blk_frozen hcs2 _
          have HeA := Lib.hid eA
          clear hx hxc hq hsn eA
          by_cases hqy : q.num = y1
          · have hqe : (q.num == y1) = true := by simpa using hqy
            go_wp2_with fail
            go_quiet (fail)
            go_wp2_with fail
            have hbc : φ0 bc = 4 := HAC.out ⟨bc,oc,none⟩ HeA.out
            refine ⟨⟨j+1,HJ1.out,by go_num,Lib.hid ((HKj.out.drewN _).setCell (p := ⟨bc,oc+j * 4+2,none⟩) (Or.inl hbc) _),Lib.hid ?_⟩,by have := HJ1.out; simp [RowKit.intOf]; omega⟩
            have hTd := fun n => HTj.out.below (below_drewN (Below.refl wr.heap.size wr) n)
            rw [HeA.out] at hTd ⊢
            rw [Hsn.out]
            exact (hTd _).setc (j := 2) Hx.out (fun _ => rfl) (by omega) (by unfold updC; rw [if_pos hqy]; simp [RC.cells])
          · have hqe : (q.num == y1) = false := by simpa using hqy
            go_wp2_with fail
            go_quiet (fail)
            go_wp2_with fail
            refine ⟨⟨j+1,HJ1.out,by go_num,Lib.hid (HKj.out.drewN _),Lib.hid ?_⟩,by have := HJ1.out; simp [RowKit.intOf]; omega⟩
            have e1 : updC y1 (fun r => { r with served := r.served+1 }) q = q := by unfold updC; rw [if_neg hqy]
            have e2 := Hsn.out
            rw [e1] at e2
            obtain ⟨t1,t2⟩ := List.getElem?_eq_some_iff.1 Hx.out
            rw [← t2,List.set_getElem_self t1] at e2
            rw [e2]
            exact HTj.out.below (below_drewN (Below.refl _ _) _)
        · obtain rfl : j = x.C.n := by omega
          have hT9 := HTj.out
          rw [List.take_of_length_le (by omega),List.drop_of_length_le (by omega),List.append_nil] at hT9
          have HS3 := Lib.hid (HS2.out.setCalls HKj.out hT9 HFit.out)
          have HB3 : Hid (Below Bo w wr) := Lib.hid (HB2.out.trans (HKj.out.below HS2.out.lo (fun q e => Nat.not_lt.1 fun hlt => by have := HS2.out.zero q hlt; omega)))
          have HE3 : Hid (wr.heap[w.heap.size]? = some evBox) := Lib.hid (HKj.out.blk HE2.out (blk_lt HE2.out) (fun h => by rw [Hφ2.out _ (Nat.le_refl _)] at h; omega))
          clear hT9 hlt
          have hE5 := HE3.out
          have g0 := blk_cell hE5 0
          have g1 := blk_cell hE5 1
          have g2 := blk_cell hE5 2
          have g3 := blk_cell hE5 3
          have g4 := blk_cell hE5 4
          have g5 := blk_cell hE5 5
          have k0 := blk_frozen hE5 0
          have k1 := blk_frozen hE5 1
          have k2 := blk_frozen hE5 2
          have k3 := blk_frozen hE5 3
          have k4 := blk_frozen hE5 4
          have k5 := blk_frozen hE5 5
          clear hE5
          go_wp2_with fail
          obtain ⟨X0,hX0⟩ : ∃ X0,X0 = ((((((wr.setCell ⟨w.heap.size,0,none⟩ (.int .i64 0)).setCell ⟨w.heap.size,1,none⟩ (.int .u8 7)).setCell ⟨w.heap.size,2,none⟩ (.int .i64 y2)).setCell ⟨w.heap.size,3,none⟩ (.int .i64 i)).setCell ⟨w.heap.size,4,none⟩ (.int .i64 0)).setCell ⟨w.heap.size,5,none⟩ (.int .i64 0)) := ⟨_,rfl⟩
          rw [← hX0]
          obtain ⟨hXk,r0,r1,r2,r3,r4,r5⟩ := ev_box HE3.out rfl _ _ _ _ _ _ hX0
          have hBX : Below Bo w X0 := HB3.out.trans (hXk.below HS3.out.lo (fun q e => by rw [e]; have := H.out.lo; omega))
          have hSX := HS3.out.junk (hXk.mono fun q e => by rw [e]; exact Hφ2.out _ (by omega))
          clear hX0
          refine bodyPost_ret (v := .tuple #[.agg #[.int .i64 0,.int .u8 7,.int .i64 y2,.int .i64 i,.int .i64 0,.int .i64 0],.bool true]) (by simp [results,Tryz.results51,go_sem,r0,r1,r2,r3,r4,r5]) rfl ⟨7,y2,i,0,by rw [HR.out],⟨hBX,hSX.markOk Hφ1.out H.out.fr.1⟩,fun _ => by rw [HR.out]; exact ⟨rfl,rfl,rfl,rfl,φ0,_,Hφ1.out,hSX,by first | exact Nat.le_succ _ | exact Nat.le_refl _⟩⟩
end Go.Proofs.YtcjmppjppmiggaaGreat

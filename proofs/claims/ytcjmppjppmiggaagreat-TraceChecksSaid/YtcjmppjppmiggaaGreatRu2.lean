/- The document's story: the reader's step. (Printed by gen_ru2.py.) -/
import Derived.Test.YtcjmppjppmiggaaGreatRu1
namespace Go.Proofs.YtcjmppjppmiggaaGreat
open Go.RowKit
set_option linter.unusedVariables false
set_option linter.unusedSimpArgs false

open Go.Maps
set_option maxRecDepth 100000
set_option maxHeartbeats 4000000 in
theorem r21feed_any (φ : Nat→Nat) (Bo : Nat) (c : Cfg) (rs rs' : List RTx) (by_ : List Int) (M k : Nat) (a : RA) (x : RG) (s : TS) (e : Ev) (w : World) (h0 : RsAt w φ Bo c rs rs' by_ a x s) (hi : SInv c rs rs' M k s) (hc : c.ok = true) (hrl : rs.length≤65536)
    (hlog : ∀ (i : Nat) (r : RTx),rs[i]? = some r→txB r.number r.ws = true∧r.number = (i : Int)+1) (hmask : rs' = maskL M by_ rs) (hbl : a.B.n≤65536) (hnl : ∀ r ∈ rs,r.A = none→r.cap = 0) :
    Calls Tryz.prog 49 #[ptrV a.g,.agg #[.int .i64 e.task,.int .u8 e.kind,.int .i64 e.number,.int .i64 e.shard,.int .i64 e.count,.int .i64 e.mark]] w (RTaskEnd w φ Bo c rs rs' by_ a x.bd (s.feed c rs rs' by_)) := by
 obtain ⟨φ0,hφ0⟩ : ∃ φ0 : Nat→Nat,φ0 = fun b => if b < w.heap.size then φ b else 50 := ⟨_,rfl⟩
 have hφ1 : ∀ b,b < w.heap.size→φ0 b = φ b := fun b hb => by rw [hφ0]; simp only [if_pos hb]
 have hφ2 : ∀ b,w.heap.size≤b→φ0 b = 50 := fun b hb => by rw [hφ0]; simp only [if_neg (show ¬ b < w.heap.size by omega)]
 have h : RsAt w φ0 Bo c rs rs' by_ a x s := h0.relabel hφ1
 have Hφ1 := Lib.hid hφ1
 have Hφ2 := Lib.hid hφ2
 clear hφ0 hφ1 hφ2 h0
 have H := Lib.hid h
 have HI := Lib.hid hi
 obtain ⟨W0,hW0⟩ : ∃ W0,W0 = (w.alloc (.cells #[.int .i64 e.task,.int .u8 e.kind,.int .i64 e.number,.int .i64 e.shard,.int .i64 e.count,.int .i64 e.mark] 51)).alloc (.cells #[.int .i64 0,.int .u8 0,.int .i64 0,.int .i64 0,.int .i64 0,.int .i64 0] 51) := ⟨_,rfl⟩
 have hb0 : Below w.heap.size w W0 := hW0 ▸ bel_alloc (bel_alloc (Below.refl _ _) _) _
 have hz0 : W0.heap.size = w.heap.size+2 := by rw [hW0]; simp
 have HE0 : Hid (W0.heap[(w.heap.size+1)]? = some evBox) := Lib.hid (by rw [hW0]; have := blk_new (w.alloc (.cells #[.int .i64 e.task,.int .u8 e.kind,.int .i64 e.number,.int .i64 e.shard,.int .i64 e.count,.int .i64 e.mark] 51)) (.cells #[.int .i64 0,.int .u8 0,.int .i64 0,.int .i64 0,.int .i64 0,.int .i64 0] 51); simpa [evBox] using this)
 have HV0 : Hid (W0.heap[w.heap.size]? = some (.cells #[.int .i64 e.task,.int .u8 e.kind,.int .i64 e.number,.int .i64 e.shard,.int .i64 e.count,.int .i64 e.mark] 51 (0,0))) := Lib.hid (by rw [hW0]; exact (Below.heap_alloc _ _ _ (by simp)).trans (blk_new _ _))
 have HS0 := Lib.hid (h.below hb0 (fun h => h) (fun h => h))
 have HB0 : Hid (Below Bo w W0) := Lib.hid (hb0.mono h.lo)
 have HZ0 := Lib.hid hz0
 have HW0 := Lib.hid hW0
 clear h hi hb0 hz0 hW0
 obtain ⟨R,hR⟩ : ∃ R,R = s.feed c rs rs' by_ := ⟨_,rfl⟩
 rw [← hR]
 unfold TS.feed at hR
 unfold ptrV
 have Hmask := Lib.hid hmask
 clear hmask
 by_cases hh : s.holds = false
 · skip
   have hr0 : rheld s = 0 := by unfold rheld; rw [hh]; rfl
   have d5 : W0.cell? ⟨a.g,5,none⟩ = some (.int .i64 s.at_) := blk_cell (HS0.out.st (fun h => h)) 5
   have d4 : W0.cell? ⟨a.g,4,none⟩ = some (.slice a.A a.n a.cap) := blk_cell (HS0.out.st (fun h => h)) 4
   have g6 : ∀ o p,((w.alloc o).alloc p).cell? ⟨a.g,6,none⟩ = some (.int .i64 (rheld s)) := fun o p => (blk_cell ((Below.heap_alloc _ _ _ (by have := H.out.fst.2.2; simp; omega)).trans ((Below.heap_alloc _ _ _ H.out.fst.2.2).trans (H.out.st (fun h => h)))) 6)
   have e5 : ∀ q : Ext W0,q.X.cell? ⟨a.g,5,none⟩ = some (.int .i64 s.at_) := fun q => (q.h.cell (p := ⟨a.g,5,none⟩) HS0.out.fst.2.2).trans d5
   have e4 : ∀ q : Ext W0,q.X.cell? ⟨a.g,4,none⟩ = some (.slice a.A a.n a.cap) := fun q => (q.h.cell (p := ⟨a.g,4,none⟩) HS0.out.fst.2.2).trans d4
   rw [hr0] at g6
   have hlen : rs.length = a.n := H.out.log.1.len
   clear d5 d4
   go_enter Tryz.func49,Tryz.ntmps49
   go_wp2_with fail
   rw [← HW0.out]
   clear g6
   refine wp_region_ext (by kernel_rfl) (by kernel_rfl) ?_
   repeat (go_big_quiet_step ((fail)))
   refine Ext.end_ fun X hX => ?_
   have HSX := Lib.hid (HS0.out.below hX (fun h => h) (fun h => h))
   have HEX : Hid (X.heap[(w.heap.size+1)]? = some evBox) := Lib.hid ((hX.block _ (blk_lt HE0.out)).trans HE0.out)
   have HBX : Hid (Below Bo w X) := Lib.hid (HB0.out.trans (hX.mono HS0.out.lo))
   by_cases hl : rs.length≤s.at_
   · have HR : Hid (R = ((0,ev0,false),s)) := Lib.hid (by rw [hR,if_pos hh,if_pos hl])
     have hge : (a.n : Int)≤(s.at_ : Int) := by omega
     clear hR hlen hl e5 e4 hX
     have hE5 := HEX.out
     have g0 := blk_cell hE5 0
     have g1 := blk_cell hE5 1
     have g2 := blk_cell hE5 2
     have g3 := blk_cell hE5 3
     have g4 := blk_cell hE5 4
     have g5 := blk_cell hE5 5
     have k0 := blk_frozen hE5 0
     have k1 := blk_frozen hE5 1
     have k2 := blk_frozen hE5 2
     have k3 := blk_frozen hE5 3
     have k4 := blk_frozen hE5 4
     have k5 := blk_frozen hE5 5
     clear hE5
     go_wp2_with fail
     obtain ⟨X0,hX0⟩ : ∃ X0,X0 = ((((((X.setCell ⟨(w.heap.size+1),0,none⟩ (.int .i64 0)).setCell ⟨(w.heap.size+1),1,none⟩ (.int .u8 0)).setCell ⟨(w.heap.size+1),2,none⟩ (.int .i64 0)).setCell ⟨(w.heap.size+1),3,none⟩ (.int .i64 0)).setCell ⟨(w.heap.size+1),4,none⟩ (.int .i64 0)).setCell ⟨(w.heap.size+1),5,none⟩ (.int .i64 0)) := ⟨_,rfl⟩
     rw [← hX0]
     obtain ⟨hXk,r0,r1,r2,r3,r4,r5⟩ := ev_box HEX.out rfl _ _ _ _ _ _ hX0
     have hBX : Below Bo w X0 := HBX.out.trans (hXk.below HSX.out.lo (fun q e => by rw [e]; have := H.out.lo; omega))
     have hSX := HSX.out.junk (hXk.mono fun q e => by rw [e]; exact Hφ2.out _ (by omega))
     clear hX0
     refine bodyPost_ret (v := .tuple #[.agg #[.int .i64 0,.int .u8 0,.int .i64 0,.int .i64 0,.int .i64 0,.int .i64 0],.bool false]) (by simp [results,Tryz.results49,go_sem,r0,r1,r2,r3,r4,r5]) rfl ⟨0,0,0,0,by rw [HR.out],⟨hBX,hSX.markOk Hφ1.out H.out.fr.1⟩,fun e => by rw [HR.out] at e; cases e⟩
   · have HR : Hid (R = ((1,⟨0,0,(s.at_ : Int)+1,0,0,0⟩,true),{ s with at_ := s.at_+1,holds := true })) := Lib.hid (by rw [hR,if_pos hh,if_neg hl])
     have hge : ¬ (a.n : Int)≤(s.at_ : Int) := by omega
     have hat : s.at_≤65536 := by omega
     have hw1 : IntKind.i64.wrap ((s.at_ : Int)+1) = (s.at_ : Int)+1 := by rw [IntKind.wrap_i64]; omega
     obtain ⟨W2,hW2⟩ : ∃ W2,W2 = (X.setCell ⟨a.g,5,none⟩ (.int .i64 ((s.at_ : Int)+1))).setCell ⟨a.g,6,none⟩ (.int .i64 ((s.at_ : Int)+1)) := ⟨_,rfl⟩
     have hb1 := blk_set (HSX.out.st (fun h => h)) 5 (.int .i64 ((s.at_ : Int)+1))
     have hb2 := blk_set hb1 6 (.int .i64 ((s.at_ : Int)+1))
     have hk2 : Kept X W2 (fun q => q = a.g) := hW2 ▸ ((Kept.refl X (fun q => q = a.g)).setCell (p := ⟨a.g,5,none⟩) (Or.inl rfl) _).setCell (p := ⟨a.g,6,none⟩) (Or.inl rfl) _
     have hm0 : TS.m s = s.at_ := by unfold TS.m; rw [hh]; rfl
     have hm1 : TS.m { s with at_ := s.at_+1,holds := true } = s.at_ := by simp [TS.m]
     have HS2 := Lib.hid (show RsAt W2 φ0 Bo c rs rs' by_ a { x with T := ⟨x.T.A,x.T.n,x.T.c⟩,xs := x.xs } { s with at_ := s.at_+1,holds := true } from (HSX.out.setAH (n := s.at_+1) (b := true) (E' := s.E) (hk2.mono fun q e => by rw [e]; exact H.out.fst.1) (by rw [hW2]; exact hb2)).fill8 (fun _ h => h) ((HSX.out.tb (fun h => h)).1.kept hk2 (fun b hb e => by
      have h1 := (HSX.out.ftb b hb).1
      rw [e,H.out.fst.1] at h1; omega)) (by
      have := (HSX.out.tb (fun h => h)).2
      rw [hm0] at this
      rw [hm1]; exact this) (fun b hb => ⟨(HSX.out.ftb b hb).1,(HSX.out.ftb b hb).2.1,Nat.lt_of_lt_of_le (HSX.out.ftb b hb).2.2 hk2.size⟩))
     have HB2 : Hid (Below Bo w W2) := Lib.hid (HBX.out.trans (hk2.below HSX.out.lo (fun q e => by rw [e]; exact H.out.fst.2.1)))
     have HE2 : Hid (W2.heap[w.heap.size+1]? = some evBox) := Lib.hid (hk2.blk HEX.out (blk_lt HEX.out) (by have := H.out.fst.2.2; omega))
     have u5 : W2.cell? ⟨a.g,5,none⟩ = some (.int .i64 ((s.at_ : Int)+1)) := blk_cell (HS2.out.st (fun h => h)) 5
     have d5 : X.cell? ⟨a.g,5,none⟩ = some (.int .i64 s.at_) := blk_cell (HSX.out.st (fun h => h)) 5
     have f5 : X.frozen? ⟨a.g,5,none⟩ = false := blk_frozen (HSX.out.st (fun h => h)) 5
     have e5' : (X.setCell ⟨a.g,5,none⟩ (.int .i64 ((s.at_ : Int)+1))).cell? ⟨a.g,5,none⟩ = some (.int .i64 ((s.at_ : Int)+1)) := (blk_cell hb1 5).trans (by simp [rstoryC])
     have d6 : (X.setCell ⟨a.g,5,none⟩ (.int .i64 ((s.at_ : Int)+1))).cell? ⟨a.g,6,none⟩ = some (.int .i64 (rheld s)) := blk_cell hb1 6
     have f6 : (X.setCell ⟨a.g,5,none⟩ (.int .i64 ((s.at_ : Int)+1))).frozen? ⟨a.g,6,none⟩ = false := blk_frozen hb1 6
     clear hR hlen hl hb1 hb2 hk2 hm0 hm1 e5 e4 hX
     have hE5 := HE2.out
     have g0 := blk_cell hE5 0
     have g1 := blk_cell hE5 1
     have g2 := blk_cell hE5 2
     have g3 := blk_cell hE5 3
     have g4 := blk_cell hE5 4
     have g5 := blk_cell hE5 5
     have k0 := blk_frozen hE5 0
     have k1 := blk_frozen hE5 1
     have k2 := blk_frozen hE5 2
     have k3 := blk_frozen hE5 3
     have k4 := blk_frozen hE5 4
     have k5 := blk_frozen hE5 5
     clear hE5
     rw [hW2] at g0 k0 g1 k1 g2 k2 g3 k3 g4 k4 g5 k5 u5
     go_wp2_with fail
     rw [← hW2]
     clear hW2
     obtain ⟨X0,hX0⟩ : ∃ X0,X0 = ((((((W2.setCell ⟨(w.heap.size+1),0,none⟩ (.int .i64 0)).setCell ⟨(w.heap.size+1),1,none⟩ (.int .u8 1)).setCell ⟨(w.heap.size+1),2,none⟩ (.int .i64 ((s.at_ : Int)+1))).setCell ⟨(w.heap.size+1),3,none⟩ (.int .i64 0)).setCell ⟨(w.heap.size+1),4,none⟩ (.int .i64 0)).setCell ⟨(w.heap.size+1),5,none⟩ (.int .i64 0)) := ⟨_,rfl⟩
     rw [← hX0]
     obtain ⟨hXk,r0,r1,r2,r3,r4,r5⟩ := ev_box HE2.out rfl _ _ _ _ _ _ hX0
     have hBX : Below Bo w X0 := HB2.out.trans (hXk.below HS2.out.lo (fun q e => by rw [e]; have := H.out.lo; omega))
     have hSX := HS2.out.junk (hXk.mono fun q e => by rw [e]; exact Hφ2.out _ (by omega))
     clear hX0
     refine bodyPost_ret (v := .tuple #[.agg #[.int .i64 0,.int .u8 1,.int .i64 ((s.at_ : Int)+1),.int .i64 0,.int .i64 0,.int .i64 0],.bool true]) (by simp [results,Tryz.results49,go_sem,r0,r1,r2,r3,r4,r5]) rfl ⟨1,((s.at_ : Int)+1),0,0,by rw [HR.out],⟨hBX,hSX.markOk Hφ1.out H.out.fr.1⟩,fun _ => by rw [HR.out]; exact ⟨rfl,rfl,rfl,rfl,φ0,_,Hφ1.out,hSX,by first | exact Nat.le_succ _ | exact Nat.le_refl _⟩⟩
 · skip
   have hh2 : s.holds = true := by simpa using hh
   have hat := HI.out.hat hh2
   have hatl := HI.out.atl
   obtain ⟨n,hn⟩ : ∃ n,s.at_ = n+1 := ⟨s.at_ - 1,by omega⟩
   have Hm0 : Hid (TS.m s = n) := Lib.hid (by unfold TS.m; rw [hh2,hn]; simp)
   have g6 : ∀ o p,((w.alloc o).alloc p).cell? ⟨a.g,6,none⟩ = some (.int .i64 ((n : Int)+1)) := fun o p => (blk_cell ((Below.heap_alloc _ _ _ (by have := H.out.fst.2.2; simp; omega)).trans ((Below.heap_alloc _ _ _ H.out.fst.2.2).trans (H.out.st (fun h => h)))) 6).trans (by simp [rstoryC,rheld,hh2,hn])
   have g7 : ∀ o p,((w.alloc o).alloc p).cell? ⟨a.g,7,none⟩ = some (.slice a.B.A a.B.n a.B.c) := fun o p => (blk_cell ((Below.heap_alloc _ _ _ (by have := H.out.fst.2.2; simp; omega)).trans ((Below.heap_alloc _ _ _ H.out.fst.2.2).trans (H.out.st (fun h => h)))) 7)
   have hlen : rs.length = a.n := H.out.log.1.len
   have hne : ¬ ((n : Int)+1 = 0) := by omega
   have hne2 : ((n : Int)+1 == 0) = false := by simpa using hne
   have hne3 : decide ((n : Int)+1 = 0) = false := decide_eq_false hne
   have HN := Lib.hid (r21in_any Bo a.B.A a.B.n a.B.c by_ (n+1) W0 HS0.out.bey (by omega))
   obtain ⟨bc,hbc⟩ : ∃ bc,bc = by_.contains ((n : Int)+1) := ⟨_,rfl⟩
   have Hbc := Lib.hid hbc
   have en : ((n+1 : Nat) : Int) = (n : Int)+1 := by omega
   rw [en,← hbc] at HN
   have HRr := Lib.hid hR
   clear hbc en hR
   go_enter Tryz.func49,Tryz.ntmps49
   go_wp2_with fail
   rw [← HW0.out]
   refine HN.out.mono ?_
   rintro e' wz ⟨rfl,rfl⟩
   clear HN g6 g7
   by_cases hb : by_.contains (s.at_ : Int) = true
   · have hbt : bc = true := by rw [Hbc.out]; rw [hn] at hb; push_cast at hb; exact hb
     subst hbt
     have HR : Hid (R = ((2,⟨0,0,((n : Int)+1),0,0,0⟩,true),{ s with holds := false,E := E1 s.E s.at_ })) := Lib.hid (by rw [HRr.out,if_neg hh,if_pos hb,hn]; rfl)
     obtain ⟨W2,hW2⟩ : ∃ W2,W2 = W0.setCell ⟨a.g,6,none⟩ (.int .i64 0) := ⟨_,rfl⟩
     have hb1 := blk_set (HS0.out.st (fun h => h)) 6 (.int .i64 0)
     have hk2 : Kept W0 W2 (fun q => q = a.g) := hW2 ▸ (Kept.refl W0 (fun q => q = a.g)).setCell (p := ⟨a.g,6,none⟩) (Or.inl rfl) _
     have hm1 : TS.m { s with holds := false,E := E1 s.E s.at_ } = n+1 := by simp [TS.m,hn]
     have hmask' : wsOf rs' n = [] := by rw [Hmask.out]; exact maskL_ws (Or.inr (by rw [hn] at hb; push_cast at hb; exact hb))
     have HS2 := Lib.hid (show RsAt W2 φ0 Bo c rs rs' by_ a { x with T := ⟨x.T.A,x.T.n,x.T.c⟩,xs := x.xs } { s with holds := false,E := E1 s.E s.at_ } from (HS0.out.setAH (n := s.at_) (b := false) (E' := E1 s.E s.at_) (hk2.mono fun q e => by rw [e]; exact H.out.fst.1) (by rw [hW2]; exact hb1)).fill8 (fun _ h => h) ((HS0.out.tb (fun h => h)).1.kept hk2 (fun b hb e => by
         have h1 := (HS0.out.ftb b hb).1
         rw [e,H.out.fst.1] at h1; omega)) (by
         have := (HS0.out.tb (fun h => h)).2
         rw [Hm0.out] at this
         rw [hm1]
         show RInv rs' (n+1) (E1 s.E s.at_) _∧_
         rw [hn]
         exact ⟨this.1.skip hmask',close_skip hmask' this.2⟩) (fun b hb => ⟨(HS0.out.ftb b hb).1,(HS0.out.ftb b hb).2.1,Nat.lt_of_lt_of_le (HS0.out.ftb b hb).2.2 hk2.size⟩))
     have HB2 : Hid (Below Bo w W2) := Lib.hid (HB0.out.trans (hk2.below HS0.out.lo (fun q e => by rw [e]; exact H.out.fst.2.1)))
     have HE2 : Hid (W2.heap[w.heap.size+1]? = some evBox) := Lib.hid (hk2.blk HE0.out (blk_lt HE0.out) (by have := H.out.fst.2.2; omega))
     have f6 : W0.frozen? ⟨a.g,6,none⟩ = false := blk_frozen (HS0.out.st (fun h => h)) 6
     have d6 : W0.cell? ⟨a.g,6,none⟩ = some (.int .i64 (rheld s)) := blk_cell (HS0.out.st (fun h => h)) 6
     clear hb hb1 hk2 hm1 hmask'
     have hE5 := HE2.out
     have g0 := blk_cell hE5 0
     have g1 := blk_cell hE5 1
     have g2 := blk_cell hE5 2
     have g3 := blk_cell hE5 3
     have g4 := blk_cell hE5 4
     have g5 := blk_cell hE5 5
     have k0 := blk_frozen hE5 0
     have k1 := blk_frozen hE5 1
     have k2 := blk_frozen hE5 2
     have k3 := blk_frozen hE5 3
     have k4 := blk_frozen hE5 4
     have k5 := blk_frozen hE5 5
     clear hE5
     rw [hW2] at g0 k0 g1 k1 g2 k2 g3 k3 g4 k4 g5 k5 
     go_wp2_with fail
     rw [← hW2]
     clear hW2
     obtain ⟨X0,hX0⟩ : ∃ X0,X0 = ((((((W2.setCell ⟨(w.heap.size+1),0,none⟩ (.int .i64 0)).setCell ⟨(w.heap.size+1),1,none⟩ (.int .u8 2)).setCell ⟨(w.heap.size+1),2,none⟩ (.int .i64 ((n : Int)+1))).setCell ⟨(w.heap.size+1),3,none⟩ (.int .i64 0)).setCell ⟨(w.heap.size+1),4,none⟩ (.int .i64 0)).setCell ⟨(w.heap.size+1),5,none⟩ (.int .i64 0)) := ⟨_,rfl⟩
     rw [← hX0]
     obtain ⟨hXk,r0,r1,r2,r3,r4,r5⟩ := ev_box HE2.out rfl _ _ _ _ _ _ hX0
     have hBX : Below Bo w X0 := HB2.out.trans (hXk.below HS2.out.lo (fun q e => by rw [e]; have := H.out.lo; omega))
     have hSX := HS2.out.junk (hXk.mono fun q e => by rw [e]; exact Hφ2.out _ (by omega))
     clear hX0
     refine bodyPost_ret (v := .tuple #[.agg #[.int .i64 0,.int .u8 2,.int .i64 ((n : Int)+1),.int .i64 0,.int .i64 0,.int .i64 0],.bool true]) (by simp [results,Tryz.results49,go_sem,r0,r1,r2,r3,r4,r5]) rfl ⟨2,((n : Int)+1),0,0,by rw [HR.out],⟨hBX,hSX.markOk Hφ1.out H.out.fr.1⟩,fun _ => by rw [HR.out]; exact ⟨rfl,rfl,rfl,rfl,φ0,_,Hφ1.out,hSX,by first | exact Nat.le_succ _ | exact Nat.le_refl _⟩⟩
   · have hbt : bc = false := by rw [Hbc.out]; rw [hn] at hb; push_cast at hb; simpa using hb
     subst hbt
     have hnb : ¬ by_.contains ((n : Int)+1) = true := by rw [← Hbc.out]; simp
     have d9 : W0.cell? ⟨a.g,9,none⟩ = some (.pointer (some ⟨a.gt,0,none⟩)) := blk_cell (HS0.out.st (fun h => h)) 9
     have d2 : W0.cell? ⟨a.g,2,none⟩ = some (.int .i64 c.window) := blk_cell (HS0.out.st (fun h => h)) 2
     have e9 : ∀ q : Ext W0,q.X.cell? ⟨a.g,9,none⟩ = some (.pointer (some ⟨a.gt,0,none⟩)) := fun q => (q.h.cell (p := ⟨a.g,9,none⟩) HS0.out.fst.2.2).trans d9
     have e2 : ∀ q : Ext W0,q.X.cell? ⟨a.g,2,none⟩ = some (.int .i64 c.window) := fun q => (q.h.cell (p := ⟨a.g,2,none⟩) HS0.out.fst.2.2).trans d2
     have hmk : s.G.mark≤65536 := HI.out.ok.mark
     have hn6 : n+1≤65536 := by omega
     have hw2 : IntKind.i64.wrap ((n : Int)+1 - s.G.mark) = (n : Int)+1 - s.G.mark := by rw [IntKind.wrap_i64]; omega
     have HN := Lib.hid (fun q : Ext W0 => Ext.same2 (r12mark_any Bo a.gt x.K.A x.K.n x.K.c s.G q.X ((HS0.out.below q.h (fun h => h) (fun h => h)).gt (fun h => h))))
     clear d9 d2
     go_wp2_with fail
     refine wp_region_ext (by kernel_rfl) (by kernel_rfl) ?_
     repeat (go_big_quiet_step ((go_at_call 53; exact HN.out _)))
     refine Ext.end_ fun Y hY => ?_
     have HSY := Lib.hid (HS0.out.below hY (fun h => h) (fun h => h))
     have HEY : Hid (Y.heap[(w.heap.size+1)]? = some evBox) := Lib.hid ((hY.block _ (blk_lt HE0.out)).trans HE0.out)
     have HBY : Hid (Below Bo w Y) := Lib.hid (HB0.out.trans (hY.mono HS0.out.lo))
     clear e9 e2 HN hw2
     by_cases hwd : c.window < (s.at_ : Int) - s.G.mark
     · have HR : Hid (R = ((0,ev0,false),s)) := Lib.hid (by rw [HRr.out,if_neg hh,if_neg (by rw [hn]; push_cast; exact hnb),if_pos hwd])
       have hlt : c.window < (n : Int)+1 - s.G.mark := by rw [hn] at hwd; push_cast at hwd; exact hwd
       clear hwd hY
       have hE5 := HEY.out
       have g0 := blk_cell hE5 0
       have g1 := blk_cell hE5 1
       have g2 := blk_cell hE5 2
       have g3 := blk_cell hE5 3
       have g4 := blk_cell hE5 4
       have g5 := blk_cell hE5 5
       have k0 := blk_frozen hE5 0
       have k1 := blk_frozen hE5 1
       have k2 := blk_frozen hE5 2
       have k3 := blk_frozen hE5 3
       have k4 := blk_frozen hE5 4
       have k5 := blk_frozen hE5 5
       clear hE5
       go_wp2_with fail
       obtain ⟨X0,hX0⟩ : ∃ X0,X0 = ((((((Y.setCell ⟨(w.heap.size+1),0,none⟩ (.int .i64 0)).setCell ⟨(w.heap.size+1),1,none⟩ (.int .u8 0)).setCell ⟨(w.heap.size+1),2,none⟩ (.int .i64 0)).setCell ⟨(w.heap.size+1),3,none⟩ (.int .i64 0)).setCell ⟨(w.heap.size+1),4,none⟩ (.int .i64 0)).setCell ⟨(w.heap.size+1),5,none⟩ (.int .i64 0)) := ⟨_,rfl⟩
       rw [← hX0]
       obtain ⟨hXk,r0,r1,r2,r3,r4,r5⟩ := ev_box HEY.out rfl _ _ _ _ _ _ hX0
       have hBX : Below Bo w X0 := HBY.out.trans (hXk.below HSY.out.lo (fun q e => by rw [e]; have := H.out.lo; omega))
       have hSX := HSY.out.junk (hXk.mono fun q e => by rw [e]; exact Hφ2.out _ (by omega))
       clear hX0
       refine bodyPost_ret (v := .tuple #[.agg #[.int .i64 0,.int .u8 0,.int .i64 0,.int .i64 0,.int .i64 0,.int .i64 0],.bool false]) (by simp [results,Tryz.results49,go_sem,r0,r1,r2,r3,r4,r5]) rfl ⟨0,0,0,0,by rw [HR.out],⟨hBX,hSX.markOk Hφ1.out H.out.fr.1⟩,fun e => by rw [HR.out] at e; cases e⟩
     · have hlt : ¬ c.window < (n : Int)+1 - s.G.mark := by rw [hn] at hwd; push_cast at hwd; exact hwd
       obtain ⟨D,hD⟩ : ∃ D : Nat,D = (depL rs' s.E s.at_).length := ⟨_,rfl⟩
       have HR : Hid (R = ((3,⟨0,0,((n : Int)+1),0,D,0⟩,true),{ s with holds := false,line := if D = 0 then s.line ++ [n+1] else s.line })) := Lib.hid (by rw [HRr.out,if_neg hh,if_neg (by rw [hn]; push_cast; exact hnb),if_neg hwd,hD,hn]; rfl)
       obtain ⟨φ1,hφ1⟩ : ∃ φ1 : Nat→Nat,φ1 = fun b => if b < Y.heap.size then φ0 b else 8 := ⟨_,rfl⟩
       have hf1 : ∀ b,b < Y.heap.size→φ1 b = φ0 b := fun b hb => by rw [hφ1]; simp only [if_pos hb]
       have Hf2 : Hid (∀ b,Y.heap.size≤b→φ1 b = 8) := Lib.hid (fun b hb => by rw [hφ1]; simp only [if_neg (show ¬ b < Y.heap.size by omega)])
       have HSZ1 := Lib.hid (HSY.out.relabel hf1)
       have hyl : w.heap.size+1 < Y.heap.size := blk_lt HEY.out
       have Hbox1 : Hid (φ1 (w.heap.size+1) = 50) := Lib.hid (by rw [hf1 _ hyl]; exact Hφ2.out _ (by omega))
       have Hlow1 : Hid (∀ b,b < w.heap.size→φ1 b = φ b) := Lib.hid (fun b hb => by rw [hf1 b (by omega)]; exact Hφ1.out b hb)
       clear hφ1 hf1
       have HSY := HSZ1
       obtain ⟨W2,hW2⟩ : ∃ W2,W2 = Y.setCell ⟨a.g,6,none⟩ (.int .i64 0) := ⟨_,rfl⟩
       have hz2 : W2.heap.size = Y.heap.size := by rw [hW2]; simp
       have hb1 := blk_set (HSY.out.st (fun h => h)) 6 (.int .i64 0)
       have hk2 : Kept Y W2 (fun q => q = a.g) := hW2 ▸ (Kept.refl Y (fun q => q = a.g)).setCell (p := ⟨a.g,6,none⟩) (Or.inl rfl) _
       have HS2 : Hid (RsH W2 φ1 Bo (fun j => j = 8) c rs rs' by_ a x { s with holds := false }) := Lib.hid (HSY.out.setAH (n := s.at_) (b := false) (E' := s.E) (hk2.mono fun q e => by rw [e]; exact HSY.out.fst.1) (by rw [hW2]; exact hb1))
       have htb2 : RTAt W2 Bo a.t x.T.A x.T.n x.T.c x.xs := (HSY.out.tb (fun h => h)).1.kept hk2 (fun b hb e => by
        have h1 := (HSY.out.ftb b hb).1
        rw [e,HSY.out.fst.1] at h1; omega)
       have Htb2 := Lib.hid htb2
       have htig := (H.out.tb (fun h => h)).2
       rw [Hm0.out] at htig
       obtain ⟨b,off,r,hA,hbl,hx,y0,y1,hws,hrl2⟩ := HS2.out.log.cell2 (i := n) (by omega)
       obtain ⟨htx,hrn⟩ := hlog n r hx
       rw [hrn] at y0
       have hrm : rs'[n]? = some r := by
        rw [Hmask.out]; exact maskL_at (fun h => by
         rcases h with h | h
         · have := HI.out.hM; rw [Hm0.out] at this; omega
         · exact hnb h) hx
       have hwn : wsOf rs' n = r.ws := wsOf_at hrm
       have hfut : s.E (n+1) = false := HI.out.fut _ (by rw [Hm0.out]; omega)
       have hadd := htig.1.add hfut
       have hwaits := htig.1.waits
       rw [hwn] at hadd hwaits
       have hcnt : (waitsO (x.xs.map O2.o) r.ws).length = D := by rw [hwaits,hD,hn]
       have HAdd := Lib.hid hadd
       have HClose := Lib.hid (close_add hfut htig.2)
       have hxl : x.T.n≤65536 := by
        have h1 := htig.1.len
        have h2 := htb2.tk.len
        rw [List.length_map] at h1
        omega
       have hord : ∀ z ∈ x.xs,z.o.num < n+1 := fun z hz => by
        have := (htig.1.at_ z.o (List.mem_map.2 ⟨z,hz,rfl⟩)).2.1
        omega
       have hwl : ∀ z ∈ x.xs,z.W.n≤65536 := fun z hz => by
        have h1 := (htig.1.at_ z.o (List.mem_map.2 ⟨z,hz,rfl⟩)).2.2.1
        have h2 := (htb2.el z hz).1.len
        have h3 := ws32 hlog Hmask.out (z.o.num - 1)
        rw [← h1] at h3
        omega
       have HB2 : Hid (Below Bo w W2) := Lib.hid (HBY.out.trans (hk2.below HSY.out.lo (fun q e => by rw [e]; exact H.out.fst.2.1)))
       have HE2 : Hid (W2.heap[w.heap.size+1]? = some evBox) := Lib.hid (hk2.blk HEY.out (blk_lt HEY.out) (by have := H.out.fst.2.2; omega))
       have hst2 := HS2.out.st (show ¬ ((fun j : Nat => j = 8) 1) by simp)
       have u4 : W2.cell? ⟨a.g,4,none⟩ = some (.slice (some ⟨b,off,none⟩) a.n a.cap) := (blk_cell hst2 4).trans (by rw [← hA]; rfl)
       have u8 : W2.cell? ⟨a.g,8,none⟩ = some (.pointer (some ⟨a.t,0,none⟩)) := blk_cell hst2 8
       have hw3 : IntKind.i64.wrap ((n : Int)+1 - 1) = n := by rw [IntKind.wrap_i64]; omega
       have hn0 : (0 : Int)≤(n : Int) := by omega
       have hw4 : IntKind.i64.wrap (n : Int) = n := by rw [IntKind.wrap_i64]; omega
       have hna : (n : Int) < (a.n : Int) := by omega
       have hnat : n < a.n := by omega
       have dn1 : decide ((n : Int) < (a.n : Int)) = true := decide_eq_true hna
       have dn2 : decide (n < a.n) = true := decide_eq_true hnat
       have dn3 : decide (0≤(n : Int)) = true := decide_eq_true hn0
       have HD := Lib.hid hD
       have Hcnt := Lib.hid hcnt
       have htx' : txB ((n+1 : Nat) : Int) r.ws = true := by rw [hrn] at htx; push_cast; exact htx
       have hbl2 : b < W2.heap.size := Nat.lt_of_lt_of_le hbl HS2.out.lo
       have hgl := HS2.out.fst.2.2
       have hb0 : Below W2.heap.size W2 W2.drew := bel_drew (Below.refl _ _)
       have hra := r11add_any Bo a.t x.T.A x.T.n x.T.c x.xs (n+1) r.A r.len r.cap r.ws W2.drew (Htb2.out.below hb0) HS2.out.lo hxl ((hws.below (hb0.mono HS2.out.lo)).more HS2.out.lo) (hnl r (List.mem_of_getElem? hx)) htx' hord hwl
       have en1 : ((n+1 : Nat) : Int) = (n : Int)+1 := by omega
       rw [en1] at hra
       unfold R11Add at hra
       rw [hcnt] at hra
       have Hra := Lib.hid hra
       have HKS : Hid (∀ X : World,Kept W2 X (fun q => q = a.t∨∃ ad,x.T.A = some ad∧q = ad.block)→X.cell? ⟨a.g,8,none⟩ = some (.pointer (some ⟨a.t,0,none⟩))∧X.cell? ⟨a.g,4,none⟩ = some (.slice (some ⟨b,off,none⟩) a.n a.cap)∧X.cell? ⟨b,off+n * 2,none⟩ = some (.int .i64 ((n : Int)+1))∧X.cell? ⟨b,off+n * 2+1,none⟩ = some (.slice r.A r.len r.cap)) := Lib.hid (fun X k => by
        have hlab : ∀ q,(q = a.t∨∃ ad,x.T.A = some ad∧q = ad.block)→φ1 q = 8∧Bo≤q := fun q hq => by
         have := HSY.out.ftb q (hq.elim Or.inl (fun h => Or.inr (Or.inl h)))
         exact ⟨this.1,this.2.1⟩
        have hga : ¬ (a.g = a.t∨∃ ad,x.T.A = some ad∧a.g = ad.block) := fun hq => by have := (hlab _ hq).1; rw [HSY.out.fst.1] at this; omega
        have hba : ¬ (b = a.t∨∃ ad,x.T.A = some ad∧b = ad.block) := fun hq => by have := (hlab _ hq).2; omega
        exact ⟨(k.cell hgl hga).trans u8,(k.cell hgl hga).trans u4,(k.cell hbl2 hba).trans y0,(k.cell hbl2 hba).trans y1⟩)
       clear en1 hra
       have f6 : Y.frozen? ⟨a.g,6,none⟩ = false := blk_frozen (HSY.out.st (fun h => h)) 6
       have d6 : Y.cell? ⟨a.g,6,none⟩ = some (.int .i64 (rheld s)) := blk_cell (HSY.out.st (fun h => h)) 6
       clear hwd hb1 hk2 hY htb2 htig hA hx hws hrl2 htx hrn hrm hwn hfut hadd hwaits hcnt hxl hord hwl hst2 hD htx' hb0
       go_wp2_with fail
       rw [← hW2]
       clear hW2 d6 f6
       have hb0 : Below W2.heap.size W2 W2.drew := bel_drew (Below.refl _ _)
       have HSZ := Lib.hid (HS2.out.below hb0 (by simp) (by simp))
       have HEZ : Hid (W2.drew.heap[w.heap.size+1]? = some evBox) := HE2
       have HBZ : Hid (Below Bo w W2.drew) := Lib.hid (HB2.out.trans (hb0.mono HS2.out.lo))
       clear hb0
       go_region_held3 (fun X => X.cell? ⟨a.g,8,none⟩ = some (.pointer (some ⟨a.t,0,none⟩))∧X.cell? ⟨a.g,4,none⟩ = some (.slice (some ⟨b,off,none⟩) a.n a.cap)∧X.cell? ⟨b,off+n * 2,none⟩ = some (.int .i64 ((n : Int)+1))∧X.cell? ⟨b,off+n * 2+1,none⟩ = some (.slice r.A r.len r.cap))
        (first | (refine HKS.out _ ?_; (first | exact Kept.of_below (bel_drew (Below.refl _ _)) | exact HK3.out)))
        (first | (go_at_call 68; refine Hra.out.mono ?_; rintro e' w3 ⟨A3,c3,xn,rfl,hxo,hR3,hk3,hfa,hfn⟩; have HK3 : Hid (Kept W2 w3 (fun q => q = a.t∨∃ ad,x.T.A = some ad∧q = ad.block)) := Lib.hid ((Kept.of_below (bel_drew (Below.refl _ _))).trans hk3); have Hk3 := Lib.hid hk3; have HR3 := Lib.hid hR3; have Hxo := Lib.hid hxo; have Hfa := Lib.hid hfa; have Hfn := Lib.hid hfn; clear hxo hR3 hk3 hfa hfn))
       have hk3 := Hk3.out
       have hk3' : Kept W2.drew w3 (fun b => (fun j : Nat => j = 8) (φ1 b)) := hk3.mono fun b hb => (HSY.out.ftb b (hb.elim Or.inl (fun h => Or.inr (Or.inl h)))).1
       have hz3 : W2.heap.size≤w3.heap.size := hk3.size
       have HS3 := Lib.hid ((HSZ.out.kept (I := fun j => j = 8) hk3' (by simp) (by simp) (fun _ h => h)).fill8 (fun _ h => h) HR3.out (by
        have h1 : TS.m { s with holds := false } = n+1 := by simp [TS.m,hn]
        rw [h1,List.map_append,List.map_singleton,Hxo.out]
        exact ⟨HAdd.out,HClose.out⟩) (fun q hq => by
        have hlt := HR3.out.has_lt hq
        have hnew : W2.heap.size≤q→φ1 q = 8∧Bo≤q∧q < w3.heap.size := fun h => ⟨Hf2.out q (by omega),by have := HS2.out.lo; omega,hlt⟩
        have hold : hasR a.t x.T.A x.xs q→φ1 q = 8∧Bo≤q∧q < w3.heap.size := fun h => ⟨(HSY.out.ftb q h).1,(HSY.out.ftb q h).2.1,hlt⟩
        rcases hq with hq | ⟨ad,ea,hq⟩ | ⟨z,hz,hq⟩
        · exact hold (Or.inl hq)
        · rcases Hfa.out ad ea with ⟨cd,e1,e2⟩ | h4
          · exact hold (Or.inr (Or.inl ⟨cd,e1,hq.trans e2⟩))
          · exact hnew (by rw [hq]; exact h4)
        · rcases List.mem_append.1 hz with hz | hz
          · exact hold (Or.inr (Or.inr ⟨z,hz,hq⟩))
          · simp at hz; subst hz
            exact hnew (Hfn.out q hq)))
       have HB3 : Hid (Below Bo w w3) := Lib.hid (HBZ.out.trans (hk3.below HSZ.out.lo (fun b hb => (HSY.out.ftb b (hb.elim Or.inl (fun h => Or.inr (Or.inl h)))).2.1)))
       have HE3 : Hid (w3.heap[w.heap.size+1]? = some evBox) := Lib.hid (hk3.blk HEZ.out (blk_lt HEZ.out) (fun hx => by have := (HSY.out.ftb _ (hx.elim Or.inl (fun h => Or.inr (Or.inl h)))).1; rw [Hbox1.out] at this; omega))
       clear hk3 hk3' HSZ Hk3 HK3 HKS Hra
       by_cases hD0 : D = 0
       · subst hD0
         have HR1 := HR.out
         rw [if_pos rfl] at HR1
         have HR := Lib.hid HR1
         clear HR1
         obtain ⟨φ2,hφ2'⟩ : ∃ φ2 : Nat→Nat,φ2 = fun b => if b < w3.heap.size then φ1 b else 10 := ⟨_,rfl⟩
         have hf3 : ∀ b,b < w3.heap.size→φ2 b = φ1 b := fun b hb => by rw [hφ2']; simp only [if_pos hb]
         have Hf4 : Hid (∀ b,w3.heap.size≤b→φ2 b = 10) := Lib.hid (fun b hb => by rw [hφ2']; simp only [if_neg (show ¬ b < w3.heap.size by omega)])
         have HS3r := Lib.hid (HS3.out.relabel hf3)
         have Hbox2 : Hid (φ2 (w.heap.size+1) = 50) := Lib.hid (by rw [hf3 _ (blk_lt HE3.out)]; exact Hbox1.out)
         have Hlow2 : Hid (∀ b,b < w.heap.size→φ2 b = φ b) := Lib.hid (fun b hb => by have := blk_lt HE3.out; rw [hf3 b (by omega)]; exact Hlow1.out b hb)
         clear hφ2' hf3 HS3
         have HL3 := Lib.hid (HS3r.out.line (fun h => h)).1
         have HAl := Lib.hid (HS3r.out.line (fun h => h)).2
         have u10 : w3.cell? ⟨a.g,10,none⟩ = some (.slice x.line.A x.line.n x.line.c) := blk_cell (HS3r.out.st (fun h => h)) 10
         have hll : x.line.n≤65537 := by
          have h1 := HI.out.line_len
          have h2 : s.line.length = x.line.n := HL3.out.len
          rw [Hm0.out] at h1
          omega
         have hen : ((n+1 : Nat) : Int) = (n : Int)+1 := by omega
         have hlo3 : Bo≤w3.heap.size := HS3r.out.lo
         go_wp2_with (at_builtin; refine wpList_pushI rfl _ _ rfl Bo x.line.A x.line.n x.line.c s.line rfl HL3.out hlo3 (n+1) 1 (by first | rfl | (rw [hen]; rfl)) (by omega) ?_)
         intro A4 c4 w4 h1 h2 h3
         have hA4 : At φ2 10 A4 := fun q e => by
          rcases h3 q e with ⟨c',e1,e2⟩ | h4
          · rw [e2]; exact HAl.out c' e1
          · exact Hf4.out _ h4
         have HH := Lib.hid (HS3r.out.hole (i := 10) (h2.mono fun q ⟨ad',e,e2⟩ => by rw [e2]; exact HAl.out ad' e) (by omega) (by omega))
         have HEW : Hid (w4.heap[w.heap.size+1]? = some evBox) := Lib.hid (h2.blk HE3.out (blk_lt HE3.out) (fun ⟨ad',e,e2⟩ => by
          have := HAl.out ad' e
          rw [← e2,Hbox2.out] at this; omega))
         have HBW : Hid (Below Bo w w4) := Lib.hid (HB3.out.trans (h2.below HS3r.out.lo (fun q ⟨ad',e,e2⟩ => by rw [e2]; exact (HL3.out.lt e).1)))
         obtain ⟨n4,hn4⟩ : ∃ n4,n4 = x.line.n+1 := ⟨_,rfl⟩
         rw [← hn4] at h1 ⊢
         obtain ⟨W5,hW5⟩ : ∃ W5,W5 = w4.setCell ⟨a.g,10,none⟩ (.slice A4 n4 c4) := ⟨_,rfl⟩
         have HS5 := Lib.hid (hW5 ▸ HH.out.setLine (fun i h => h) h1 hA4)
         have hk5 : Kept w4 W5 (fun q => q = a.g) := hW5 ▸ (Kept.refl w4 (fun q => q = a.g)).setCell (p := ⟨a.g,10,none⟩) (Or.inl rfl) _
         have HB5 : Hid (Below Bo w W5) := Lib.hid (HBW.out.trans (hk5.below HH.out.lo (fun q e => by rw [e]; exact HH.out.fst.2.1)))
         have HE5 : Hid (W5.heap[w.heap.size+1]? = some evBox) := Lib.hid (hk5.blk HEW.out (blk_lt HEW.out) (by have := H.out.fst.2.2; omega))
         have hst4 := HH.out.st (show ¬ ((fun j : Nat => j = 10) 1) by simp)
         have d10 : w4.cell? ⟨a.g,10,none⟩ = some (.slice x.line.A x.line.n x.line.c) := blk_cell hst4 10
         have f10 : w4.frozen? ⟨a.g,10,none⟩ = false := blk_frozen hst4 10
         clear h1 h2 h3 hk5 hn4 hA4 hst4 u10
         have hE5 := HE5.out
         have g0 := blk_cell hE5 0
         have g1 := blk_cell hE5 1
         have g2 := blk_cell hE5 2
         have g3 := blk_cell hE5 3
         have g4 := blk_cell hE5 4
         have g5 := blk_cell hE5 5
         have k0 := blk_frozen hE5 0
         have k1 := blk_frozen hE5 1
         have k2 := blk_frozen hE5 2
         have k3 := blk_frozen hE5 3
         have k4 := blk_frozen hE5 4
         have k5 := blk_frozen hE5 5
         clear hE5
         rw [hW5] at g0 k0 g1 k1 g2 k2 g3 k3 g4 k4 g5 k5 
         go_wp2_with fail
         rw [← hW5]
         clear hW5
         obtain ⟨X0,hX0⟩ : ∃ X0,X0 = ((((((W5.setCell ⟨(w.heap.size+1),0,none⟩ (.int .i64 0)).setCell ⟨(w.heap.size+1),1,none⟩ (.int .u8 3)).setCell ⟨(w.heap.size+1),2,none⟩ (.int .i64 ((n : Int)+1))).setCell ⟨(w.heap.size+1),3,none⟩ (.int .i64 0)).setCell ⟨(w.heap.size+1),4,none⟩ (.int .i64 0)).setCell ⟨(w.heap.size+1),5,none⟩ (.int .i64 0)) := ⟨_,rfl⟩
         rw [← hX0]
         obtain ⟨hXk,r0,r1,r2,r3,r4,r5⟩ := ev_box HE5.out rfl _ _ _ _ _ _ hX0
         have hBX : Below Bo w X0 := HB5.out.trans (hXk.below HS5.out.lo (fun q e => by rw [e]; have := H.out.lo; omega))
         have hSX := HS5.out.junk (hXk.mono fun q e => by rw [e]; exact Hbox2.out)
         clear hX0
         refine bodyPost_ret (v := .tuple #[.agg #[.int .i64 0,.int .u8 3,.int .i64 ((n : Int)+1),.int .i64 0,.int .i64 0,.int .i64 0],.bool true]) (by simp [results,Tryz.results49,go_sem,r0,r1,r2,r3,r4,r5]) rfl ⟨3,((n : Int)+1),0,0,by rw [HR.out],⟨hBX,hSX.markOk Hlow2.out H.out.fr.1⟩,fun _ => by rw [HR.out]; exact ⟨rfl,rfl,rfl,rfl,φ2,_,Hlow2.out,hSX,by first | exact Nat.le_succ _ | exact Nat.le_refl _⟩⟩
       · have hD1 : ¬ (D : Int) = 0 := by omega
         have HR1 := HR.out
         rw [if_neg hD0] at HR1
         have HR := Lib.hid HR1
         clear HR1
         have hE5 := HE3.out
         have g0 := blk_cell hE5 0
         have g1 := blk_cell hE5 1
         have g2 := blk_cell hE5 2
         have g3 := blk_cell hE5 3
         have g4 := blk_cell hE5 4
         have g5 := blk_cell hE5 5
         have k0 := blk_frozen hE5 0
         have k1 := blk_frozen hE5 1
         have k2 := blk_frozen hE5 2
         have k3 := blk_frozen hE5 3
         have k4 := blk_frozen hE5 4
         have k5 := blk_frozen hE5 5
         clear hE5
         go_wp2_with fail
         obtain ⟨X0,hX0⟩ : ∃ X0,X0 = ((((((w3.setCell ⟨(w.heap.size+1),0,none⟩ (.int .i64 0)).setCell ⟨(w.heap.size+1),1,none⟩ (.int .u8 3)).setCell ⟨(w.heap.size+1),2,none⟩ (.int .i64 ((n : Int)+1))).setCell ⟨(w.heap.size+1),3,none⟩ (.int .i64 0)).setCell ⟨(w.heap.size+1),4,none⟩ (.int .i64 D)).setCell ⟨(w.heap.size+1),5,none⟩ (.int .i64 0)) := ⟨_,rfl⟩
         rw [← hX0]
         obtain ⟨hXk,r0,r1,r2,r3,r4,r5⟩ := ev_box HE3.out rfl _ _ _ _ _ _ hX0
         have hBX : Below Bo w X0 := HB3.out.trans (hXk.below HS3.out.lo (fun q e => by rw [e]; have := H.out.lo; omega))
         have hSX := HS3.out.junk (hXk.mono fun q e => by rw [e]; exact Hbox1.out)
         clear hX0
         refine bodyPost_ret (v := .tuple #[.agg #[.int .i64 0,.int .u8 3,.int .i64 ((n : Int)+1),.int .i64 0,.int .i64 D,.int .i64 0],.bool true]) (by simp [results,Tryz.results49,go_sem,r0,r1,r2,r3,r4,r5]) rfl ⟨3,((n : Int)+1),0,D,by rw [HR.out],⟨hBX,hSX.markOk Hlow1.out H.out.fr.1⟩,fun _ => by rw [HR.out]; exact ⟨rfl,rfl,rfl,rfl,φ1,_,Hlow1.out,hSX,by first | exact Nat.le_succ _ | exact Nat.le_refl _⟩⟩
end Go.Proofs.YtcjmppjppmiggaaGreat

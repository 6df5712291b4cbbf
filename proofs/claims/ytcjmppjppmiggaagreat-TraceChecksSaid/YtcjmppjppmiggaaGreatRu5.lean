/- The document's story: a lane's step. (Printed by gen_ru5.py.) -/
import Derived.Test.YtcjmppjppmiggaaGreatRu3
import Derived.Test.YtcjmppjppmiggaaGreatSt5
namespace Go.Proofs.YtcjmppjppmiggaaGreat
open Go.RowKit
set_option linter.unusedVariables false
set_option linter.unusedSimpArgs false

open Go.Maps
set_option maxRecDepth 100000
theorem countL_eq : ∀ ws : List Wr,countingL ws = cntW ws
 | [] => rfl
 | x :: r => by
   have ih := countL_eq r
   unfold countingL cntW
   rw [ih]; rfl
theorem info_wait : (Tryz.prog.info? 146).map (fun i => (i.zero,i.size,i.bytes)) = some (some (.agg #[.int .i64 0,.int .i64 0]),2,16) := by kernel_rfl
section
variable {w w' : World} {φ : Nat→Nat} {Bo : Nat} {c : Cfg} {rs rs' : List RTx} {by_ : List Int} {a : RA} {x : RG} {s : TS}
theorem RsH.holeQ (h : RsAt w φ Bo c rs rs' by_ a x s) {K : Nat} {q : List (Int × Int)} {lq : SL} (hq : s.qs[K]? = some q) (hl : x.QA[K]? = some lq) (k : Kept w w' (fun b => ∃ ad,lq.A = some ad∧b = ad.block)) : RsH w' φ Bo (fun j => j = 100+K) c rs rs' by_ a x s :=
 h.kept (I := fun j => j = 100+K) (k.mono fun b ⟨ad,e,e2⟩ => by rw [e2]; exact (h.qw K q lq hq hl (fun h => h)).2 ad e) (by omega) (by omega) (fun _ h => h.elim)
theorem RsH.takeLane (h : RsAt w φ Bo c rs rs' by_ a x s) {i : Nat} {hh : Ln} {ll : RL} (hhj : s.lanes[i]? = some hh) (hlj : x.LA[i]? = some ll) (hn0 : hh.num = 0) {n : Nat} (hn : n≠0) {r : RTx} (hr : r.ws = wsOf rs (n - 1)) (hws : WsAt w Bo r.A r.len r.ws) (hcap : r.len≤r.cap) (h32 : r.len≤32)
    (hW : w' = ((((w.setCell ⟨a.ln,i * 5,none⟩ (.int .i64 n)).setCell ⟨a.ln,i * 5+1,none⟩ (.slice r.A r.len r.cap)).setCell ⟨a.ln,i * 5+2,none⟩ (.bool true)).setCell ⟨a.ln,i * 5+3,none⟩ (.int .i64 0)).setCell ⟨a.ln,i * 5+4,none⟩ (.int .i64 0)) :
    RsAt w' φ Bo c rs rs' by_ a { x with LA := x.LA.set i ⟨n,⟨r.A,r.len,r.cap⟩,r.ws⟩ } { s with lanes := s.lanes.set i ⟨n,cntW (wsOf rs (n - 1)),0,0⟩ }∧Kept w w' (fun b => b = a.ln) := by
 have hb := (h.ln (fun h => h)).1
 have k : Kept w w' (fun b => b = a.ln) := by
  rw [hW]
  exact (((((Kept.refl w (fun b => b = a.ln)).setCell (p := ⟨a.ln,i * 5,none⟩) (Or.inl rfl) _).setCell (p := ⟨a.ln,i * 5+1,none⟩) (Or.inl rfl) _).setCell (p := ⟨a.ln,i * 5+2,none⟩) (Or.inl rfl) _).setCell (p := ⟨a.ln,i * 5+3,none⟩) (Or.inl rfl) _).setCell (p := ⟨a.ln,i * 5+4,none⟩) (Or.inl rfl) _
 refine ⟨h.setLane (k.mono fun b hb => by rw [hb]; exact h.fln.1) ?_ (fun _ => ⟨rfl,hr,by rw [hr],hws,hcap,h32⟩),k⟩
 have hx : (fun (l : List Value) => ((((l.set (i * 5+0) (.int .i64 n)).set (i * 5+1) (.slice r.A r.len r.cap)).set (i * 5+2) (.bool true)).set (i * 5+3) (.int .i64 0)).set (i * 5+4) (.int .i64 0)) (rlanesC s.lanes x.LA) = rlanesC (s.lanes.set i ⟨n,cntW (wsOf rs (n - 1)),0,0⟩) (x.LA.set i ⟨n,⟨r.A,r.len,r.cap⟩,r.ws⟩) := by
  simp only
  have hi1 : i < s.lanes.length := (List.getElem?_eq_some_iff.1 hhj).1
  have hi2 : i < x.LA.length := (List.getElem?_eq_some_iff.1 hlj).1
  have g1 : ∀ y,(s.lanes.set i y)[i]? = some y := fun y => List.getElem?_set_self hi1
  have g2 : ∀ y,(x.LA.set i y)[i]? = some y := fun y => List.getElem?_set_self hi2
  rw [rlanes_set hhj hlj (j := 0) (h' := hh) (l' := { ll with num := n }) (by omega) (by simp [rlaneC]),
   rlanes_set (g1 _) (g2 _) (j := 1) (h' := hh) (l' := ⟨n,⟨r.A,r.len,r.cap⟩,r.ws⟩) (by omega) (by simp [rlaneC,SL.v]),
   List.set_set,List.set_set,
   rlanes_set (g1 _) (g2 _) (j := 2) (h' := ⟨n,cntW (wsOf rs (n - 1)),hh.sent,hh.ack⟩) (l' := ⟨n,⟨r.A,r.len,r.cap⟩,r.ws⟩) (by omega) (by simp [rlaneC,hn]),
   List.set_set,List.set_set,
   rlanes_set (g1 _) (g2 _) (j := 3) (h' := ⟨n,cntW (wsOf rs (n - 1)),0,hh.ack⟩) (l' := ⟨n,⟨r.A,r.len,r.cap⟩,r.ws⟩) (by omega) (by simp [rlaneC]),
   List.set_set,List.set_set,
   rlanes_set (g1 _) (g2 _) (j := 4) (h' := ⟨n,cntW (wsOf rs (n - 1)),0,0⟩) (l' := ⟨n,⟨r.A,r.len,r.cap⟩,r.ws⟩) (by omega) (by simp [rlaneC]),
   List.set_set,List.set_set]
 rw [hW,blk_set (blk_set (blk_set (blk_set (blk_set hb _ _) _ _) _ _) _ _) _ _]
 simp only [List.setIfInBounds_toArray]
 simp only [Nat.add_zero] at hx
 rw [hx]
end
set_option maxHeartbeats 4000000 in
theorem r21lane_any (φ : Nat→Nat) (Bo : Nat) (c : Cfg) (rs rs' : List RTx) (by_ : List Int) (M k : Nat) (a : RA) (x : RG) (s : TS) (e : Ev) (i : Nat) (w : World) (h0 : RsAt w φ Bo c rs rs' by_ a x s) (hi : SInv c rs rs' M k s) (hc : c.ok = true) (hrl : rs.length≤65536)
    (hlog : ∀ (i : Nat) (r : RTx),rs[i]? = some r→txB r.number r.ws = true∧r.number = (i : Int)+1) (hrc : ∀ r ∈ rs,r.len≤r.cap) (he : e.task = (i : Int)+1) (hi1 : (i : Int) < c.lanes) (hk : k≤4398046511104) :
    Calls Tryz.prog 50 #[ptrV a.g,.agg #[.int .i64 e.task,.int .u8 e.kind,.int .i64 e.number,.int .i64 e.shard,.int .i64 e.count,.int .i64 e.mark]] w (RTaskEnd w φ Bo c rs rs' by_ a x.bd (s.lane c rs i)) := by
 obtain ⟨φ0,hφ0⟩ : ∃ φ0 : Nat→Nat,φ0 = fun b => if b < w.heap.size then φ b else 50 := ⟨_,rfl⟩
 have hφ1 : ∀ b,b < w.heap.size→φ0 b = φ b := fun b hb => by rw [hφ0]; simp only [if_pos hb]
 have hφ2 : ∀ b,w.heap.size≤b→φ0 b = 50 := fun b hb => by rw [hφ0]; simp only [if_neg (show ¬ b < w.heap.size by omega)]
 have h : RsAt w φ0 Bo c rs rs' by_ a x s := h0.relabel hφ1
 have Hφ1 := Lib.hid hφ1
 have Hφ2 := Lib.hid hφ2
 clear hφ0 hφ1 hφ2 h0
 have H := Lib.hid h
 have HI := Lib.hid hi
 obtain ⟨W0,hW0⟩ : ∃ W0,W0 = (w.alloc (.cells #[.int .i64 e.task,.int .u8 e.kind,.int .i64 e.number,.int .i64 e.shard,.int .i64 e.count,.int .i64 e.mark] 51)).alloc (.cells #[.int .i64 0,.int .u8 0,.int .i64 0,.int .i64 0,.int .i64 0,.int .i64 0] 51) := ⟨_,rfl⟩
 have hb0 : Below w.heap.size w W0 := hW0 ▸ bel_alloc (bel_alloc (Below.refl _ _) _) _
 have hz0 : W0.heap.size = w.heap.size+2 := by rw [hW0]; simp
 have HE0 : Hid (W0.heap[(w.heap.size+1)]? = some evBox) := Lib.hid (by rw [hW0]; have := blk_new (w.alloc (.cells #[.int .i64 e.task,.int .u8 e.kind,.int .i64 e.number,.int .i64 e.shard,.int .i64 e.count,.int .i64 e.mark] 51)) (.cells #[.int .i64 0,.int .u8 0,.int .i64 0,.int .i64 0,.int .i64 0,.int .i64 0] 51); simpa [evBox] using this)
 have HV0 : Hid (W0.heap[w.heap.size]? = some (.cells #[.int .i64 e.task,.int .u8 e.kind,.int .i64 e.number,.int .i64 e.shard,.int .i64 e.count,.int .i64 e.mark] 51 (0,0))) := Lib.hid (by rw [hW0]; exact (Below.heap_alloc _ _ _ (by simp)).trans (blk_new _ _))
 have HS0 := Lib.hid (h.below hb0 (fun h => h) (fun h => h))
 have HB0 : Hid (Below Bo w W0) := Lib.hid (hb0.mono h.lo)
 have HZ0 := Lib.hid hz0
 have HW0 := Lib.hid hW0
 clear h hi hb0 hz0 hW0
 have hL : 1≤c.lanes∧c.lanes≤16∧1≤c.shards∧c.shards≤16∧1≤c.queue∧c.queue≤1024 := by simp [Cfg.ok,inB] at hc; omega
 obtain ⟨L,hL1⟩ : ∃ L : Nat,c.lanes = L := ⟨c.lanes.toNat,by omega⟩
 obtain ⟨S,hS1⟩ : ∃ S : Nat,c.shards = S := ⟨c.shards.toNat,by omega⟩
 have hll := HI.out.ll
 obtain ⟨hh,hhj⟩ : ∃ hh,s.lanes[i]? = some hh := ⟨_,List.getElem?_eq_getElem (by omega)⟩
 obtain ⟨ll,hlj⟩ : ∃ ll,x.LA[i]? = some ll := ⟨_,List.getElem?_eq_getElem (by have := (H.out.ln (fun h => h)).2; omega)⟩
 obtain ⟨R,hR⟩ : ∃ R,R = s.lane c rs i := ⟨_,rfl⟩
 rw [← hR]
 unfold TS.lane at hR
 rw [hhj] at hR
 simp only at hR
 have HR0 := Lib.hid hR
 unfold ptrV
 have d12 : W0.cell? ⟨a.g,12,none⟩ = some (.slice (some ⟨a.ln,0,none⟩) L L) := by
  have := HS0.out.st (fun h => h)
  unfold rstoryC at this
  rw [hL1] at this
  simp only [Int.toNat_natCast] at this
  exact blk_cell this 12
 have e12 : ∀ q : Ext W0,q.X.cell? ⟨a.g,12,none⟩ = some (.slice (some ⟨a.ln,0,none⟩) L L) := fun q => (q.h.cell (p := ⟨a.g,12,none⟩) HS0.out.fst.2.2).trans d12
 have et : ∀ q : Ext W0,q.X.cell? ⟨w.heap.size,0,none⟩ = some (.int .i64 ((i : Int)+1)) := fun q => (q.h.cell (p := ⟨w.heap.size,0,none⟩) (blk_lt HV0.out)).trans ((blk_cell HV0.out 0).trans (by rw [← he]; rfl))
 have hw1 : IntKind.i64.wrap ((i : Int)+1 - 1) = i := by rw [IntKind.wrap_i64]; omega
 have hwi : IntKind.i64.wrap (i : Int) = i := by rw [IntKind.wrap_i64]; omega
 have hi0 : (0 : Int)≤(i : Int) := by omega
 have hiL : (i : Int) < (L : Int) := by omega
 have HLc := Lib.hid (And.intro hL1 hS1)
 have HL := Lib.hid hL
 have He := Lib.hid he
 clear hR d12 hL hll hL1 hS1 hi1 he
 go_enter Tryz.func50,Tryz.ntmps50
 go_wp2_with fail
 rw [← HW0.out]
 refine wp_region_ext (by kernel_rfl) (by kernel_rfl) ?_
 repeat (go_big_quiet_step ((fail)))
 refine Ext.end_ fun X hX => ?_
 have HSX := Lib.hid (HS0.out.below hX (fun h => h) (fun h => h))
 have HEX : Hid (X.heap[(w.heap.size+1)]? = some evBox) := Lib.hid ((hX.block _ (blk_lt HE0.out)).trans HE0.out)
 have HBX : Hid (Below Bo w X) := Lib.hid (HB0.out.trans (hX.mono HS0.out.lo))
 have HVX : Hid (X.heap[w.heap.size]? = some (.cells #[.int .i64 e.task,.int .u8 e.kind,.int .i64 e.number,.int .i64 e.shard,.int .i64 e.count,.int .i64 e.mark] 51 (0,0))) := Lib.hid ((hX.block _ (blk_lt HV0.out)).trans HV0.out)
 clear e12 et hw1 hX
 by_cases hnum : hh.num = 0
 · skip
   have d2 : X.cell? ⟨a.ln,i * 5+2,none⟩ = some (.bool false) := by
    have := (HSX.out.lcell (i := i) hhj hlj 2 _ rfl).1
    simpa [hnum] using this
   have d10 : X.cell? ⟨a.g,10,none⟩ = some (.slice x.line.A x.line.n x.line.c) := blk_cell (HSX.out.st (fun h => h)) 10
   cases hline : s.line with
   | nil =>
     have HR : Hid (R = ((0,ev0,false),s)) := Lib.hid (by rw [HR0.out,if_pos hnum,hline])
     have hn0 : x.line.n = 0 := by have := (HSX.out.line (fun h => h)).1.len; rw [hline] at this; rw [← this]; rfl
     rw [hn0] at d10
     have hE5 := HEX.out
     have g0 := blk_cell hE5 0
     have g1 := blk_cell hE5 1
     have g2 := blk_cell hE5 2
     have g3 := blk_cell hE5 3
     have g4 := blk_cell hE5 4
     have g5 := blk_cell hE5 5
     have k0 := blk_frozen hE5 0
     have k1 := blk_frozen hE5 1
     have k2 := blk_frozen hE5 2
     have k3 := blk_frozen hE5 3
     have k4 := blk_frozen hE5 4
     have k5 := blk_frozen hE5 5
     clear hE5
     go_wp2_with fail
     obtain ⟨X0,hX0⟩ : ∃ X0,X0 = ((((((X.setCell ⟨(w.heap.size+1),0,none⟩ (.int .i64 0)).setCell ⟨(w.heap.size+1),1,none⟩ (.int .u8 0)).setCell ⟨(w.heap.size+1),2,none⟩ (.int .i64 0)).setCell ⟨(w.heap.size+1),3,none⟩ (.int .i64 0)).setCell ⟨(w.heap.size+1),4,none⟩ (.int .i64 0)).setCell ⟨(w.heap.size+1),5,none⟩ (.int .i64 0)) := ⟨_,rfl⟩
     rw [← hX0]
     obtain ⟨hXk,r0,r1,r2,r3,r4,r5⟩ := ev_box HEX.out rfl _ _ _ _ _ _ hX0
     have hBX : Below Bo w X0 := HBX.out.trans (hXk.below HSX.out.lo (fun q e => by rw [e]; have := H.out.lo; omega))
     have hSX := HSX.out.junk (hXk.mono fun q e => by rw [e]; exact Hφ2.out _ (by omega))
     clear hX0
     refine bodyPost_ret (v := .tuple #[.agg #[.int .i64 0,.int .u8 0,.int .i64 0,.int .i64 0,.int .i64 0,.int .i64 0],.bool false]) (by simp [results,Tryz.results50,go_sem,r0,r1,r2,r3,r4,r5]) rfl ⟨0,0,0,0,by rw [HR.out],⟨hBX,hSX.markOk Hφ1.out H.out.fr.1⟩,fun e => by rw [HR.out] at e; cases e⟩
   | cons n r =>
     have HRc : Hid (R = ((4,⟨0,0,n,0,0,0⟩,true),{ s with line := r,lanes := s.lanes.set i ⟨n,cntW (wsOf rs (n - 1)),0,0⟩ })) := Lib.hid (by rw [HR0.out,if_pos hnum,hline])
     have hb := HI.out.busy n (by rw [hline]; simp)
     have hml := HI.out.ml
     obtain ⟨m',hm'⟩ : ∃ m',n = m' + 1 := ⟨n - 1,by omega⟩
     subst hm'
     have HR : Hid (R = ((4,⟨0,0,((m' : Int)+1),0,0,0⟩,true),{ s with line := r,lanes := s.lanes.set i ⟨m' + 1,cntW (wsOf rs (m' + 1 - 1)),0,0⟩ })) := Lib.hid (by rw [HRc.out]; push_cast; rfl)
     obtain ⟨hTl,hAl⟩ := HSX.out.line (fun h => h)
     rw [hline] at hTl
     obtain ⟨b,off,y,hAe,hbl,hx,hxc⟩ := hTl.row.at_ (i := 0) (by rw [← hTl.len]; simp)
     have hy : y = m' + 1 := by simp at hx; exact hx.symm
     subst hy
     have hnl : x.line.n = r.length+1 := by rw [← hTl.len]; rfl
     obtain ⟨cl,hcl⟩ : ∃ cl,cl = x.line.c := ⟨_,rfl⟩
     rw [hnl,← hcl,hAe] at hTl
     rw [hnl,← hcl,hAe] at d10
     have Hcl := Lib.hid hcl
     have HAe := Lib.hid hAe
     have Hnl := Lib.hid hnl
     clear hcl hAe hnl
     rw [HAe.out] at hAl
     have Hpop := Lib.hid hTl.pop
     have HAl := Lib.hid hAl
     have hcap := hTl.le
     have yb : X.cell? ⟨b,off,none⟩ = some (.int .i64 ((m' : Int)+1)) := by
      have := hxc 0 _ rfl
      simpa using this
     have eb : ∀ q : Ext X,q.X.cell? ⟨b,off,none⟩ = some (.int .i64 ((m' : Int)+1)) := fun q => (q.h.cell (p := ⟨b,off,none⟩) hbl).trans yb
     have hal : rs.length = a.n := H.out.log.1.len
     obtain ⟨b2,off2,r0,hA2,hbl2,hx2,z0,z1,hws0,hrl0⟩ := HSX.out.log.cell2 (i := m') (by omega)
     obtain ⟨htx,hrn⟩ := hlog m' r0 hx2
     rw [hrn] at z0
     have hwsr : wsOf rs (m' + 1 - 1) = r0.ws := by rw [Nat.add_sub_cancel]; exact wsOf_at hx2
     have hcap0 := hrc r0 (List.mem_of_getElem? hx2)
     have h320 : r0.len≤32 := by
      simp only [txB,Bool.and_eq_true,decide_eq_true_eq] at htx
      rw [← hws0.len]; exact htx.1.2
     have Hws0 := Lib.hid hws0
     have d4 : X.cell? ⟨a.g,4,none⟩ = some (.slice a.A a.n a.cap) := blk_cell (HSX.out.st (fun h => h)) 4
     rw [hA2] at d4
     have e4 : ∀ q : Ext X,q.X.cell? ⟨a.g,4,none⟩ = some (.slice (some ⟨b2,off2,none⟩) a.n a.cap) := fun q => (q.h.cell (p := ⟨a.g,4,none⟩) HSX.out.fst.2.2).trans d4
     have hblX : b2 < X.heap.size := Nat.lt_of_lt_of_le hbl2 HSX.out.lo
     have ey0 : ∀ q : Ext X,q.X.cell? ⟨b2,off2+m' * 2,none⟩ = some (.int .i64 ((m' : Int)+1)) := fun q => (q.h.cell (p := ⟨b2,off2+m' * 2,none⟩) hblX).trans z0
     have ey1 : ∀ q : Ext X,q.X.cell? ⟨b2,off2+m' * 2+1,none⟩ = some (.slice r0.A r0.len r0.cap) := fun q => (q.h.cell (p := ⟨b2,off2+m' * 2+1,none⟩) hblX).trans z1
     have hw3 : IntKind.i64.wrap ((m' : Int)+1 - 1) = m' := by rw [IntKind.wrap_i64]; omega
     have hw4 : IntKind.i64.wrap (m' : Int) = m' := by rw [IntKind.wrap_i64]; omega
     have hn0 : (0 : Int)≤(m' : Int) := by omega
     have hna : (m' : Int) < (a.n : Int) := by omega
     have hr1 : (0 : Int) < (r.length : Int)+1 := by omega
     have hr2 : ((r.length : Int)+1 == 0) = false := by simpa using (show ¬ ((r.length : Int)+1 = 0) by omega)
     have h01 : decide ((0 : Int) < ((r.length+1 : Nat) : Int)) = true := decide_eq_true (by omega)
     have h02 : (0 : Int) < ((r.length+1 : Nat) : Int) := by omega
     have h04 : decide (0 < r.length+1) = true := decide_eq_true (by omega)
     have h05 : decide ((0 : Int) < ((1 : Nat) : Int)) = true := by decide
     have h06 : (0 : Int) < ((1 : Nat) : Int) := by omega
     have hnat : m' < a.n := by omega
     have dn1 : decide ((m' : Int) < (a.n : Int)) = true := decide_eq_true hna
     have dn2 : decide (m' < a.n) = true := decide_eq_true hnat
     have dn3 : decide (0≤(m' : Int)) = true := decide_eq_true hn0
     clear hTl hAl hx hxc hx2 z0 z1 hws0 htx d4 yb hrl0
     go_wp2_with fail
     by_cases hc1 : cl = 1
     · skip
       have hr0 : Hid (r = []) := Lib.hid (List.eq_nil_of_length_eq_zero (by omega))
       have hrl0 : r.length = 0 := by rw [hr0.out]; rfl
       subst hc1
       simp only [hrl0,Nat.zero_add] at d10
       have HT1 : Hid (TkAt natC 1 3 X Bo (some ⟨b,off,none⟩) 0 0 r) := Lib.hid (by have := Hpop.out; rw [hr0.out] at this ⊢; simpa using this)
       have HA1 : Hid (At φ0 10 (some ⟨b,off,none⟩)) := Lib.hid HAl.out
       have e10 : ∀ q : Ext X,q.X.cell? ⟨a.g,10,none⟩ = some (.slice (some ⟨b,off,none⟩) 1 1) := fun q => (q.h.cell (p := ⟨a.g,10,none⟩) HSX.out.fst.2.2).trans d10
       refine wp_region_ext_tail 16 (by kernel_rfl) (by kernel_rfl) ?_
       simp only [List.take_succ_cons,List.take_zero,List.drop_succ_cons,List.drop_zero]
       repeat (go_big_quiet_step (fail))
       refine Ext.tail fun Y hY => ?_
       clear e4 eb ey0 ey1
       have hSY := HSX.out.below hY (fun h => h) (fun h => h)
       have t0 : Y.cell? ⟨a.ln,i * 5,none⟩ = some (.int .i64 ll.num) := (hSY.lcell (i := i) hhj hlj 0 _ rfl).1
       have tf0 : Y.frozen? ⟨a.ln,i * 5,none⟩ = false := (hSY.lcell (i := i) hhj hlj 0 _ rfl).2
       have t1 : Y.cell? ⟨a.ln,i * 5+1,none⟩ = some (.slice ll.W.A ll.W.n ll.W.c) := (hSY.lcell (i := i) hhj hlj 1 _ rfl).1
       have tf1 : Y.frozen? ⟨a.ln,i * 5+1,none⟩ = false := (hSY.lcell (i := i) hhj hlj 1 _ rfl).2
       have t2 : Y.cell? ⟨a.ln,i * 5+2,none⟩ = some (.bool (decide (hh.num≠0))) := (hSY.lcell (i := i) hhj hlj 2 _ rfl).1
       have tf2 : Y.frozen? ⟨a.ln,i * 5+2,none⟩ = false := (hSY.lcell (i := i) hhj hlj 2 _ rfl).2
       have t3 : Y.cell? ⟨a.ln,i * 5+3,none⟩ = some (.int .i64 hh.sent) := (hSY.lcell (i := i) hhj hlj 3 _ rfl).1
       have tf3 : Y.frozen? ⟨a.ln,i * 5+3,none⟩ = false := (hSY.lcell (i := i) hhj hlj 3 _ rfl).2
       have t4 : Y.cell? ⟨a.ln,i * 5+4,none⟩ = some (.int .i64 hh.ack) := (hSY.lcell (i := i) hhj hlj 4 _ rfl).1
       have tf4 : Y.frozen? ⟨a.ln,i * 5+4,none⟩ = false := (hSY.lcell (i := i) hhj hlj 4 _ rfl).2
       have d10Y := e10 ⟨Y,hY⟩
       have f10Y : Y.frozen? ⟨a.g,10,none⟩ = false := blk_frozen (hSY.st (fun h => h)) 10
       have HEY : Hid (Y.heap[w.heap.size+1]? = some evBox) := Lib.hid ((hY.block _ (blk_lt HEX.out)).trans HEX.out)
       obtain ⟨W2,hW2⟩ : ∃ W2,W2 = ((((Y.setCell ⟨a.ln,i * 5,none⟩ (.int .i64 ((m' : Int)+1))).setCell ⟨a.ln,i * 5+1,none⟩ (.slice r0.A r0.len r0.cap)).setCell ⟨a.ln,i * 5+2,none⟩ (.bool true)).setCell ⟨a.ln,i * 5+3,none⟩ (.int .i64 0)).setCell ⟨a.ln,i * 5+4,none⟩ (.int .i64 0) := ⟨_,rfl⟩
       obtain ⟨hS2,hk2⟩ := hSY.takeLane (w' := W2) hhj hlj hnum (n := m' + 1) (by omega) (r := r0) hwsr.symm (Hws0.out.below (hY.mono HSX.out.lo)) hcap0 h320 (by rw [hW2]; push_cast; rfl)
       obtain ⟨W3,hW3⟩ : ∃ W3,W3 = W2.setCell ⟨a.g,10,none⟩ (.slice (some ⟨b,off,none⟩) 0 0) := ⟨_,rfl⟩
       have hTy : TkAt natC 1 3 W2 Bo (some ⟨b,off,none⟩) 0 0 r := (HT1.out.below hY).kept hk2 (fun ad e e2 => by
        have h1 := HA1.out ad e
        rw [e2,hSY.fln.1] at h1; omega)
       have hst2 := hS2.st (fun h => h)
       have u10 : W2.cell? ⟨a.g,10,none⟩ = some (.slice (some ⟨b,off,none⟩) 1 1) := (hk2.cell hSY.fst.2.2 (fun e => by have := hSY.fst.1; rw [e,hSY.fln.1] at this; omega)).trans d10Y
       have uf10 : W2.frozen? ⟨a.g,10,none⟩ = false := blk_frozen hst2 10
       have HS3 := Lib.hid (show RsAt W3 φ0 Bo c rs rs' by_ a _ _ from hW3 ▸ hS2.setLine (fun _ h => h.elim) hTy HA1.out)
       have hk3 : Kept W2 W3 (fun q => q = a.g) := hW3 ▸ (Kept.refl W2 (fun q => q = a.g)).setCell (p := ⟨a.g,10,none⟩) (Or.inl rfl) _
       have HB3 : Hid (Below Bo w W3) := Lib.hid (HBX.out.trans ((hY.mono HSX.out.lo).trans ((hk2.below hSY.lo (fun q e => by rw [e]; exact hSY.fln.2.1)).trans (hk3.below hS2.lo (fun q e => by rw [e]; exact hSY.fst.2.1)))))
       have HE3 : Hid (W3.heap[w.heap.size+1]? = some evBox) := Lib.hid (hk3.blk (hk2.blk HEY.out (blk_lt HEY.out) (by have := H.out.fln.2.2; omega)) (by have := blk_lt HEY.out; have := hk2.size; omega) (by have := H.out.fst.2.2; omega))
       have l0 : W3.cell? ⟨a.ln,i * 5,none⟩ = some (.int .i64 ((m' : Int)+1)) := by
        have h1 : i < s.lanes.length := (List.getElem?_eq_some_iff.1 hhj).1
        have h2 : i < x.LA.length := (List.getElem?_eq_some_iff.1 hlj).1
        have := (HS3.out.lcell (i := i) (List.getElem?_set_self h1) (List.getElem?_set_self h2) 0 _ rfl).1
        simpa using this
       clear hS2 hk2 hk3 hTy hst2 hSY e10 hY d10Y f10Y
       rw [hW2] at u10 uf10 hW3
       have hE5 := HE3.out
       have g0 := blk_cell hE5 0
       have g1 := blk_cell hE5 1
       have g2 := blk_cell hE5 2
       have g3 := blk_cell hE5 3
       have g4 := blk_cell hE5 4
       have g5 := blk_cell hE5 5
       have k0 := blk_frozen hE5 0
       have k1 := blk_frozen hE5 1
       have k2 := blk_frozen hE5 2
       have k3 := blk_frozen hE5 3
       have k4 := blk_frozen hE5 4
       have k5 := blk_frozen hE5 5
       clear hE5
       rw [hW3] at g0 k0 g1 k1 g2 k2 g3 k3 g4 k4 g5 k5 l0
       go_wp2_with fail
       rw [← hW3]
       clear hW3
       obtain ⟨X0,hX0⟩ : ∃ X0,X0 = ((((((W3.setCell ⟨(w.heap.size+1),0,none⟩ (.int .i64 0)).setCell ⟨(w.heap.size+1),1,none⟩ (.int .u8 4)).setCell ⟨(w.heap.size+1),2,none⟩ (.int .i64 ((m' : Int)+1))).setCell ⟨(w.heap.size+1),3,none⟩ (.int .i64 0)).setCell ⟨(w.heap.size+1),4,none⟩ (.int .i64 0)).setCell ⟨(w.heap.size+1),5,none⟩ (.int .i64 0)) := ⟨_,rfl⟩
       rw [← hX0]
       obtain ⟨hXk,r0,r1,r2,r3,r4,r5⟩ := ev_box HE3.out rfl _ _ _ _ _ _ hX0
       have hBX : Below Bo w X0 := HB3.out.trans (hXk.below HS3.out.lo (fun q e => by rw [e]; have := H.out.lo; omega))
       have hSX := HS3.out.junk (hXk.mono fun q e => by rw [e]; exact Hφ2.out _ (by omega))
       clear hX0
       refine bodyPost_ret (v := .tuple #[.agg #[.int .i64 0,.int .u8 4,.int .i64 ((m' : Int)+1),.int .i64 0,.int .i64 0,.int .i64 0],.bool true]) (by simp [results,Tryz.results50,go_sem,r0,r1,r2,r3,r4,r5]) rfl ⟨4,((m' : Int)+1),0,0,by rw [HR.out],⟨hBX,hSX.markOk Hφ1.out H.out.fr.1⟩,fun _ => by rw [HR.out]; exact ⟨rfl,rfl,rfl,rfl,φ0,_,Hφ1.out,hSX,by first | exact Nat.le_succ _ | exact Nat.le_refl _⟩⟩
     · skip
       have HT1 : Hid (TkAt natC 1 3 X Bo (some ⟨b,off+1,none⟩) r.length (cl - 1) r) := Lib.hid (by have := Hpop.out; rw [if_neg hc1] at this; simpa [Addr.add_lit] using this)
       have HA1 : Hid (At φ0 10 (some ⟨b,off+1,none⟩)) := Lib.hid (by intro q e; injection e with e; subst e; have := HAl.out ⟨b,off,none⟩ rfl; exact this)
       have e10 : ∀ q : Ext X,q.X.cell? ⟨a.g,10,none⟩ = some (.slice (some ⟨b,off,none⟩) (r.length+1) cl) := fun q => (q.h.cell (p := ⟨a.g,10,none⟩) HSX.out.fst.2.2).trans d10
       refine wp_region_ext_tail 16 (by kernel_rfl) (by kernel_rfl) ?_
       simp only [List.take_succ_cons,List.take_zero,List.drop_succ_cons,List.drop_zero]
       repeat (go_big_quiet_step (fail))
       refine Ext.tail fun Y hY => ?_
       clear e4 eb ey0 ey1
       have hSY := HSX.out.below hY (fun h => h) (fun h => h)
       have t0 : Y.cell? ⟨a.ln,i * 5,none⟩ = some (.int .i64 ll.num) := (hSY.lcell (i := i) hhj hlj 0 _ rfl).1
       have tf0 : Y.frozen? ⟨a.ln,i * 5,none⟩ = false := (hSY.lcell (i := i) hhj hlj 0 _ rfl).2
       have t1 : Y.cell? ⟨a.ln,i * 5+1,none⟩ = some (.slice ll.W.A ll.W.n ll.W.c) := (hSY.lcell (i := i) hhj hlj 1 _ rfl).1
       have tf1 : Y.frozen? ⟨a.ln,i * 5+1,none⟩ = false := (hSY.lcell (i := i) hhj hlj 1 _ rfl).2
       have t2 : Y.cell? ⟨a.ln,i * 5+2,none⟩ = some (.bool (decide (hh.num≠0))) := (hSY.lcell (i := i) hhj hlj 2 _ rfl).1
       have tf2 : Y.frozen? ⟨a.ln,i * 5+2,none⟩ = false := (hSY.lcell (i := i) hhj hlj 2 _ rfl).2
       have t3 : Y.cell? ⟨a.ln,i * 5+3,none⟩ = some (.int .i64 hh.sent) := (hSY.lcell (i := i) hhj hlj 3 _ rfl).1
       have tf3 : Y.frozen? ⟨a.ln,i * 5+3,none⟩ = false := (hSY.lcell (i := i) hhj hlj 3 _ rfl).2
       have t4 : Y.cell? ⟨a.ln,i * 5+4,none⟩ = some (.int .i64 hh.ack) := (hSY.lcell (i := i) hhj hlj 4 _ rfl).1
       have tf4 : Y.frozen? ⟨a.ln,i * 5+4,none⟩ = false := (hSY.lcell (i := i) hhj hlj 4 _ rfl).2
       have d10Y := e10 ⟨Y,hY⟩
       have f10Y : Y.frozen? ⟨a.g,10,none⟩ = false := blk_frozen (hSY.st (fun h => h)) 10
       have HEY : Hid (Y.heap[w.heap.size+1]? = some evBox) := Lib.hid ((hY.block _ (blk_lt HEX.out)).trans HEX.out)
       obtain ⟨W2,hW2⟩ : ∃ W2,W2 = ((((Y.setCell ⟨a.ln,i * 5,none⟩ (.int .i64 ((m' : Int)+1))).setCell ⟨a.ln,i * 5+1,none⟩ (.slice r0.A r0.len r0.cap)).setCell ⟨a.ln,i * 5+2,none⟩ (.bool true)).setCell ⟨a.ln,i * 5+3,none⟩ (.int .i64 0)).setCell ⟨a.ln,i * 5+4,none⟩ (.int .i64 0) := ⟨_,rfl⟩
       obtain ⟨hS2,hk2⟩ := hSY.takeLane (w' := W2) hhj hlj hnum (n := m' + 1) (by omega) (r := r0) hwsr.symm (Hws0.out.below (hY.mono HSX.out.lo)) hcap0 h320 (by rw [hW2]; push_cast; rfl)
       obtain ⟨W3,hW3⟩ : ∃ W3,W3 = W2.setCell ⟨a.g,10,none⟩ (.slice (some ⟨b,off+1,none⟩) r.length (cl - 1)) := ⟨_,rfl⟩
       have hTy : TkAt natC 1 3 W2 Bo (some ⟨b,off+1,none⟩) r.length (cl - 1) r := (HT1.out.below hY).kept hk2 (fun ad e e2 => by
        have h1 := HA1.out ad e
        rw [e2,hSY.fln.1] at h1; omega)
       have hst2 := hS2.st (fun h => h)
       have u10 : W2.cell? ⟨a.g,10,none⟩ = some (.slice (some ⟨b,off,none⟩) (r.length+1) cl) := (hk2.cell hSY.fst.2.2 (fun e => by have := hSY.fst.1; rw [e,hSY.fln.1] at this; omega)).trans d10Y
       have uf10 : W2.frozen? ⟨a.g,10,none⟩ = false := blk_frozen hst2 10
       have HS3 := Lib.hid (show RsAt W3 φ0 Bo c rs rs' by_ a _ _ from hW3 ▸ hS2.setLine (fun _ h => h.elim) hTy HA1.out)
       have hk3 : Kept W2 W3 (fun q => q = a.g) := hW3 ▸ (Kept.refl W2 (fun q => q = a.g)).setCell (p := ⟨a.g,10,none⟩) (Or.inl rfl) _
       have HB3 : Hid (Below Bo w W3) := Lib.hid (HBX.out.trans ((hY.mono HSX.out.lo).trans ((hk2.below hSY.lo (fun q e => by rw [e]; exact hSY.fln.2.1)).trans (hk3.below hS2.lo (fun q e => by rw [e]; exact hSY.fst.2.1)))))
       have HE3 : Hid (W3.heap[w.heap.size+1]? = some evBox) := Lib.hid (hk3.blk (hk2.blk HEY.out (blk_lt HEY.out) (by have := H.out.fln.2.2; omega)) (by have := blk_lt HEY.out; have := hk2.size; omega) (by have := H.out.fst.2.2; omega))
       have l0 : W3.cell? ⟨a.ln,i * 5,none⟩ = some (.int .i64 ((m' : Int)+1)) := by
        have h1 : i < s.lanes.length := (List.getElem?_eq_some_iff.1 hhj).1
        have h2 : i < x.LA.length := (List.getElem?_eq_some_iff.1 hlj).1
        have := (HS3.out.lcell (i := i) (List.getElem?_set_self h1) (List.getElem?_set_self h2) 0 _ rfl).1
        simpa using this
       clear hS2 hk2 hk3 hTy hst2 hSY e10 hY d10Y f10Y
       rw [hW2] at u10 uf10 hW3
       have hE5 := HE3.out
       have g0 := blk_cell hE5 0
       have g1 := blk_cell hE5 1
       have g2 := blk_cell hE5 2
       have g3 := blk_cell hE5 3
       have g4 := blk_cell hE5 4
       have g5 := blk_cell hE5 5
       have k0 := blk_frozen hE5 0
       have k1 := blk_frozen hE5 1
       have k2 := blk_frozen hE5 2
       have k3 := blk_frozen hE5 3
       have k4 := blk_frozen hE5 4
       have k5 := blk_frozen hE5 5
       clear hE5
       rw [hW3] at g0 k0 g1 k1 g2 k2 g3 k3 g4 k4 g5 k5 l0
       go_wp2_with fail
       rw [← hW3]
       clear hW3
       obtain ⟨X0,hX0⟩ : ∃ X0,X0 = ((((((W3.setCell ⟨(w.heap.size+1),0,none⟩ (.int .i64 0)).setCell ⟨(w.heap.size+1),1,none⟩ (.int .u8 4)).setCell ⟨(w.heap.size+1),2,none⟩ (.int .i64 ((m' : Int)+1))).setCell ⟨(w.heap.size+1),3,none⟩ (.int .i64 0)).setCell ⟨(w.heap.size+1),4,none⟩ (.int .i64 0)).setCell ⟨(w.heap.size+1),5,none⟩ (.int .i64 0)) := ⟨_,rfl⟩
       rw [← hX0]
       obtain ⟨hXk,r0,r1,r2,r3,r4,r5⟩ := ev_box HE3.out rfl _ _ _ _ _ _ hX0
       have hBX : Below Bo w X0 := HB3.out.trans (hXk.below HS3.out.lo (fun q e => by rw [e]; have := H.out.lo; omega))
       have hSX := HS3.out.junk (hXk.mono fun q e => by rw [e]; exact Hφ2.out _ (by omega))
       clear hX0
       refine bodyPost_ret (v := .tuple #[.agg #[.int .i64 0,.int .u8 4,.int .i64 ((m' : Int)+1),.int .i64 0,.int .i64 0,.int .i64 0],.bool true]) (by simp [results,Tryz.results50,go_sem,r0,r1,r2,r3,r4,r5]) rfl ⟨4,((m' : Int)+1),0,0,by rw [HR.out],⟨hBX,hSX.markOk Hφ1.out H.out.fr.1⟩,fun _ => by rw [HR.out]; exact ⟨rfl,rfl,rfl,rfl,φ0,_,Hφ1.out,hSX,by first | exact Nat.le_succ _ | exact Nat.le_refl _⟩⟩
 · skip
   obtain ⟨q1,q2,q3,q4,q5,q6⟩ := HSX.out.lw i hh ll hhj hlj hnum
   have d2 : X.cell? ⟨a.ln,i * 5+2,none⟩ = some (.bool true) := by
    have := (HSX.out.lcell (i := i) hhj hlj 2 _ rfl).1
    simpa [hnum] using this
   have d0 : X.cell? ⟨a.ln,i * 5,none⟩ = some (.int .i64 ll.num) := (HSX.out.lcell (i := i) hhj hlj 0 _ rfl).1
   have d1 : X.cell? ⟨a.ln,i * 5+1,none⟩ = some (.slice ll.W.A ll.W.n ll.W.c) := (HSX.out.lcell (i := i) hhj hlj 1 _ rfl).1
   have Hcnt := Lib.hid (rcounting_any (ll.num : Int) ll.W.A ll.W.n ll.W.c ll.ws X (q4.more HSX.out.lo) q6)
   have Hq3 := Lib.hid q3
   have Hq1 := Lib.hid q1
   have hlw := HI.out.lw hh (List.mem_of_getElem? hhj)
   have Hlw := Lib.hid hlw
   clear q2 q3 q4 q5 q6 q1 hlw
   go_wp2_with fail
   refine Hcnt.out.mono ?_
   rintro e' Z ⟨v,rfl,hown,hbz⟩
   rw [countL_eq,← Hq3.out] at hown
   obtain ⟨Ac,cc,rfl,hAc,hTc⟩ := TkAt.own (cells := Wr.cells) (B := Bo) (fun x _ => rfl) hown (by have := HSX.out.lo; omega)
   have HTc := Lib.hid hTc
   have HSZ := Lib.hid (HSX.out.below hbz (fun h => h) (fun h => h))
   have HEZ : Hid (Z.heap[w.heap.size+1]? = some evBox) := Lib.hid ((hbz.block _ (blk_lt HEX.out)).trans HEX.out)
   have HVZ : Hid (Z.heap[w.heap.size]? = some (.cells #[.int .i64 e.task,.int .u8 e.kind,.int .i64 e.number,.int .i64 e.shard,.int .i64 e.count,.int .i64 e.mark] 51 (0,0))) := Lib.hid ((hbz.block _ (blk_lt HVX.out)).trans HVX.out)
   have HBZ : Hid (Below Bo w Z) := Lib.hid (HBX.out.trans (hbz.mono HSX.out.lo))
   have s3 : Z.cell? ⟨a.ln,i * 5+3,none⟩ = some (.int .i64 hh.sent) := (HSZ.out.lcell (i := i) hhj hlj 3 _ rfl).1
   clear d0 d1 d2 Hcnt hown hAc hTc hbz
   by_cases hsent : hh.sent < hh.ws.length
   · have hsI : (hh.sent : Int) < (hh.ws.length : Int) := by omega
     have hs0 : (0 : Int)≤(hh.sent : Int) := by omega
     obtain ⟨xw,hxw⟩ : ∃ xw,hh.ws[hh.sent]? = some xw := ⟨_,List.getElem?_eq_getElem hsent⟩
     have hwb := Hlw.out.2.2.2 xw (List.mem_of_getElem? hxw)
     have hk1 : 1≤xw.key.size∧xw.key.size≤64 := by simp [wrB,keyB] at hwb; omega
     obtain ⟨K,hK⟩ : ∃ K,K = shd c xw.key := ⟨_,rfl⟩
     have hKS : K < S := by
      rw [hK]; unfold shd
      have h1 := HLc.out.2
      have h2 := HL.out
      exact Nat.lt_of_lt_of_le (Nat.mod_lt _ (by omega)) (by omega)
     have HN := Lib.hid (fun q : Ext Z => Ext.call (rshard_any c xw.key q.X hc hk1.1 hk1.2))
     rw [← hK] at HN
     obtain ⟨bw,ow,xw',hAce,hblw,hxw2,hwc⟩ := HTc.out.row.at_ hsent
     rw [hxw] at hxw2; injection hxw2 with hxw2; subst hxw2
     subst hAce
     have kw : ∀ q : Ext Z,q.X.cell? ⟨bw,ow+hh.sent * 3,none⟩ = some (.string xw.key) := fun q => (q.h.cell (p := ⟨bw,ow+hh.sent * 3,none⟩) hblw).trans (by simpa using hwc 0 _ rfl)
     have ks : ∀ q : Ext Z,q.X.cell? ⟨a.ln,i * 5+3,none⟩ = some (.int .i64 hh.sent) := fun q => (q.h.cell (p := ⟨a.ln,i * 5+3,none⟩) HSZ.out.fln.2.2).trans s3
     have d0 : Z.cell? ⟨a.g,0,none⟩ = some (.int .i64 c.lanes) := blk_cell (HSZ.out.st (fun h => h)) 0
     have e0 : ∀ q : Ext Z,q.X.cell? ⟨a.g,0,none⟩ = some (.int .i64 c.lanes) := fun q => (q.h.cell (p := ⟨a.g,0,none⟩) HSZ.out.fst.2.2).trans d0
     have d1 : Z.cell? ⟨a.g,1,none⟩ = some (.int .i64 c.shards) := blk_cell (HSZ.out.st (fun h => h)) 1
     have e1 : ∀ q : Ext Z,q.X.cell? ⟨a.g,1,none⟩ = some (.int .i64 c.shards) := fun q => (q.h.cell (p := ⟨a.g,1,none⟩) HSZ.out.fst.2.2).trans d1
     have d2 : Z.cell? ⟨a.g,2,none⟩ = some (.int .i64 c.window) := blk_cell (HSZ.out.st (fun h => h)) 2
     have e2 : ∀ q : Ext Z,q.X.cell? ⟨a.g,2,none⟩ = some (.int .i64 c.window) := fun q => (q.h.cell (p := ⟨a.g,2,none⟩) HSZ.out.fst.2.2).trans d2
     have d3 : Z.cell? ⟨a.g,3,none⟩ = some (.int .i64 c.queue) := blk_cell (HSZ.out.st (fun h => h)) 3
     have e3 : ∀ q : Ext Z,q.X.cell? ⟨a.g,3,none⟩ = some (.int .i64 c.queue) := fun q => (q.h.cell (p := ⟨a.g,3,none⟩) HSZ.out.fst.2.2).trans d3
     have dn1 : decide ((hh.sent : Int) < (hh.ws.length : Int)) = true := decide_eq_true hsI
     have dn2 : decide (hh.sent < hh.ws.length) = true := decide_eq_true hsent
     have dn3 : decide (0≤(hh.sent : Int)) = true := decide_eq_true hs0
     have HK := Lib.hid hK
     have Hxw := Lib.hid hxw
     clear hK hxw hwc hwb d0 d1 d2 d3
     go_wp2_with fail
     refine wp_region_ext (by kernel_rfl) (by kernel_rfl) ?_
     repeat (go_big_quiet_step ((go_at_call 70; exact HN.out _)))
     refine Ext.end_ fun Y hY => ?_
     have HSY := Lib.hid (HSZ.out.below hY (fun h => h) (fun h => h))
     have HEY : Hid (Y.heap[(w.heap.size+1)]? = some evBox) := Lib.hid ((hY.block _ (blk_lt HEZ.out)).trans HEZ.out)
     have HBY : Hid (Below Bo w Y) := Lib.hid (HBZ.out.trans (hY.mono HSZ.out.lo))
     have HVY : Hid (Y.heap[w.heap.size]? = some (.cells #[.int .i64 e.task,.int .u8 e.kind,.int .i64 e.number,.int .i64 e.shard,.int .i64 e.count,.int .i64 e.mark] 51 (0,0))) := Lib.hid ((hY.block _ (blk_lt HVZ.out)).trans HVZ.out)
     clear kw ks e0 e1 e2 e3 HN hY
     obtain ⟨q,hq⟩ : ∃ q,s.qs[K]? = some q := ⟨_,List.getElem?_eq_getElem (by have := HI.out.ql; have := HLc.out.2; omega)⟩
     obtain ⟨lq,hlq⟩ : ∃ lq,x.QA[K]? = some lq := ⟨_,List.getElem?_eq_getElem (by have := HI.out.ql; have := HLc.out.2; have := (H.out.qb (fun h => h)).2; omega)⟩
     have hqn : lq.n = q.length := (HSY.out.qw K q lq hq hlq (fun h => h)).1.len.symm
     have hql := (HI.out.qw q (List.mem_of_getElem? hq)).1
     have d13 : Y.cell? ⟨a.g,13,none⟩ = some (.slice (some ⟨a.qb,0,none⟩) S S) := (blk_cell (HSY.out.st (fun h => h)) 13).trans (by simp [rstoryC,HLc.out.2])
     have dq : Y.cell? ⟨a.qb,K,none⟩ = some (.slice lq.A lq.n lq.c) := (blk_cell (HSY.out.qb (fun h => h)).1 K).trans (by simp [hlq,SL.v])
     have d3 : Y.cell? ⟨a.g,3,none⟩ = some (.int .i64 c.queue) := blk_cell (HSY.out.st (fun h => h)) 3
     have e3 : ∀ q : Ext Y,q.X.cell? ⟨a.g,3,none⟩ = some (.int .i64 c.queue) := fun q => (q.h.cell (p := ⟨a.g,3,none⟩) HSY.out.fst.2.2).trans d3
     have e13 : ∀ q : Ext Y,q.X.cell? ⟨a.g,13,none⟩ = some (.slice (some ⟨a.qb,0,none⟩) S S) := fun q => (q.h.cell (p := ⟨a.g,13,none⟩) HSY.out.fst.2.2).trans d13
     have eqq : ∀ q : Ext Y,q.X.cell? ⟨a.qb,K,none⟩ = some (.slice lq.A lq.n lq.c) := fun q => (q.h.cell (p := ⟨a.qb,K,none⟩) HSY.out.fqb.2.2).trans dq
     have hKI : (K : Int) < (S : Int) := by omega
     have hK0 : (0 : Int)≤(K : Int) := by omega
     have dK1 : decide ((K : Int) < (S : Int)) = true := decide_eq_true hKI
     have dK2 : decide (K < S) = true := decide_eq_true hKS
     have Hqn := Lib.hid hqn
     have Hq := Lib.hid hq
     have Hlq := Lib.hid hlq
     clear d13 dq d3 hq hlq hqn
     go_wp2_with fail
     refine wp_region_ext (by kernel_rfl) (by kernel_rfl) ?_
     repeat (go_big_quiet_step ((fail)))
     refine Ext.end_ fun V hV => ?_
     have HSV := Lib.hid (HSY.out.below hV (fun h => h) (fun h => h))
     have HEV : Hid (V.heap[(w.heap.size+1)]? = some evBox) := Lib.hid ((hV.block _ (blk_lt HEY.out)).trans HEY.out)
     have HBV : Hid (Below Bo w V) := Lib.hid (HBY.out.trans (hV.mono HSY.out.lo))
     have HVV : Hid (V.heap[w.heap.size]? = some (.cells #[.int .i64 e.task,.int .u8 e.kind,.int .i64 e.number,.int .i64 e.shard,.int .i64 e.count,.int .i64 e.mark] 51 (0,0))) := Lib.hid ((hV.block _ (blk_lt HVY.out)).trans HVY.out)
     clear e13 eqq e3 hV
     by_cases hfull : q.length = c.queue.toNat
     · have HR : Hid (R = ((0,ev0,false),s)) := Lib.hid (by
         rw [HR0.out,if_neg hnum,Hxw.out]
         simp only
         rw [← HK.out,Hq.out,if_pos (by simpa using hfull)])
       have hge : c.queue≤(lq.n : Int) := by have := Hqn.out; have := HL.out; omega
       have hE5 := HEV.out
       have g0 := blk_cell hE5 0
       have g1 := blk_cell hE5 1
       have g2 := blk_cell hE5 2
       have g3 := blk_cell hE5 3
       have g4 := blk_cell hE5 4
       have g5 := blk_cell hE5 5
       have k0 := blk_frozen hE5 0
       have k1 := blk_frozen hE5 1
       have k2 := blk_frozen hE5 2
       have k3 := blk_frozen hE5 3
       have k4 := blk_frozen hE5 4
       have k5 := blk_frozen hE5 5
       clear hE5
       go_wp2_with fail
       obtain ⟨X0,hX0⟩ : ∃ X0,X0 = ((((((V.setCell ⟨(w.heap.size+1),0,none⟩ (.int .i64 0)).setCell ⟨(w.heap.size+1),1,none⟩ (.int .u8 0)).setCell ⟨(w.heap.size+1),2,none⟩ (.int .i64 0)).setCell ⟨(w.heap.size+1),3,none⟩ (.int .i64 0)).setCell ⟨(w.heap.size+1),4,none⟩ (.int .i64 0)).setCell ⟨(w.heap.size+1),5,none⟩ (.int .i64 0)) := ⟨_,rfl⟩
       rw [← hX0]
       obtain ⟨hXk,r0,r1,r2,r3,r4,r5⟩ := ev_box HEV.out rfl _ _ _ _ _ _ hX0
       have hBX : Below Bo w X0 := HBV.out.trans (hXk.below HSV.out.lo (fun q e => by rw [e]; have := H.out.lo; omega))
       have hSX := HSV.out.junk (hXk.mono fun q e => by rw [e]; exact Hφ2.out _ (by omega))
       clear hX0
       refine bodyPost_ret (v := .tuple #[.agg #[.int .i64 0,.int .u8 0,.int .i64 0,.int .i64 0,.int .i64 0,.int .i64 0],.bool false]) (by simp [results,Tryz.results50,go_sem,r0,r1,r2,r3,r4,r5]) rfl ⟨0,0,0,0,by rw [HR.out],⟨hBX,hSX.markOk Hφ1.out H.out.fr.1⟩,fun e => by rw [HR.out] at e; cases e⟩
     · have hge : ¬ c.queue≤(lq.n : Int) := by have := Hqn.out; have := HL.out; omega
       have HR : Hid (R = ((5,⟨0,0,hh.num,K,0,0⟩,true),{ s with qs := s.qs.set K (q ++ [((i : Int)+1,(hh.num : Int))]),lanes := s.lanes.set i { hh with sent := hh.sent+1 } })) := Lib.hid (by
        rw [HR0.out,if_neg hnum,Hxw.out]
        simp only
        rw [← HK.out,if_neg (by rw [Hq.out]; simpa using hfull),modify_set Hq.out])
       obtain ⟨φ1,hφ1⟩ : ∃ φ1 : Nat→Nat,φ1 = fun b => if b < V.heap.size then φ0 b else 100+K := ⟨_,rfl⟩
       have hf1 : ∀ b,b < V.heap.size→φ1 b = φ0 b := fun b hb => by rw [hφ1]; simp only [if_pos hb]
       have Hf2 : Hid (∀ b,V.heap.size≤b→φ1 b = 100+K) := Lib.hid (fun b hb => by rw [hφ1]; simp only [if_neg (show ¬ b < V.heap.size by omega)])
       have HSV1 := Lib.hid (HSV.out.relabel hf1)
       have hvl : w.heap.size+1 < V.heap.size := blk_lt HEV.out
       have Hbox1 : Hid (φ1 (w.heap.size+1) = 50) := Lib.hid (by rw [hf1 _ hvl]; exact Hφ2.out _ (by omega))
       have Hbox0 : Hid (φ1 w.heap.size = 50) := Lib.hid (by rw [hf1 _ (by omega)]; exact Hφ2.out _ (Nat.le_refl _))
       have Hlow1 : Hid (∀ b,b < w.heap.size→φ1 b = φ b) := Lib.hid (fun b hb => by rw [hf1 b (by omega)]; exact Hφ1.out b hb)
       clear hφ1 hf1
       obtain ⟨hTq,hAq⟩ := HSV1.out.qw K q lq Hq.out Hlq.out (fun h => h)
       obtain ⟨i0,hi0',hz0,hz1,hz2⟩ := info_parts info_wait
       obtain ⟨I,hI⟩ : ∃ I : Nat→Prop,I = fun b => ∃ a,lq.A = some a∧b = a.block := ⟨_,rfl⟩
       have hIn : ∀ b,φ1 b≠100+K→¬ I b := fun b hb => by
        rw [hI]; rintro ⟨ad,e,e2⟩; exact hb (by rw [e2]; exact hAq ad e)
       have HIn := Lib.hid hIn
       have HH0 : Hid (∀ X,Kept V X I→RsH X φ1 Bo (fun j => j = 100+K) c rs rs' by_ a x s) := Lib.hid (fun X k => HSV1.out.holeQ Hq.out Hlq.out (hI ▸ k))
       have u13 : ∀ n : KX V I,n.X.cell? ⟨a.g,13,none⟩ = some (.slice (some ⟨a.qb,0,none⟩) S S) := fun n => (blk_cell ((HH0.out _ n.h).st (by omega)) 13).trans (by simp [rstoryC,HLc.out.2])
       have uq : ∀ n : KX V I,n.X.cell? ⟨a.qb,K,none⟩ = some (.slice lq.A lq.n lq.c) := fun n => (blk_cell ((HH0.out _ n.h).qb (by omega)).1 K).trans (by simp [Hlq.out,SL.v])
       have u0 : ∀ n : KX V I,n.X.cell? ⟨w.heap.size,0,none⟩ = some (.int .i64 ((i : Int)+1)) := fun n => (blk_cell (n.h.blk HVV.out (blk_lt HVV.out) (HIn.out _ (by rw [Hbox0.out]; omega))) 0).trans (by rw [← He.out]; rfl)
       have ul : ∀ n : KX V I,n.X.cell? ⟨a.ln,i * 5,none⟩ = some (.int .i64 hh.num) := fun n => (n.h.cell HSV1.out.fln.2.2 (HIn.out _ (by rw [HSV1.out.fln.1]; omega))).trans (((HSV1.out.lcell (i := i) hhj hlj 0 _ rfl).1).trans (by rw [Hq1.out]))
       have HAl := Lib.hid hAq
       have HI2 := Lib.hid hI
       have hlqn : lq.n≤1024 := by have := Hqn.out; have := HL.out; omega
       clear hTq hAq hI hIn
       go_wp2_with fail
       clear s3
       refine wp_region_reads_tail 20 I (by kernel_rfl) (by kernel_rfl) (fun _ _ d _ _ h => by cases d <;> exact h) ?_
       simp only [List.take_succ_cons,List.take_zero,List.drop_succ_cons,List.drop_zero]
       repeat (go_big_quiet_step (fail))
       refine wpQuiet_nil ?_
       clear u13 uq u0 ul
       refine tailC_one rfl ?_
       go_wp2_with fail
       obtain ⟨V1,hV1⟩ : ∃ V1,V1 = (V.alloc (.cells #[.int .i64 ((i : Int)+1),.int .i64 hh.num] 146)).drew := ⟨_,rfl⟩
       have hb1 : Below V.heap.size V V1 := hV1 ▸ bel_drew (bel_alloc (Below.refl _ _) _)
       have HS3 := Lib.hid (HSV1.out.below hb1 (fun h => h) (fun h => h))
       have HE3 : Hid (V1.heap[w.heap.size+1]? = some evBox) := Lib.hid ((hb1.block _ (blk_lt HEV.out)).trans HEV.out)
       have HB3 : Hid (Below Bo w V1) := Lib.hid (HBV.out.trans (hb1.mono HSV.out.lo))
       have hcells : ∀ (j : Nat) (u : Value),(askC ((i : Int)+1,(hh.num : Int)))[j]? = some u→V1.cell? ((⟨V.heap.size,0,none⟩ : Addr).add j) = some u := fun j u hu => by
        rw [hV1]
        exact cells_new V [.int .i64 ((i : Int)+1),.int .i64 hh.num] 146 j u hu
       have HT1 : Hid (TkAt askC 2 146 V1 Bo lq.A lq.n lq.c q) := Lib.hid (HS3.out.qw K q lq Hq.out Hlq.out (fun h => h)).1
       have HLo1 : Hid (Bo≤V1.heap.size) := Lib.hid HS3.out.lo
       have HK1 : Hid (Kept V V1 I) := Lib.hid (Kept.of_below hb1)
       have HVs : Hid (V.heap.size≤V1.heap.size) := Lib.hid hb1.size
       have Hcells := Lib.hid hcells
       rw [← hV1]
       clear hV1 hb1 hcells
       refine QT.normal ⟨by first | exact fun _ => KX.in_ HK1.out | exact KX.in_ HK1.out,?_⟩
       refine tailC_one rfl ?_
       go_wp2_with (at_builtin; refine wpList_push rfl _ _ 144 rfl 146 i0 _ 2 16 Tryz.underlying144 hi0' hz0 hz1 hz2 rfl (by decide) (fun _ => rfl) one_askC Bo lq.A lq.n lq.c q rfl HT1.out HLo1.out ((i : Int)+1,(hh.num : Int)) ⟨V.heap.size,0,none⟩ 1 rfl Hcells.out (by simp only [maxLen]; omega) (by omega) ?_)
       intro A3 c3 w4 h1 h2 h3
       have HK4 : Hid (Kept V w4 I) := Lib.hid (HK1.out.trans (HI2.out ▸ h2))
       have h2I : Kept V1 w4 I := HI2.out ▸ h2
       have hA3 : At φ1 (100+K) A3 := fun q e => by
        rcases h3 q e with ⟨c',e1,e2⟩ | h4
        · rw [e2]; exact HAl.out c' e1
        · exact Hf2.out _ (by have := HVs.out; omega)
       have HH := Lib.hid (HS3.out.holeQ Hq.out Hlq.out h2)
       have HE4 : Hid (w4.heap[w.heap.size+1]? = some evBox) := Lib.hid (h2I.blk HE3.out (blk_lt HE3.out) (HIn.out _ (by rw [Hbox1.out]; omega)))
       have HB4 : Hid (Below Bo w w4) := Lib.hid (HB3.out.trans (h2.below HS3.out.lo (fun q ⟨ad',e,e2⟩ => by rw [e2]; exact (HT1.out.lt e).1)))
       obtain ⟨n3,hn3⟩ : ∃ n3,n3 = lq.n+1 := ⟨_,rfl⟩
       rw [← hn3] at h1 ⊢
       obtain ⟨W5,hW5⟩ : ∃ W5,W5 = w4.setCell ⟨a.qb,K,none⟩ (.slice A3 n3 c3) := ⟨_,rfl⟩
       have HS5 := Lib.hid (hW5 ▸ HH.out.setQ (fun i h => h) h1 hA3)
       have hk5 : Kept w4 W5 (fun q => q = a.qb) := hW5 ▸ (Kept.refl w4 (fun q => q = a.qb)).setCell (p := ⟨a.qb,K,none⟩) (Or.inl rfl) _
       have HB5 : Hid (Below Bo w W5) := Lib.hid (HB4.out.trans (hk5.below HH.out.lo (fun q e => by rw [e]; exact H.out.fqb.2.1)))
       have HE5 : Hid (W5.heap[w.heap.size+1]? = some evBox) := Lib.hid (hk5.blk HE4.out (blk_lt HE4.out) (by have := H.out.fqb.2.2; omega))
       have dq : w4.cell? ⟨a.qb,K,none⟩ = some (.slice lq.A lq.n lq.c) := (blk_cell (HH.out.qb (by omega)).1 K).trans (by simp [Hlq.out,SL.v])
       have fq : w4.frozen? ⟨a.qb,K,none⟩ = false := blk_frozen (HH.out.qb (by omega)).1 K
       clear h1 h2 h3 h2I hk5 hn3
       refine QT.normal ⟨by first | exact fun _ => KX.in_ HK4.out | exact KX.in_ HK4.out,?_⟩
       refine tailC_one rfl ?_
       go_wp2_with fail
       refine QT.normal ⟨by first | exact fun _ => KX.in_ HK4.out | exact KX.in_ HK4.out,?_⟩
       refine tailC_one rfl ?_
       go_wp2_with fail
       refine QT.normal ⟨by simp,?_⟩
       refine tailC_nil ?_
       rw [← hW5]
       clear hW5 dq fq
       -- one more is sent
       have hsb : hh.sent≤32 := by have := Hlw.out; omega
       have hw6 : IntKind.i64.wrap ((hh.sent : Int)+1) = hh.sent+1 := by rw [IntKind.wrap_i64]; omega
       have p3 : W5.cell? ⟨a.ln,i * 5+3,none⟩ = some (.int .i64 hh.sent) := (HS5.out.lcell (i := i) hhj hlj 3 _ rfl).1
       have pf3 : W5.frozen? ⟨a.ln,i * 5+3,none⟩ = false := (HS5.out.lcell (i := i) hhj hlj 3 (.int .i64 hh.sent) rfl).2
       obtain ⟨W6,hW6⟩ : ∃ W6,W6 = W5.setCell ⟨a.ln,i * 5+3,none⟩ (.int .i64 ((hh.sent : Int)+1)) := ⟨_,rfl⟩
       obtain ⟨hS6,hk6⟩ := HS5.out.putLane (i := i) hhj hlj 3 (.int .i64 ((hh.sent : Int)+1)) (h' := { hh with sent := hh.sent+1 }) (l' := ll) (by omega) (by simp [rlaneC]) (fun hn => HS5.out.lw i hh ll hhj hlj hn)
       rw [← hW6] at hS6 hk6
       have HS6 := Lib.hid hS6
       have HB6 : Hid (Below Bo w W6) := Lib.hid (HB5.out.trans (hk6.below HS5.out.lo (fun q e => by rw [e]; exact H.out.fln.2.1)))
       have HE6 : Hid (W6.heap[w.heap.size+1]? = some evBox) := Lib.hid (hk6.blk HE5.out (blk_lt HE5.out) (by have := H.out.fln.2.2; omega))
       have l0 : W6.cell? ⟨a.ln,i * 5,none⟩ = some (.int .i64 hh.num) := by
        have h1 : i < s.lanes.length := (List.getElem?_eq_some_iff.1 hhj).1
        have h2 : i < x.LA.length := (List.getElem?_eq_some_iff.1 hlj).1
        have := (HS6.out.lcell (i := i) (List.getElem?_set_self h1) (List.getElem?_set_self h2) 0 _ rfl).1
        simp only [Nat.add_zero,Hq1.out] at this
        exact this
       clear hS6 hk6
       have hE5 := HE6.out
       have g0 := blk_cell hE5 0
       have g1 := blk_cell hE5 1
       have g2 := blk_cell hE5 2
       have g3 := blk_cell hE5 3
       have g4 := blk_cell hE5 4
       have g5 := blk_cell hE5 5
       have k0 := blk_frozen hE5 0
       have k1 := blk_frozen hE5 1
       have k2 := blk_frozen hE5 2
       have k3 := blk_frozen hE5 3
       have k4 := blk_frozen hE5 4
       have k5 := blk_frozen hE5 5
       clear hE5
       rw [hW6] at g0 k0 g1 k1 g2 k2 g3 k3 g4 k4 g5 k5 l0
       go_wp2_with fail
       rw [← hW6]
       clear hW6
       obtain ⟨X0,hX0⟩ : ∃ X0,X0 = ((((((W6.setCell ⟨(w.heap.size+1),0,none⟩ (.int .i64 0)).setCell ⟨(w.heap.size+1),1,none⟩ (.int .u8 5)).setCell ⟨(w.heap.size+1),2,none⟩ (.int .i64 hh.num)).setCell ⟨(w.heap.size+1),3,none⟩ (.int .i64 K)).setCell ⟨(w.heap.size+1),4,none⟩ (.int .i64 0)).setCell ⟨(w.heap.size+1),5,none⟩ (.int .i64 0)) := ⟨_,rfl⟩
       rw [← hX0]
       obtain ⟨hXk,r0,r1,r2,r3,r4,r5⟩ := ev_box HE6.out rfl _ _ _ _ _ _ hX0
       have hBX : Below Bo w X0 := HB6.out.trans (hXk.below HS6.out.lo (fun q e => by rw [e]; have := H.out.lo; omega))
       have hSX := HS6.out.junk (hXk.mono fun q e => by rw [e]; exact Hbox1.out)
       clear hX0
       refine bodyPost_ret (v := .tuple #[.agg #[.int .i64 0,.int .u8 5,.int .i64 hh.num,.int .i64 K,.int .i64 0,.int .i64 0],.bool true]) (by simp [results,Tryz.results50,go_sem,r0,r1,r2,r3,r4,r5]) rfl ⟨5,hh.num,K,0,by rw [HR.out],⟨hBX,hSX.markOk Hlow1.out H.out.fr.1⟩,fun _ => by rw [HR.out]; exact ⟨rfl,rfl,rfl,rfl,φ1,_,Hlow1.out,hSX,by first | exact Nat.le_succ _ | exact Nat.le_refl _⟩⟩
   · have hsI : ¬ (hh.sent : Int) < (hh.ws.length : Int) := by omega
     have hxn : hh.ws[hh.sent]? = none := List.getElem?_eq_none (by omega)
     have s4 : Z.cell? ⟨a.ln,i * 5+4,none⟩ = some (.int .i64 hh.ack) := (HSZ.out.lcell (i := i) hhj hlj 4 _ rfl).1
     by_cases hack : hh.ack < hh.ws.length
     · have haI : (hh.ack : Int) < (hh.ws.length : Int) := by omega
       have HR : Hid (R = ((0,ev0,false),s)) := Lib.hid (by
        rw [HR0.out,if_neg hnum,hxn]
        simp only
        rw [if_pos hack])
       clear hxn
       have hE5 := HEZ.out
       have g0 := blk_cell hE5 0
       have g1 := blk_cell hE5 1
       have g2 := blk_cell hE5 2
       have g3 := blk_cell hE5 3
       have g4 := blk_cell hE5 4
       have g5 := blk_cell hE5 5
       have k0 := blk_frozen hE5 0
       have k1 := blk_frozen hE5 1
       have k2 := blk_frozen hE5 2
       have k3 := blk_frozen hE5 3
       have k4 := blk_frozen hE5 4
       have k5 := blk_frozen hE5 5
       clear hE5
       go_wp2_with fail
       obtain ⟨X0,hX0⟩ : ∃ X0,X0 = ((((((Z.setCell ⟨(w.heap.size+1),0,none⟩ (.int .i64 0)).setCell ⟨(w.heap.size+1),1,none⟩ (.int .u8 0)).setCell ⟨(w.heap.size+1),2,none⟩ (.int .i64 0)).setCell ⟨(w.heap.size+1),3,none⟩ (.int .i64 0)).setCell ⟨(w.heap.size+1),4,none⟩ (.int .i64 0)).setCell ⟨(w.heap.size+1),5,none⟩ (.int .i64 0)) := ⟨_,rfl⟩
       rw [← hX0]
       obtain ⟨hXk,r0,r1,r2,r3,r4,r5⟩ := ev_box HEZ.out rfl _ _ _ _ _ _ hX0
       have hBX : Below Bo w X0 := HBZ.out.trans (hXk.below HSZ.out.lo (fun q e => by rw [e]; have := H.out.lo; omega))
       have hSX := HSZ.out.junk (hXk.mono fun q e => by rw [e]; exact Hφ2.out _ (by omega))
       clear hX0
       refine bodyPost_ret (v := .tuple #[.agg #[.int .i64 0,.int .u8 0,.int .i64 0,.int .i64 0,.int .i64 0,.int .i64 0],.bool false]) (by simp [results,Tryz.results50,go_sem,r0,r1,r2,r3,r4,r5]) rfl ⟨0,0,0,0,by rw [HR.out],⟨hBX,hSX.markOk Hφ1.out H.out.fr.1⟩,fun e => by rw [HR.out] at e; cases e⟩
     · have haI : ¬ (hh.ack : Int) < (hh.ws.length : Int) := by omega
       have HR : Hid (R = ((6,⟨0,0,hh.num,0,0,0⟩,true),{ s with gone := s.gone ++ [hh.num],lanes := s.lanes.set i { hh with num := 0 } })) := Lib.hid (by
        rw [HR0.out,if_neg hnum,hxn]
        simp only
        rw [if_neg hack])
       clear hxn
       obtain ⟨φ1,hφ1⟩ : ∃ φ1 : Nat→Nat,φ1 = fun b => if b < Z.heap.size then φ0 b else 11 := ⟨_,rfl⟩
       have hf1 : ∀ b,b < Z.heap.size→φ1 b = φ0 b := fun b hb => by rw [hφ1]; simp only [if_pos hb]
       have Hf2 : Hid (∀ b,Z.heap.size≤b→φ1 b = 11) := Lib.hid (fun b hb => by rw [hφ1]; simp only [if_neg (show ¬ b < Z.heap.size by omega)])
       have HSV1 := Lib.hid (HSZ.out.relabel hf1)
       have hvl : w.heap.size+1 < Z.heap.size := blk_lt HEZ.out
       have Hbox1 : Hid (φ1 (w.heap.size+1) = 50) := Lib.hid (by rw [hf1 _ hvl]; exact Hφ2.out _ (by omega))
       have Hbox0 : Hid (φ1 w.heap.size = 50) := Lib.hid (by rw [hf1 _ (by omega)]; exact Hφ2.out _ (Nat.le_refl _))
       have Hlow1 : Hid (∀ b,b < w.heap.size→φ1 b = φ b) := Lib.hid (fun b hb => by rw [hf1 b (by omega)]; exact Hφ1.out b hb)
       clear hφ1 hf1
       obtain ⟨hTg,hAg⟩ := HSV1.out.gone (fun h => h)
       obtain ⟨i0,hi0',hz0,hz1,hz2⟩ := info_parts info_int
       obtain ⟨I,hI⟩ : ∃ I : Nat→Prop,I = fun b => ∃ a,x.gone.A = some a∧b = a.block := ⟨_,rfl⟩
       have hIn : ∀ b,φ1 b≠11→¬ I b := fun b hb => by
        rw [hI]; rintro ⟨ad,e,e2⟩; exact hb (by rw [e2]; exact hAg ad e)
       have HIn := Lib.hid hIn
       have HH0 : Hid (∀ X,Kept Z X I→RsH X φ1 Bo (fun j => j = 11) c rs rs' by_ a x s) := Lib.hid (fun X k => HSV1.out.hole (i := 11) (k.mono fun b hb => by rw [hI] at hb; obtain ⟨ad,e,e2⟩ := hb; rw [e2]; exact hAg ad e) (by omega) (by omega))
       have u11 : ∀ n : KX Z I,n.X.cell? ⟨a.g,11,none⟩ = some (.slice x.gone.A x.gone.n x.gone.c) := fun n => blk_cell ((HH0.out _ n.h).st (by omega)) 11
       have ul : ∀ n : KX Z I,n.X.cell? ⟨a.ln,i * 5,none⟩ = some (.int .i64 hh.num) := fun n => (n.h.cell HSV1.out.fln.2.2 (HIn.out _ (by rw [HSV1.out.fln.1]; omega))).trans (((HSV1.out.lcell (i := i) hhj hlj 0 _ rfl).1).trans (by rw [Hq1.out]))
       have HAl := Lib.hid hAg
       have HI2 := Lib.hid hI
       have hgn : x.gone.n≤65537 := by have := HI.out.gone_len; have := HI.out.ml; have := hTg.len; omega
       clear hTg hAg hI hIn
       go_wp2_with fail
       clear s3 s4
       refine wp_region_reads_tail 10 I (by kernel_rfl) (by kernel_rfl) (fun _ _ d _ _ h => by cases d <;> exact h) ?_
       simp only [List.take_succ_cons,List.take_zero,List.drop_succ_cons,List.drop_zero]
       repeat (go_big_quiet_step (fail))
       refine wpQuiet_nil ?_
       clear u11 ul
       refine tailC_one rfl ?_
       go_wp2_with fail
       obtain ⟨V1,hV1⟩ : ∃ V1,V1 = (Z.alloc (.cells #[.int .i64 hh.num] 3)).drew := ⟨_,rfl⟩
       have hb1 : Below Z.heap.size Z V1 := hV1 ▸ bel_drew (bel_alloc (Below.refl _ _) _)
       have HS3 := Lib.hid (HSV1.out.below hb1 (fun h => h) (fun h => h))
       have HE3 : Hid (V1.heap[w.heap.size+1]? = some evBox) := Lib.hid ((hb1.block _ (blk_lt HEZ.out)).trans HEZ.out)
       have HB3 : Hid (Below Bo w V1) := Lib.hid (HBZ.out.trans (hb1.mono HSZ.out.lo))
       have hcells : ∀ (j : Nat) (u : Value),(natC hh.num)[j]? = some u→V1.cell? ((⟨Z.heap.size,0,none⟩ : Addr).add j) = some u := fun j u hu => by
        rw [hV1]
        exact cells_new Z [.int .i64 hh.num] 3 j u hu
       have HT1 : Hid (TkAt natC 1 3 V1 Bo x.gone.A x.gone.n x.gone.c s.gone) := Lib.hid (HS3.out.gone (fun h => h)).1
       have HLo1 : Hid (Bo≤V1.heap.size) := Lib.hid HS3.out.lo
       have HK1 : Hid (Kept Z V1 I) := Lib.hid (Kept.of_below hb1)
       have HVs : Hid (Z.heap.size≤V1.heap.size) := Lib.hid hb1.size
       have Hcells := Lib.hid hcells
       rw [← hV1]
       clear hV1 hb1 hcells
       refine QT.normal ⟨by first | exact fun _ => KX.in_ HK1.out | exact KX.in_ HK1.out,?_⟩
       refine tailC_one rfl ?_
       go_wp2_with (at_builtin; refine wpList_push rfl _ _ 25 rfl 3 i0 _ 1 8 Tryz.underlying25 hi0' hz0 hz1 hz2 rfl (by decide) (fun _ => rfl) one_natC Bo x.gone.A x.gone.n x.gone.c s.gone rfl HT1.out HLo1.out hh.num ⟨Z.heap.size,0,none⟩ 1 rfl Hcells.out (by simp only [maxLen]; omega) (by omega) ?_)
       intro A3 c3 w4 h1 h2 h3
       have HK4 : Hid (Kept Z w4 I) := Lib.hid (HK1.out.trans (HI2.out ▸ h2))
       have h2I : Kept V1 w4 I := HI2.out ▸ h2
       have hA3 : At φ1 11 A3 := fun q e => by
        rcases h3 q e with ⟨c',e1,e2⟩ | h4
        · rw [e2]; exact HAl.out c' e1
        · exact Hf2.out _ (by have := HVs.out; omega)
       have HH := Lib.hid (HS3.out.hole (i := 11) (h2.mono fun q ⟨ad,e,e2⟩ => by rw [e2]; exact HAl.out ad e) (by omega) (by omega))
       have HE4 : Hid (w4.heap[w.heap.size+1]? = some evBox) := Lib.hid (h2I.blk HE3.out (blk_lt HE3.out) (HIn.out _ (by rw [Hbox1.out]; omega)))
       have HB4 : Hid (Below Bo w w4) := Lib.hid (HB3.out.trans (h2.below HS3.out.lo (fun q ⟨ad',e,e2⟩ => by rw [e2]; exact (HT1.out.lt e).1)))
       obtain ⟨n3,hn3⟩ : ∃ n3,n3 = x.gone.n+1 := ⟨_,rfl⟩
       rw [← hn3] at h1 ⊢
       obtain ⟨W5,hW5⟩ : ∃ W5,W5 = w4.setCell ⟨a.g,11,none⟩ (.slice A3 n3 c3) := ⟨_,rfl⟩
       have HS5 := Lib.hid (hW5 ▸ HH.out.setGone (fun i h => h) h1 hA3)
       have hk5 : Kept w4 W5 (fun q => q = a.g) := hW5 ▸ (Kept.refl w4 (fun q => q = a.g)).setCell (p := ⟨a.g,11,none⟩) (Or.inl rfl) _
       have HB5 : Hid (Below Bo w W5) := Lib.hid (HB4.out.trans (hk5.below HH.out.lo (fun q e => by rw [e]; exact H.out.fst.2.1)))
       have HE5 : Hid (W5.heap[w.heap.size+1]? = some evBox) := Lib.hid (hk5.blk HE4.out (blk_lt HE4.out) (by have := H.out.fst.2.2; omega))
       have dq : w4.cell? ⟨a.g,11,none⟩ = some (.slice x.gone.A x.gone.n x.gone.c) := blk_cell (HH.out.st (by omega)) 11
       have fq : w4.frozen? ⟨a.g,11,none⟩ = false := blk_frozen (HH.out.st (by omega)) 11
       clear h1 h2 h3 h2I hk5 hn3
       refine QT.normal ⟨by first | exact fun _ => KX.in_ HK4.out | exact KX.in_ HK4.out,?_⟩
       refine tailC_one rfl ?_
       go_wp2_with fail
       refine QT.normal ⟨by first | exact fun _ => KX.in_ HK4.out | exact KX.in_ HK4.out,?_⟩
       refine tailC_one rfl ?_
       go_wp2_with fail
       refine QT.normal ⟨by first | exact fun _ => KX.in_ HK4.out | exact KX.in_ HK4.out,?_⟩
       refine tailC_one rfl ?_
       go_wp2_with fail
       refine QT.normal ⟨by simp,?_⟩
       refine tailC_nil ?_
       rw [← hW5]
       clear hW5 dq fq
       -- it holds none
       have p2 : W5.cell? ⟨a.ln,i * 5+2,none⟩ = some (.bool (decide (hh.num≠0))) := (HS5.out.lcell (i := i) hhj hlj 2 _ rfl).1
       have pf2 : W5.frozen? ⟨a.ln,i * 5+2,none⟩ = false := (HS5.out.lcell (i := i) hhj hlj 2 (.bool (decide (hh.num≠0))) rfl).2
       obtain ⟨W6,hW6⟩ : ∃ W6,W6 = W5.setCell ⟨a.ln,i * 5+2,none⟩ (.bool false) := ⟨_,rfl⟩
       obtain ⟨hS6,hk6⟩ := HS5.out.putLane (i := i) hhj hlj 2 (.bool false) (h' := { hh with num := 0 }) (l' := ll) (by omega) (by simp [rlaneC]) (fun hn => absurd rfl hn)
       rw [← hW6] at hS6 hk6
       have HS6 := Lib.hid hS6
       have HB6 : Hid (Below Bo w W6) := Lib.hid (HB5.out.trans (hk6.below HS5.out.lo (fun q e => by rw [e]; exact H.out.fln.2.1)))
       have HE6 : Hid (W6.heap[w.heap.size+1]? = some evBox) := Lib.hid (hk6.blk HE5.out (blk_lt HE5.out) (by have := H.out.fln.2.2; omega))
       have l0 : W6.cell? ⟨a.ln,i * 5,none⟩ = some (.int .i64 hh.num) := by
        have h1 : i < s.lanes.length := (List.getElem?_eq_some_iff.1 hhj).1
        have h2 : i < x.LA.length := (List.getElem?_eq_some_iff.1 hlj).1
        have := (HS6.out.lcell (i := i) (List.getElem?_set_self h1) (List.getElem?_set_self h2) 0 _ rfl).1
        simp only [Nat.add_zero,Hq1.out] at this
        exact this
       clear hS6 hk6
       have hE5 := HE6.out
       have g0 := blk_cell hE5 0
       have g1 := blk_cell hE5 1
       have g2 := blk_cell hE5 2
       have g3 := blk_cell hE5 3
       have g4 := blk_cell hE5 4
       have g5 := blk_cell hE5 5
       have k0 := blk_frozen hE5 0
       have k1 := blk_frozen hE5 1
       have k2 := blk_frozen hE5 2
       have k3 := blk_frozen hE5 3
       have k4 := blk_frozen hE5 4
       have k5 := blk_frozen hE5 5
       clear hE5
       rw [hW6] at g0 k0 g1 k1 g2 k2 g3 k3 g4 k4 g5 k5 l0
       go_wp2_with fail
       rw [← hW6]
       clear hW6
       obtain ⟨X0,hX0⟩ : ∃ X0,X0 = ((((((W6.setCell ⟨(w.heap.size+1),0,none⟩ (.int .i64 0)).setCell ⟨(w.heap.size+1),1,none⟩ (.int .u8 6)).setCell ⟨(w.heap.size+1),2,none⟩ (.int .i64 hh.num)).setCell ⟨(w.heap.size+1),3,none⟩ (.int .i64 0)).setCell ⟨(w.heap.size+1),4,none⟩ (.int .i64 0)).setCell ⟨(w.heap.size+1),5,none⟩ (.int .i64 0)) := ⟨_,rfl⟩
       rw [← hX0]
       obtain ⟨hXk,r0,r1,r2,r3,r4,r5⟩ := ev_box HE6.out rfl _ _ _ _ _ _ hX0
       have hBX : Below Bo w X0 := HB6.out.trans (hXk.below HS6.out.lo (fun q e => by rw [e]; have := H.out.lo; omega))
       have hSX := HS6.out.junk (hXk.mono fun q e => by rw [e]; exact Hbox1.out)
       clear hX0
       refine bodyPost_ret (v := .tuple #[.agg #[.int .i64 0,.int .u8 6,.int .i64 hh.num,.int .i64 0,.int .i64 0,.int .i64 0],.bool true]) (by simp [results,Tryz.results50,go_sem,r0,r1,r2,r3,r4,r5]) rfl ⟨6,hh.num,0,0,by rw [HR.out],⟨hBX,hSX.markOk Hlow1.out H.out.fr.1⟩,fun _ => by rw [HR.out]; exact ⟨rfl,rfl,rfl,rfl,φ1,_,Hlow1.out,hSX,by first | exact Nat.le_succ _ | exact Nat.le_refl _⟩⟩
end Go.Proofs.YtcjmppjppmiggaaGreat

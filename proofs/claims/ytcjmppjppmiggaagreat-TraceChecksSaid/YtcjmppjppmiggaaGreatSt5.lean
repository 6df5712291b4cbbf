/- A trace's story: a lane's step. -/
import Derived.Test.YtcjmppjppmiggaaGreatSt4
import Derived.Test.YtcjmppjppmiggaaGreatHs
import Derived.Test.YtcjmppjppmiggaaGreatM3
namespace Go.Proofs.YtcjmppjppmiggaaGreat
open Go.RowKit
set_option linter.unusedVariables false
set_option linter.unusedSimpArgs false

open Go.Maps
set_option maxRecDepth 100000
section
variable {w w' : World} {φ φ' : Nat→Nat} {Bo : Nat} {I J : Nat→Prop} {c : Cfg} {rs rs' : List RTx} {by_ : List Int} {a : SA} {x : SG} {s : TS} {i : Nat} {h0 : Ln} {l : SL}
theorem StH.laneC_ (h : StAt w φ Bo c rs rs' by_ a x s) (hh : s.lanes[i]? = some h0) (hl : x.LA[i]? = some l) : w.cell? ⟨a.ln,i * 4,none⟩ = some (.int .i64 h0.num)∧w.cell? ⟨a.ln,i * 4+1,none⟩ = some (.slice l.A l.n l.c)∧w.cell? ⟨a.ln,i * 4+2,none⟩ = some (.int .i64 h0.sent)∧w.cell? ⟨a.ln,i * 4+3,none⟩ = some (.int .i64 h0.ack)∧(∀ o,w.frozen? ⟨a.ln,o,none⟩ = false) :=
 have hb := h.ln (fun h => h)
 ⟨(blk_cell hb _).trans (by simpa using lanes_get hh hl (j := 0) rfl),(blk_cell hb _).trans (by simpa using (lanes_get hh hl (j := 1) rfl : _ = some (Value.slice l.A l.n l.c))),(blk_cell hb _).trans (by simpa using lanes_get hh hl (j := 2) rfl),(blk_cell hb _).trans (by simpa using lanes_get hh hl (j := 3) rfl),fun o => blk_frozen hb o⟩
theorem StH.putLane (h : StAt w φ Bo c rs rs' by_ a x s) (hh : s.lanes[i]? = some h0) (hl : x.LA[i]? = some l) (j : Nat) (v : Value) {h' : Ln} {l' : SL} (hj : j < 4) (he : (laneC h0 l).set j v = laneC h' l') (hT : TkAt Wr.cells 3 85 w Bo l'.A l'.n l'.c h'.ws) (hA : At φ 20 l'.A) :
    StAt (w.setCell ⟨a.ln,i * 4+j,none⟩ v) φ Bo c rs rs' by_ a { x with LA := x.LA.set i l' } { s with lanes := s.lanes.set i h' }∧Kept w (w.setCell ⟨a.ln,i * 4+j,none⟩ v) (fun q => q = a.ln) := by
 have hk : Kept w (w.setCell ⟨a.ln,i * 4+j,none⟩ v) (fun q => q = a.ln) := (Kept.refl w (fun q => q = a.ln)).setCell (p := ⟨a.ln,i * 4+j,none⟩) (Or.inl rfl) _
 refine ⟨h.setLane (i := i) (h' := h') (l' := l') (hk.mono fun q e => by rw [e]; exact h.fln.1) (by
  rw [blk_set (h.ln (fun h => h))]
  have := lanes_set hh hl (j := j) (v := v) (h' := h') hj he
  rw [← this,List.setIfInBounds_toArray]) (hT.kept hk (fun ad e e2 => by
   have h1 := hA ad e
   rw [e2,h.fln.1] at h1; omega)) hA,hk⟩
theorem StH.putLane0 (h : StAt w φ Bo c rs rs' by_ a x s) (hh : s.lanes[i]? = some h0) (hl : x.LA[i]? = some l) (j : Nat) (v : Value) {h' : Ln} (hj : j < 4) (he : (laneC h0 l).set j v = laneC h' l) (hw : h'.ws = h0.ws) :
    StAt (w.setCell ⟨a.ln,i * 4+j,none⟩ v) φ Bo c rs rs' by_ a { x with LA := x.LA.set i l } { s with lanes := s.lanes.set i h' }∧Kept w (w.setCell ⟨a.ln,i * 4+j,none⟩ v) (fun q => q = a.ln) :=
 h.putLane hh hl j v hj he (by rw [hw]; exact ((h.lw (fun h => h)).2 i h0 l hh hl).1) ((h.lw (fun h => h)).2 i h0 l hh hl).2
theorem StH.putNum (h : StAt w φ Bo c rs rs' by_ a x s) (hh : s.lanes[i]? = some h0) (hl : x.LA[i]? = some l) (n : Nat) :
    StAt (w.setCell ⟨a.ln,i * 4,none⟩ (.int .i64 n)) φ Bo c rs rs' by_ a { x with LA := x.LA.set i l } { s with lanes := s.lanes.set i { h0 with num := n } }∧Kept w (w.setCell ⟨a.ln,i * 4,none⟩ (.int .i64 n)) (fun q => q = a.ln) :=
 h.putLane0 hh hl 0 (.int .i64 n) (h' := { h0 with num := n }) (by omega) (by simp [laneC]) rfl
theorem StH.holeQ (h : StAt w φ Bo c rs rs' by_ a x s) {K : Nat} {q : List (Int × Int)} {lq : SL} (hq : s.qs[K]? = some q) (hl : x.QA[K]? = some lq) (k : Kept w w' (fun b => ∃ ad,lq.A = some ad∧b = ad.block)) : StH w' φ Bo (fun j => j = 100+2 * K) c rs rs' by_ a x s :=
 h.kept (I := fun j => j = 100+2 * K) (k.mono fun b ⟨ad,e,e2⟩ => by rw [e2]; exact (h.qw K q lq hq hl (fun h => h)).2 ad e) (by omega) (by omega) (fun _ h => h.elim)
theorem StH.hole11 (h : StAt w φ Bo c rs rs' by_ a x s) (k : Kept w w' (fun b => ∃ ad,x.gone.A = some ad∧b = ad.block)) : StH w' φ Bo (fun j => j = 11) c rs rs' by_ a x s :=
 h.kept (I := fun j => j = 11) (k.mono fun b ⟨ad,e,e2⟩ => by rw [e2]; exact (h.gone (fun h => h)).2 ad e) (by omega) (by omega) (fun _ h => h.elim)
theorem get_set_self {α : Type} {l : List α} {i : Nat} {x y : α} (h : l[i]? = some x) : (l.set i y)[i]? = some y := by
 rw [List.getElem?_set,if_pos rfl,if_pos (List.getElem?_eq_some_iff.1 h).1]
end
theorem ev_one (a b c : Int) : (#[.int .i64 0,.int .u8 0,.int .i64 a,.int .i64 b,.int .i64 c,.int .i64 0] : Array Value).all (·.oneCell') = true := by simp [Value.oneCell']
theorem ev_one4 (k a b c : Int) : (#[.int .i64 0,.int .u8 k,.int .i64 a,.int .i64 b,.int .i64 c,.int .i64 0] : Array Value).all (·.oneCell') = true := by simp [Value.oneCell']
theorem info_ask : (Tryz.prog.info? 131).map (fun i => (i.zero,i.size,i.bytes)) = some (some (.agg #[.int .i64 0,.int .i64 0]),2,16) := by kernel_rfl
set_option maxHeartbeats 4000000 in
theorem laneA_any (φ : Nat→Nat) (Bo : Nat) (c : Cfg) (rs rs' : List RTx) (by_ : List Int) (M k : Nat) (a : SA) (x : SG) (s : TS) (w : World) (i : Nat) (h0 : StAt w φ Bo c rs rs' by_ a x s) (hi : SInv c rs rs' M k s) (hc : c.ok = true) (hrl : rs.length≤65536) (hk : k≤4398046511104)
    (hlog : ∀ (i : Nat) (r : RTx),rs[i]? = some r→txB r.number r.ws = true∧r.number = (i : Int)+1) (hcap : ∀ r ∈ rs,r.len≤r.cap) (hi1 : (i : Int) < c.lanes) (hi0 : 0≤c.lanes) {h : Ln} (hh : s.lanes[i]? = some h) (hn0 : h.num = 0) :
    Calls Tryz.prog 39 #[ptrV a.g,.int .i64 ((i : Int)+1)] w (TaskEnd w φ Bo c rs rs' by_ a (s.lane c rs i)) := by
 obtain ⟨L,hL1⟩ : ∃ L : Nat,c.lanes = L := ⟨c.lanes.toNat,by omega⟩
 rw [hL1] at hi1
 have HL := Lib.hid hL1
 have hll := hi.ll
 rw [hL1] at hll
 obtain ⟨l,hl⟩ : ∃ l,x.LA[i]? = some l := ⟨_,List.getElem?_eq_getElem (by have := (h0.lw (fun h => h)).1; omega)⟩
 have Hh := Lib.hid hh
 have Hl := Lib.hid hl
 obtain ⟨R,hR⟩ : ∃ R,R = s.lane c rs i := ⟨_,rfl⟩
 rw [← hR]
 unfold TS.lane at hR
 rw [hh] at hR
 simp only at hR
 unfold ptrV
 have hiL : (i : Int) < (L : Int) := by omega
 have hiL0 : (0 : Int)≤(i : Int) := by omega
 have hc16 : c.lanes≤16 := by simp [Cfg.ok,inB] at hc; omega
 rw [HL.out] at hc16
 have hiw : IntKind.i64.wrap ((i : Int)+1 - 1) = i := by rw [IntKind.wrap_i64]; omega
 have hiN : i < L := by omega
 have hbnd := hi.lw h (List.mem_of_getElem? hh)
 have Hbnd := Lib.hid hbnd
 clear hL1 hll hh hl hbnd
 rw [if_pos hn0] at hR
 cases hline : s.line with
 | nil =>
   rw [hline] at hR
   simp only at hR
   obtain ⟨φ0,hφ0⟩ : ∃ φ0 : Nat→Nat,φ0 = fun b => if b < w.heap.size then φ b else if b = w.heap.size then 50 else 50 := ⟨_,rfl⟩
   have hφ1 : ∀ b,b < w.heap.size→φ0 b = φ b := fun b hb => by rw [hφ0]; simp only [if_pos hb]
   have h : StAt w φ0 Bo c rs rs' by_ a x s := h0.relabel hφ1
   have Hφ1 := Lib.hid hφ1
   have hφ2 : φ0 w.heap.size = 50 := by rw [hφ0]; simp
   have hφ3 : ∀ b,w.heap.size < b→φ0 b = 50 := fun b hb => by rw [hφ0]; simp only [if_neg (show ¬ b < w.heap.size by omega),if_neg (show ¬ b = w.heap.size by omega)]
   have Hφ2 := Lib.hid hφ2
   have Hφ3 := Lib.hid hφ3
   clear hφ2 hφ3
   clear hφ0 hφ1 h0
   have H := Lib.hid h
   have HI := Lib.hid hi
   obtain ⟨W0,hW0⟩ : ∃ W0,W0 = w.alloc (.cells #[.int .i64 0,.int .u8 0,.int .i64 0,.int .i64 0,.int .i64 0,.int .i64 0] 51) := ⟨_,rfl⟩
   have hb0 : Below w.heap.size w W0 := hW0 ▸ (Below.refl _ _).alloc (Nat.le_refl _) _
   have hz0 : W0.heap.size = w.heap.size+1 := by rw [hW0]; simp
   have HE0 : Hid (W0.heap[w.heap.size]? = some evBox) := Lib.hid (hW0 ▸ blk_new _ _)
   have HS0 := Lib.hid (h.below hb0 (fun h => h) (fun h => h))
   have HB0 : Hid (Below Bo w W0) := Lib.hid (hb0.mono h.lo)
   have HZ0 := Lib.hid hz0
   clear h hi hb0 hz0
   have HR : Hid (R = ((0,ev0,false),s)) := Lib.hid hR
   have hz : h.num = 0 := hn0
   have hln : x.line.n = 0 := by have := (H.out.line (fun h => h)).1.len; rw [hline] at this; exact this.symm
   have d10 : ∀ o,(w.alloc o).cell? ⟨a.g,10,none⟩ = some (.slice x.line.A 0 x.line.c) := fun o => (blk_cell ((Below.heap_alloc _ _ _ H.out.fst.2.2).trans (H.out.st (fun h => h))) 10).trans (by simp [storyC,SL.v,hln])
   have m0 : ∀ o,(w.alloc o).cell? ⟨a.ln,i * 4,none⟩ = some (.int .i64 h.num) := fun o => ((Below.refl w.heap.size w).alloc (Nat.le_refl _) o).cell (p := ⟨a.ln,i * 4,none⟩) H.out.fln.2.2 |>.trans (H.out.laneC_ Hh.out Hl.out).1
   have m0' : ∀ o,(w.alloc o).cell? ⟨a.ln,i * 4,none⟩ = some (.int .i64 0) := fun o => by rw [m0,hz]; rfl
   have d12 : ∀ o,(w.alloc o).cell? ⟨a.g,12,none⟩ = some (.slice (some ⟨a.ln,0,none⟩) L L) := fun o => (blk_cell ((Below.heap_alloc _ _ _ H.out.fst.2.2).trans (H.out.st (fun h => h))) 12).trans (by simp [storyC,HL.out])
   have HW0 := Lib.hid hW0
   clear m0 hR hz hln hn0 hline hW0
   go_enter Tryz.func39,Tryz.ntmps39
   go_wp2_with fail
   refine bodyPost_ret (v := .tuple #[.int .u8 0,ev0.v,.bool false]) (by simp [results,Tryz.results39,go_sem,Ev.v,ev0]) rfl ⟨φ0,_,by rw [HR.out],Hφ1.out,by rw [HR.out,← HW0.out]; exact HS0.out,by rw [← HW0.out]; exact HB0.out⟩
 | cons y r =>
   rw [hline] at hR
   simp only at hR
   obtain ⟨φ0,hφ0⟩ : ∃ φ0 : Nat→Nat,φ0 = fun b => if b < w.heap.size then φ b else if b = w.heap.size then 50 else 20 := ⟨_,rfl⟩
   have hφ1 : ∀ b,b < w.heap.size→φ0 b = φ b := fun b hb => by rw [hφ0]; simp only [if_pos hb]
   have h : StAt w φ0 Bo c rs rs' by_ a x s := h0.relabel hφ1
   have Hφ1 := Lib.hid hφ1
   have hφ2 : φ0 w.heap.size = 50 := by rw [hφ0]; simp
   have hφ3 : ∀ b,w.heap.size < b→φ0 b = 20 := fun b hb => by rw [hφ0]; simp only [if_neg (show ¬ b < w.heap.size by omega),if_neg (show ¬ b = w.heap.size by omega)]
   have Hφ2 := Lib.hid hφ2
   have Hφ3 := Lib.hid hφ3
   clear hφ2 hφ3
   clear hφ0 hφ1 h0
   have H := Lib.hid h
   have HI := Lib.hid hi
   obtain ⟨W0,hW0⟩ : ∃ W0,W0 = w.alloc (.cells #[.int .i64 0,.int .u8 0,.int .i64 0,.int .i64 0,.int .i64 0,.int .i64 0] 51) := ⟨_,rfl⟩
   have hb0 : Below w.heap.size w W0 := hW0 ▸ (Below.refl _ _).alloc (Nat.le_refl _) _
   have hz0 : W0.heap.size = w.heap.size+1 := by rw [hW0]; simp
   have HE0 : Hid (W0.heap[w.heap.size]? = some evBox) := Lib.hid (hW0 ▸ blk_new _ _)
   have HS0 := Lib.hid (h.below hb0 (fun h => h) (fun h => h))
   have HB0 : Hid (Below Bo w W0) := Lib.hid (hb0.mono h.lo)
   have HZ0 := Lib.hid hz0
   clear h hi hb0 hz0
   obtain ⟨b1,q2,b3,b4⟩ := HI.out.busy y (by rw [hline]; simp)
   have hml := HI.out.ml
   obtain ⟨n,hn⟩ : ∃ n,y = n+1 := ⟨y - 1,by omega⟩
   subst hn
   have HR : Hid (R = ((4,⟨0,0,((n : Int)+1),0,0,0⟩,true),{ s with line := r,lanes := s.lanes.set i ⟨n+1,cntW (wsOf rs n),0,0⟩ })) := Lib.hid hR
   have hnr : n < rs.length := by omega
   have hz : h.num = 0 := hn0
   obtain ⟨hT,hA⟩ := H.out.line (fun h => h)
   rw [hline] at hT
   have hln : x.line.n = r.length+1 := by rw [← hT.len]; rfl
   rw [hln] at hT
   obtain ⟨b,off,y',hAe,hbl,hx,hcl⟩ := hT.row.at_ (i := 0) (by omega)
   have hy : y' = n+1 := by simp at hx; exact hx.symm
   subst hy
   have x0 : ∀ o,(w.alloc o).cell? ⟨b,off,none⟩ = some (.int .i64 ((n : Int)+1)) := fun o => by
    have := hcl 0 _ rfl
    simp only [Nat.zero_mul,Nat.add_zero] at this
    exact (((Below.refl w.heap.size w).alloc (Nat.le_refl _) o).cell (p := ⟨b,off,none⟩) hbl).trans this
   have d10 : ∀ o,(w.alloc o).cell? ⟨a.g,10,none⟩ = some (.slice (some ⟨b,off,none⟩) (r.length+1) x.line.c) := fun o => (blk_cell ((Below.heap_alloc _ _ _ H.out.fst.2.2).trans (H.out.st (fun h => h))) 10).trans (by simp [storyC,SL.v,hln,hAe])
   have m0 : ∀ o,(w.alloc o).cell? ⟨a.ln,i * 4,none⟩ = some (.int .i64 h.num) := fun o => ((Below.refl w.heap.size w).alloc (Nat.le_refl _) o).cell (p := ⟨a.ln,i * 4,none⟩) H.out.fln.2.2 |>.trans (H.out.laneC_ Hh.out Hl.out).1
   have m0' : ∀ o,(w.alloc o).cell? ⟨a.ln,i * 4,none⟩ = some (.int .i64 0) := fun o => by rw [m0,hz]; rfl
   have fm : ∀ o,(w.alloc o).frozen? ⟨a.ln,i * 4,none⟩ = false := fun o => blk_frozen ((Below.heap_alloc _ _ _ H.out.fln.2.2).trans (H.out.ln (fun h => h))) _
   have hr1 : (0 : Int) < (r.length : Int)+1 := by omega
   have d12 : ∀ o,(w.alloc o).cell? ⟨a.g,12,none⟩ = some (.slice (some ⟨a.ln,0,none⟩) L L) := fun o => (blk_cell ((Below.heap_alloc _ _ _ H.out.fst.2.2).trans (H.out.st (fun h => h))) 12).trans (by simp [storyC,HL.out])
   obtain ⟨W1,hW1⟩ : ∃ W1,W1 = W0.setCell ⟨a.ln,i * 4,none⟩ (.int .i64 ((n : Int)+1)) := ⟨_,rfl⟩
   obtain ⟨t1,hkW1⟩ := HS0.out.putNum Hh.out Hl.out (n+1)
   rw [show ((n+1 : Nat) : Int) = (n : Int)+1 by omega] at t1 hkW1
   rw [← hW1] at t1 hkW1
   have HS1 := Lib.hid t1
   have HB1 : Hid (Below Bo w W1) := Lib.hid (HB0.out.trans (hkW1.below HS0.out.lo (fun q e => by rw [e]; exact H.out.fln.2.1)))
   have HE1 : Hid (W1.heap[w.heap.size]? = some evBox) := Lib.hid (hkW1.blk HE0.out (blk_lt HE0.out) (by have := H.out.fln.2.2; omega))
   clear t1 hkW1
   have hcap2 := hT.le
   have Hln := Lib.hid hln
   have HAe := Lib.hid hAe
   have HA : Hid (At φ0 10 (some ⟨b,off,none⟩)) := Lib.hid (hAe ▸ hA)
   have HW0 := Lib.hid hW0
   have HW1 := Lib.hid hW1
   have HNY : Hid (n+1≤s.m∧s.E (n+1) = false∧depL rs' s.E (n+1) = []) := Lib.hid ⟨q2,b3,b4⟩
   have Hline := Lib.hid hline
   rw [HW0.out] at hW1
   have Hh1 := Lib.hid (get_set_self (y := { h with num := n+1 }) Hh.out)
   have Hl1 := Lib.hid (get_set_self (y := l) Hl.out)
   obtain ⟨g2,off2,rr,hlA,hb2l,hx2,y0,y1,hws,hrl2⟩ := HS1.out.log.cell2 (i := n) (by have := H.out.log.1.len; omega)
   obtain ⟨htx,hrn⟩ := hlog n rr hx2
   rw [hrn] at y0
   have hws32 : rr.ws.length≤32 := by simp [txB] at htx; omega
   have hrlen : rr.len≤32 := by rw [← hws.len]; exact hws32
   have hrcap := hcap rr (List.mem_of_getElem? hx2)
   have hwsOf : wsOf rs n = rr.ws := by unfold wsOf; rw [hx2]; rfl
   rw [hwsOf] at HR
   have hz1 : Bo≤W1.heap.size := HS1.out.lo
   have hcnt := counting_any ((n : Int)+1) rr.A rr.len rr.cap rr.ws W1.drew ((hws.below ((bel_drew (Below.refl _ _)).mono hz1)).more (by simpa using hz1)) (by omega) hrcap
   have Hcnt := Lib.hid hcnt
   have u4 : W1.cell? ⟨a.g,4,none⟩ = some (.slice (some ⟨g2,off2,none⟩) a.n a.cap) := (blk_cell (HS1.out.st (fun h => h)) 4).trans (by rw [← hlA]; rfl)
   have hb2a : g2≠a.ln := by have := H.out.fln.2.1; omega
   have hga : a.g≠a.ln := fun e => by have h1 := H.out.fst.1; rw [e,H.out.fln.1] at h1; omega
   have hgl := HS1.out.fst.2.2
   have hbl2 : g2 < W1.heap.size := Nat.lt_of_lt_of_le hb2l hz1
   have hlnl := HS1.out.fln.2.2
   have u0 : W1.cell? ⟨a.ln,i * 4,none⟩ = some (.int .i64 ((n : Int)+1)) := (HS1.out.laneC_ Hh1.out Hl1.out).1
   have HKS : Hid (∀ X : World,Kept W1 X (fun q => q = a.ln)∧X.cell? ⟨a.ln,i * 4,none⟩ = some (.int .i64 ((n : Int)+1))→X.cell? ⟨a.g,4,none⟩ = some (.slice (some ⟨g2,off2,none⟩) a.n a.cap)∧X.cell? ⟨a.ln,i * 4,none⟩ = some (.int .i64 ((n : Int)+1))∧X.cell? ⟨g2,off2+n * 2,none⟩ = some (.int .i64 ((n : Int)+1))∧X.cell? ⟨g2,off2+n * 2+1,none⟩ = some (.slice rr.A rr.len rr.cap)) := Lib.hid (fun X k => ⟨(k.1.cell hgl hga).trans u4,k.2,(k.1.cell hbl2 hb2a).trans y0,(k.1.cell hbl2 hb2a).trans y1⟩)
   have HK0 : Hid (Kept W1 W1.drew (fun q => q = a.ln)∧W1.drew.cell? ⟨a.ln,i * 4,none⟩ = some (.int .i64 ((n : Int)+1))) := Lib.hid ⟨Kept.of_below (bel_drew (Below.refl _ _)),u0⟩
   have HKL : Hid (∀ (X : World) (o : Nat) (v : Value),o≠i * 4→(Kept W1 X (fun q => q = a.ln)∧X.cell? ⟨a.ln,i * 4,none⟩ = some (.int .i64 ((n : Int)+1)))→(Kept W1 (X.setCell ⟨a.ln,o,none⟩ v) (fun q => q = a.ln)∧(X.setCell ⟨a.ln,o,none⟩ v).cell? ⟨a.ln,i * 4,none⟩ = some (.int .i64 ((n : Int)+1)))) := Lib.hid (fun X o v ho k => ⟨k.1.setCell (p := ⟨a.ln,o,none⟩) (Or.inl rfl) v,by rw [World.cell?_setCell_other _ _ _ _ (by intro e; injection e with e; omega)]; exact k.2⟩)
   have hw3 : IntKind.i64.wrap ((n : Int)+1 - 1) = n := by rw [IntKind.wrap_i64]; omega
   have hn0' : (0 : Int)≤(n : Int) := by omega
   have hw4 : IntKind.i64.wrap (n : Int) = n := by rw [IntKind.wrap_i64]; omega
   have hlen := H.out.log.1.len
   have hna : (n : Int) < (a.n : Int) := by omega
   have hnat : n < a.n := by omega
   have dn1 : decide ((n : Int) < (a.n : Int)) = true := decide_eq_true hna
   have dn2 : decide (n < a.n) = true := decide_eq_true hnat
   have dn3 : decide (0≤(n : Int)) = true := decide_eq_true hn0'
   clear m0 hR hz hn0 hline hW0 hT hA hAe hx hcl b1 q2 b3 b4 hml hln hlog hcap hlA hx2 y0 y1 hws hrl2 htx hrn hws32 hrlen hrcap hwsOf u4 u0 hb2a hga hgl hbl2 hlnl hlen hcnt
   go_enter Tryz.func39,Tryz.ntmps39
   go_wp2_with fail
   rw [← hW1]
   clear hW1 x0 d10 m0' fm d12
   go_region_held3 (fun X => X.cell? ⟨a.g,4,none⟩ = some (.slice (some ⟨g2,off2,none⟩) a.n a.cap)∧X.cell? ⟨a.ln,i * 4,none⟩ = some (.int .i64 ((n : Int)+1))∧X.cell? ⟨g2,off2+n * 2,none⟩ = some (.int .i64 ((n : Int)+1))∧X.cell? ⟨g2,off2+n * 2+1,none⟩ = some (.slice rr.A rr.len rr.cap))
    (first | (refine HKS.out _ ?_; repeat (first | with_reducible exact HK0.out | with_reducible exact HK3.out | (refine HKL.out _ _ _ (by omega) ?_))))
    (first | (go_at_call 61; refine Hcnt.out.mono ?_; rintro e w3 ⟨A3,n3,c3,rfl,hT3,hb3⟩; have HK3 : Hid (Kept W1 w3 (fun q => q = a.ln)∧w3.cell? ⟨a.ln,i * 4,none⟩ = some (.int .i64 ((n : Int)+1))) := Lib.hid ⟨HK0.out.1.trans (Kept.of_below hb3),(hb3.cell (p := ⟨a.ln,i * 4,none⟩) HS1.out.fln.2.2).trans HK0.out.2⟩; have HT3 := Lib.hid hT3; have HS3 := Lib.hid (HS1.out.below (((bel_drew (Below.refl _ _)) : Below W1.heap.size W1 W1.drew).trans hb3) (fun h => h) (fun h => h)); have Hb3 := Lib.hid hb3; have y1 := (HS3.out.laneC_ Hh1.out Hl1.out).2.1; have y2 := (HS3.out.laneC_ Hh1.out Hl1.out).2.2.1; have y3 := (HS3.out.laneC_ Hh1.out Hl1.out).2.2.2.1; have yf := (HS3.out.laneC_ Hh1.out Hl1.out).2.2.2.2; clear hT3 hb3))
   have hz3 : W1.heap.size≤w3.heap.size := by have := Hb3.out.size; simpa using this
   have HB3 : Hid (Below Bo w w3) := Lib.hid (HB1.out.trans ((((bel_drew (Below.refl _ _)) : Below W1.heap.size W1 W1.drew).trans Hb3.out).mono hz1))
   have HE3 : Hid (w3.heap[w.heap.size]? = some evBox) := Lib.hid ((Hb3.out.block _ (blk_lt HE1.out)).trans HE1.out)
   have HA3 : Hid (At φ0 20 A3) := Lib.hid (fun ad e => by
    have h1 := (HT3.out.lt e).1
    have h2 := blk_lt HE1.out
    exact Hφ3.out _ (Nat.lt_of_lt_of_le h2 h1))
   obtain ⟨W4,hW4⟩ : ∃ W4,W4 = w3.setCell ⟨a.ln,i * 4+1,none⟩ (.slice A3 n3 c3) := ⟨_,rfl⟩
   obtain ⟨t1,hkW4⟩ := HS3.out.putLane Hh1.out Hl1.out 1 (.slice A3 n3 c3) (h' := ⟨n+1,cntW rr.ws,h.sent,h.ack⟩) (l' := ⟨A3,n3,c3⟩) (by omega) rfl (HT3.out.more hz1) HA3.out
   rw [← hW4] at t1 hkW4
   have HS4 := Lib.hid t1
   have HB4 : Hid (Below Bo w W4) := Lib.hid (HB3.out.trans (hkW4.below HS3.out.lo (fun q e => by rw [e]; exact H.out.fln.2.1)))
   have HE4 : Hid (W4.heap[w.heap.size]? = some evBox) := Lib.hid (hkW4.blk HE3.out (blk_lt HE3.out) (by have := H.out.fln.2.2; omega))
   clear t1 hkW4
   have Hh4 := Lib.hid (get_set_self (y := (⟨n+1,cntW rr.ws,h.sent,h.ack⟩ : Ln)) Hh1.out)
   have Hl4 := Lib.hid (get_set_self (y := (⟨A3,n3,c3⟩ : SL)) Hl1.out)
   obtain ⟨W5,hW5⟩ : ∃ W5,W5 = W4.setCell ⟨a.ln,i * 4+2,none⟩ (.int .i64 0) := ⟨_,rfl⟩
   obtain ⟨t1,hkW5⟩ := HS4.out.putLane0 Hh4.out Hl4.out 2 (.int .i64 0) (h' := ⟨n+1,cntW rr.ws,0,h.ack⟩) (by omega) rfl rfl
   rw [← hW5] at t1 hkW5
   have HS5 := Lib.hid t1
   have HB5 : Hid (Below Bo w W5) := Lib.hid (HB4.out.trans (hkW5.below HS4.out.lo (fun q e => by rw [e]; exact H.out.fln.2.1)))
   have HE5 : Hid (W5.heap[w.heap.size]? = some evBox) := Lib.hid (hkW5.blk HE4.out (blk_lt HE4.out) (by have := H.out.fln.2.2; omega))
   clear t1 hkW5
   have Hh5 := Lib.hid (get_set_self (y := (⟨n+1,cntW rr.ws,0,h.ack⟩ : Ln)) Hh4.out)
   have Hl5 := Lib.hid (get_set_self (y := (⟨A3,n3,c3⟩ : SL)) Hl4.out)
   obtain ⟨W6,hW6⟩ : ∃ W6,W6 = W5.setCell ⟨a.ln,i * 4+3,none⟩ (.int .i64 0) := ⟨_,rfl⟩
   obtain ⟨t1,hkW6⟩ := HS5.out.putLane0 Hh5.out Hl5.out 3 (.int .i64 0) (h' := ⟨n+1,cntW rr.ws,0,0⟩) (by omega) rfl rfl
   rw [← hW6] at t1 hkW6
   have HS6 := Lib.hid t1
   have HB6 : Hid (Below Bo w W6) := Lib.hid (HB5.out.trans (hkW6.below HS5.out.lo (fun q e => by rw [e]; exact H.out.fln.2.1)))
   have HE6 : Hid (W6.heap[w.heap.size]? = some evBox) := Lib.hid (hkW6.blk HE5.out (blk_lt HE5.out) (by have := H.out.fln.2.2; omega))
   clear t1 hkW6
   have Hh6 := Lib.hid (get_set_self (y := (⟨n+1,cntW rr.ws,0,0⟩ : Ln)) Hh5.out)
   have Hl6 := Lib.hid (get_set_self (y := (⟨A3,n3,c3⟩ : SL)) Hl5.out)
   have v10 : W6.cell? ⟨a.g,10,none⟩ = some (.slice (some ⟨b,off,none⟩) (r.length+1) x.line.c) := (blk_cell (HS6.out.st (fun h => h)) 10).trans (by simp [storyC,SL.v,Hln.out,HAe.out])
   have f10 : W6.frozen? ⟨a.g,10,none⟩ = false := blk_frozen (HS6.out.st (fun h => h)) 10
   have hT6 := (HS6.out.line (fun h => h)).1
   simp only at hT6
   rw [Hline.out,Hln.out,HAe.out] at hT6
   have Hpop := Lib.hid hT6.pop
   clear hT6 y1 y2 y3 yf HK3 HT3 HS3 Hb3 hz3 HB3 HE3 HS4 HB4 HE4 HS5 HB5 HE5 Hh4 Hl4 Hh5 Hl5 HKS HK0 HKL Hcnt hw3 hn0' hw4 hna hnat dn1 dn2 dn3 Hh1 Hl1
   rw [← hW4,← hW5,← hW6]
   clear hW4 hW5 hW6
   by_cases hc1 : x.line.c = 1
   · have hr0 : r = [] := List.eq_nil_of_length_eq_zero (by omega)
     obtain ⟨A1,n1,c1,hA1,hn1,hcc⟩ : ∃ (A1 : Option Addr) (n1 c1 : Nat),A1 = some ⟨b,off,none⟩∧n1 = 0∧c1 = 0 := ⟨_,_,_,rfl,rfl,rfl⟩
     have HT1 : Hid (TkAt natC 1 3 W6 Bo A1 n1 c1 r) := Lib.hid (by rw [hA1,hn1,hcc]; have := Hpop.out; rw [if_pos hc1,hc1,hr0] at this; rw [hr0]; exact this)
     have HA1 : Hid (At φ0 10 A1) := Lib.hid (by rw [hA1]; exact HA.out)
     have HX := Lib.hid (And.intro hA1 (And.intro hn1 hcc))
     clear hA1 hn1 hcc
     rw [hc1,hr0] at v10
     simp only [List.length_nil,Nat.zero_add] at v10
     clear hc1 hcap2 hr1
     have Hr0 := Lib.hid hr0
     clear hr0
     go_wp2_with fail
     have hsl : Value.slice (some ⟨b,off,none⟩) 0 0 = Value.slice A1 n1 c1 := by rw [HX.out.1,HX.out.2.1,HX.out.2.2]
     rw [hsl]
     obtain ⟨W7,hW7⟩ : ∃ W7,W7 = W6.setCell ⟨a.g,10,none⟩ (.slice A1 n1 c1) := ⟨_,rfl⟩
     have HS7 := Lib.hid (hW7 ▸ HS6.out.setLine (fun _ h => h.elim) HT1.out HA1.out)
     have hk7 : Kept W6 W7 (fun q => q = a.g) := hW7 ▸ (Kept.refl W6 (fun q => q = a.g)).setCell (p := ⟨a.g,10,none⟩) (Or.inl rfl) _
     have HB7 : Hid (Below Bo w W7) := Lib.hid (HB6.out.trans (hk7.below HS6.out.lo (fun q e => by rw [e]; exact H.out.fst.2.1)))
     have HE7 : Hid (W7.heap[w.heap.size]? = some evBox) := Lib.hid (hk7.blk HE6.out (blk_lt HE6.out) (by have := H.out.fst.2.2; omega))
     have u0 : W7.cell? ⟨a.ln,i * 4,none⟩ = some (.int .i64 ((n : Int)+1)) := (HS7.out.laneC_ Hh6.out Hl6.out).1
     clear hk7 v10 f10
     rw [← hW7]
     clear hW7
     have hS7 := HS7.out
     simp only [List.set_set] at hS7
     have HS7 := Lib.hid hS7
     clear hS7
     have hE5 := HE7.out
     have g0 := blk_cell hE5 0
     have g1 := blk_cell hE5 1
     have g2 := blk_cell hE5 2
     have g3 := blk_cell hE5 3
     have g4 := blk_cell hE5 4
     have g5 := blk_cell hE5 5
     have k0 := blk_frozen hE5 0
     have k1 := blk_frozen hE5 1
     have k2 := blk_frozen hE5 2
     have k3 := blk_frozen hE5 3
     have k4 := blk_frozen hE5 4
     have k5 := blk_frozen hE5 5
     clear hE5
     go_region
     obtain ⟨X0,hX0⟩ : ∃ X0,X0 = ((((((W7.setCell ⟨w.heap.size,0,none⟩ (.int .i64 0)).setCell ⟨w.heap.size,1,none⟩ (.int .u8 0)).setCell ⟨w.heap.size,2,none⟩ (.int .i64 ((n : Int)+1))).setCell ⟨w.heap.size,3,none⟩ (.int .i64 0)).setCell ⟨w.heap.size,4,none⟩ (.int .i64 0)).setCell ⟨w.heap.size,5,none⟩ (.int .i64 0)) := ⟨_,rfl⟩
     rw [← hX0]
     obtain ⟨hXk,r0,r1,r2,r3,r4,r5⟩ := ev_box HE7.out rfl _ _ _ _ _ _ hX0
     obtain ⟨X1,hX1⟩ : ∃ X1,X1 = X0.drew := ⟨_,rfl⟩
     rw [← hX1]
     replace hXk : Kept W7 X1 (fun q => q = w.heap.size) := hX1 ▸ hXk.trans (Kept.of_below (bel_drew (Below.refl _ _)))
     replace r0 : X1.cell? ⟨w.heap.size,0,none⟩ = some (.int .i64 0) := hX1 ▸ r0
     replace r1 : X1.cell? ⟨w.heap.size,1,none⟩ = some (.int .u8 0) := hX1 ▸ r1
     replace r2 : X1.cell? ⟨w.heap.size,2,none⟩ = some (.int .i64 ((n : Int)+1)) := hX1 ▸ r2
     replace r3 : X1.cell? ⟨w.heap.size,3,none⟩ = some (.int .i64 0) := hX1 ▸ r3
     replace r4 : X1.cell? ⟨w.heap.size,4,none⟩ = some (.int .i64 0) := hX1 ▸ r4
     replace r5 : X1.cell? ⟨w.heap.size,5,none⟩ = some (.int .i64 0) := hX1 ▸ r5
     have hBX : Below Bo w X1 := HB7.out.trans (hXk.below HS7.out.lo (fun q e => by rw [e]; exact H.out.lo))
     have hSX := HS7.out.junk (hXk.mono fun q e => by rw [e]; exact Hφ2.out)
     clear hX0 hX1
     go_wp2_with fail
     refine bodyPost_ret (v := .tuple #[.int .u8 4,.agg #[.int .i64 0,.int .u8 0,.int .i64 ((n : Int)+1),.int .i64 0,.int .i64 0,.int .i64 0],.bool true]) (by simp [results,Tryz.results39,go_sem,r0,r1,r2,r3,r4,r5]) rfl ⟨φ0,_,by rw [HR.out]; rfl,Hφ1.out,by rw [HR.out]; exact hSX,hBX⟩
   · obtain ⟨A1,n1,c1,hA1,hn1,hcc⟩ : ∃ (A1 : Option Addr) (n1 c1 : Nat),A1 = some ⟨b,off+1,none⟩∧n1 = r.length∧c1 = x.line.c - 1 := ⟨_,_,_,rfl,rfl,rfl⟩
     have HT1 : Hid (TkAt natC 1 3 W6 Bo A1 n1 c1 r) := Lib.hid (by rw [hA1,hn1,hcc]; have := Hpop.out; rw [if_neg hc1] at this; simpa [Addr.add_lit] using this)
     have HA1 : Hid (At φ0 10 A1) := Lib.hid (by rw [hA1]; intro q e; injection e with e; subst e; have := HA.out ⟨b,off,none⟩ rfl; exact this)
     have HX := Lib.hid (And.intro hA1 (And.intro hn1 hcc))
     clear hA1 hn1 hcc
     go_wp2_with fail
     rw [← HX.out.1,← HX.out.2.1,← HX.out.2.2]
     obtain ⟨W7,hW7⟩ : ∃ W7,W7 = W6.setCell ⟨a.g,10,none⟩ (.slice A1 n1 c1) := ⟨_,rfl⟩
     have HS7 := Lib.hid (hW7 ▸ HS6.out.setLine (fun _ h => h.elim) HT1.out HA1.out)
     have hk7 : Kept W6 W7 (fun q => q = a.g) := hW7 ▸ (Kept.refl W6 (fun q => q = a.g)).setCell (p := ⟨a.g,10,none⟩) (Or.inl rfl) _
     have HB7 : Hid (Below Bo w W7) := Lib.hid (HB6.out.trans (hk7.below HS6.out.lo (fun q e => by rw [e]; exact H.out.fst.2.1)))
     have HE7 : Hid (W7.heap[w.heap.size]? = some evBox) := Lib.hid (hk7.blk HE6.out (blk_lt HE6.out) (by have := H.out.fst.2.2; omega))
     have u0 : W7.cell? ⟨a.ln,i * 4,none⟩ = some (.int .i64 ((n : Int)+1)) := (HS7.out.laneC_ Hh6.out Hl6.out).1
     clear hk7 v10 f10
     rw [← hW7]
     clear hW7
     have hS7 := HS7.out
     simp only [List.set_set] at hS7
     have HS7 := Lib.hid hS7
     clear hS7
     have hE5 := HE7.out
     have g0 := blk_cell hE5 0
     have g1 := blk_cell hE5 1
     have g2 := blk_cell hE5 2
     have g3 := blk_cell hE5 3
     have g4 := blk_cell hE5 4
     have g5 := blk_cell hE5 5
     have k0 := blk_frozen hE5 0
     have k1 := blk_frozen hE5 1
     have k2 := blk_frozen hE5 2
     have k3 := blk_frozen hE5 3
     have k4 := blk_frozen hE5 4
     have k5 := blk_frozen hE5 5
     clear hE5
     go_region
     obtain ⟨X0,hX0⟩ : ∃ X0,X0 = ((((((W7.setCell ⟨w.heap.size,0,none⟩ (.int .i64 0)).setCell ⟨w.heap.size,1,none⟩ (.int .u8 0)).setCell ⟨w.heap.size,2,none⟩ (.int .i64 ((n : Int)+1))).setCell ⟨w.heap.size,3,none⟩ (.int .i64 0)).setCell ⟨w.heap.size,4,none⟩ (.int .i64 0)).setCell ⟨w.heap.size,5,none⟩ (.int .i64 0)) := ⟨_,rfl⟩
     rw [← hX0]
     obtain ⟨hXk,r0,r1,r2,r3,r4,r5⟩ := ev_box HE7.out rfl _ _ _ _ _ _ hX0
     obtain ⟨X1,hX1⟩ : ∃ X1,X1 = X0.drew := ⟨_,rfl⟩
     rw [← hX1]
     replace hXk : Kept W7 X1 (fun q => q = w.heap.size) := hX1 ▸ hXk.trans (Kept.of_below (bel_drew (Below.refl _ _)))
     replace r0 : X1.cell? ⟨w.heap.size,0,none⟩ = some (.int .i64 0) := hX1 ▸ r0
     replace r1 : X1.cell? ⟨w.heap.size,1,none⟩ = some (.int .u8 0) := hX1 ▸ r1
     replace r2 : X1.cell? ⟨w.heap.size,2,none⟩ = some (.int .i64 ((n : Int)+1)) := hX1 ▸ r2
     replace r3 : X1.cell? ⟨w.heap.size,3,none⟩ = some (.int .i64 0) := hX1 ▸ r3
     replace r4 : X1.cell? ⟨w.heap.size,4,none⟩ = some (.int .i64 0) := hX1 ▸ r4
     replace r5 : X1.cell? ⟨w.heap.size,5,none⟩ = some (.int .i64 0) := hX1 ▸ r5
     have hBX : Below Bo w X1 := HB7.out.trans (hXk.below HS7.out.lo (fun q e => by rw [e]; exact H.out.lo))
     have hSX := HS7.out.junk (hXk.mono fun q e => by rw [e]; exact Hφ2.out)
     clear hX0 hX1
     go_wp2_with fail
     refine bodyPost_ret (v := .tuple #[.int .u8 4,.agg #[.int .i64 0,.int .u8 0,.int .i64 ((n : Int)+1),.int .i64 0,.int .i64 0,.int .i64 0],.bool true]) (by simp [results,Tryz.results39,go_sem,r0,r1,r2,r3,r4,r5]) rfl ⟨φ0,_,by rw [HR.out]; rfl,Hφ1.out,by rw [HR.out]; exact hSX,hBX⟩
set_option maxHeartbeats 4000000 in
theorem laneB_any (φ : Nat→Nat) (Bo : Nat) (c : Cfg) (rs rs' : List RTx) (by_ : List Int) (M k : Nat) (a : SA) (x : SG) (s : TS) (w : World) (i : Nat) (h0 : StAt w φ Bo c rs rs' by_ a x s) (hi : SInv c rs rs' M k s) (hc : c.ok = true) (hrl : rs.length≤65536) (hk : k≤4398046511104)
    (hlog : ∀ (i : Nat) (r : RTx),rs[i]? = some r→txB r.number r.ws = true∧r.number = (i : Int)+1) (hcap : ∀ r ∈ rs,r.len≤r.cap) (hi1 : (i : Int) < c.lanes) (hi0 : 0≤c.lanes) {h : Ln} (hh : s.lanes[i]? = some h) (hn0 : ¬ h.num = 0) {xw : Wr} (hx : h.ws[h.sent]? = some xw) :
    Calls Tryz.prog 39 #[ptrV a.g,.int .i64 ((i : Int)+1)] w (TaskEnd w φ Bo c rs rs' by_ a (s.lane c rs i)) := by
 obtain ⟨L,hL1⟩ : ∃ L : Nat,c.lanes = L := ⟨c.lanes.toNat,by omega⟩
 rw [hL1] at hi1
 have HL := Lib.hid hL1
 have hll := hi.ll
 rw [hL1] at hll
 obtain ⟨l,hl⟩ : ∃ l,x.LA[i]? = some l := ⟨_,List.getElem?_eq_getElem (by have := (h0.lw (fun h => h)).1; omega)⟩
 have Hh := Lib.hid hh
 have Hl := Lib.hid hl
 obtain ⟨R,hR⟩ : ∃ R,R = s.lane c rs i := ⟨_,rfl⟩
 rw [← hR]
 unfold TS.lane at hR
 rw [hh] at hR
 simp only at hR
 unfold ptrV
 have hiL : (i : Int) < (L : Int) := by omega
 have hiL0 : (0 : Int)≤(i : Int) := by omega
 have hc16 : c.lanes≤16 := by simp [Cfg.ok,inB] at hc; omega
 rw [HL.out] at hc16
 have hiw : IntKind.i64.wrap ((i : Int)+1 - 1) = i := by rw [IntKind.wrap_i64]; omega
 have hiN : i < L := by omega
 have hbnd := hi.lw h (List.mem_of_getElem? hh)
 have Hbnd := Lib.hid hbnd
 clear hL1 hll hh hl hbnd
 rw [if_neg hn0] at hR
 rw [hx] at hR
 simp only at hR
 obtain ⟨K,hK⟩ : ∃ K,K = shd c xw.key := ⟨_,rfl⟩
 rw [← hK] at hR
 have hsh : 1≤c.shards := by simp [Cfg.ok,inB] at hc; omega
 obtain ⟨S,hS1⟩ : ∃ S : Nat,c.shards = S := ⟨c.shards.toNat,by omega⟩
 have hKlt : K < S := by rw [hK,shd,hS1]; exact Nat.mod_lt _ (by simp; omega)
 have hql := hi.ql
 rw [hS1] at hql
 obtain ⟨q,hq⟩ : ∃ q,s.qs[K]? = some q := ⟨_,List.getElem?_eq_getElem (by omega)⟩
 obtain ⟨lq,hlq⟩ : ∃ l,x.QA[K]? = some l := ⟨_,List.getElem?_eq_getElem (by have := (h0.qb (fun h => h)).2; omega)⟩
 rw [hq,Option.getD_some] at hR
 have HS := Lib.hid hS1
 have Hq := Lib.hid hq
 have Hlq := Lib.hid hlq
 have HK := Lib.hid hK
 clear hS1 hql hq hlq
 obtain ⟨φ0,hφ0⟩ : ∃ φ0 : Nat→Nat,φ0 = fun b => if b < w.heap.size then φ b else if b = w.heap.size then 50 else (100+2 * K) := ⟨_,rfl⟩
 have hφ1 : ∀ b,b < w.heap.size→φ0 b = φ b := fun b hb => by rw [hφ0]; simp only [if_pos hb]
 have h : StAt w φ0 Bo c rs rs' by_ a x s := h0.relabel hφ1
 have Hφ1 := Lib.hid hφ1
 have hφ2 : φ0 w.heap.size = 50 := by rw [hφ0]; simp
 have hφ3 : ∀ b,w.heap.size < b→φ0 b = (100+2 * K) := fun b hb => by rw [hφ0]; simp only [if_neg (show ¬ b < w.heap.size by omega),if_neg (show ¬ b = w.heap.size by omega)]
 have Hφ2 := Lib.hid hφ2
 have Hφ3 := Lib.hid hφ3
 clear hφ2 hφ3
 clear hφ0 hφ1 h0
 have H := Lib.hid h
 have HI := Lib.hid hi
 obtain ⟨W0,hW0⟩ : ∃ W0,W0 = w.alloc (.cells #[.int .i64 0,.int .u8 0,.int .i64 0,.int .i64 0,.int .i64 0,.int .i64 0] 51) := ⟨_,rfl⟩
 have hb0 : Below w.heap.size w W0 := hW0 ▸ (Below.refl _ _).alloc (Nat.le_refl _) _
 have hz0 : W0.heap.size = w.heap.size+1 := by rw [hW0]; simp
 have HE0 : Hid (W0.heap[w.heap.size]? = some evBox) := Lib.hid (hW0 ▸ blk_new _ _)
 have HS0 := Lib.hid (h.below hb0 (fun h => h) (fun h => h))
 have HB0 : Hid (Below Bo w W0) := Lib.hid (hb0.mono h.lo)
 have HZ0 := Lib.hid hz0
 clear h hi hb0 hz0
 clear hK
 have hnz : ¬ (h.num : Int) = 0 := by omega
 have hKS : K < S := hKlt
 have hKi : (K : Int) < (S : Int) := by omega
 have hKi0 : (0 : Int)≤(K : Int) := by omega
 obtain ⟨hT0,hA0⟩ := (H.out.lw (fun h => h)).2 i h l Hh.out Hl.out
 have hwl := hT0.len
 have hsl : h.sent < l.n := by have := (List.getElem?_eq_some_iff.1 hx).1; omega
 obtain ⟨wb,wo,xw',hlA,hwb,hx',hwc⟩ := hT0.row.at_ (i := h.sent) hsl
 have hxx : xw' = xw := by rw [hx] at hx'; injection hx' with e; exact e.symm
 subst hxx
 have hwB := Hbnd.out.2.2.2 xw' (List.mem_of_getElem? hx)
 have hk1 : 1≤xw'.key.size∧xw'.key.size≤64 := by simp [wrB,keyB] at hwB; omega
 have hkey : w.cell? ⟨wb,wo+h.sent * 3,none⟩ = some (.string xw'.key) := by have := hwc 0 _ rfl; simpa using this
 have hsi : (h.sent : Int) < (l.n : Int) := by omega
 have hs0 : (0 : Int)≤(h.sent : Int) := by omega
 have hsi2 : h.sent < l.n := hsl
 have dn1 : decide ((h.sent : Int) < (l.n : Int)) = true := decide_eq_true hsi
 have hq20 : h.sent≤32∧l.n≤32 := by have := Hbnd.out.2.1; omega
 have hkey0 : ∀ X,Below w.heap.size w X→X.cell? ⟨wb,wo+h.sent * 3,none⟩ = some (.string xw'.key) := fun X hX => (hX.cell (p := ⟨wb,wo+h.sent * 3,none⟩) hwb).trans hkey
 have Hkey := Lib.hid hkey0
 have HlA := Lib.hid hlA
 have hW0b : Below w.heap.size w W0 := hW0 ▸ (Below.refl _ _).alloc (Nat.le_refl _) _
 have HW0b := Lib.hid hW0b
 have m0 : ∀ o,(w.alloc o).cell? ⟨a.ln,i * 4,none⟩ = some (.int .i64 h.num) := fun o => ((Below.refl w.heap.size w).alloc (Nat.le_refl _) o).cell (p := ⟨a.ln,i * 4,none⟩) H.out.fln.2.2 |>.trans (H.out.laneC_ Hh.out Hl.out).1
 have d12 : ∀ o,(w.alloc o).cell? ⟨a.g,12,none⟩ = some (.slice (some ⟨a.ln,0,none⟩) L L) := fun o => (blk_cell ((Below.heap_alloc _ _ _ H.out.fst.2.2).trans (H.out.st (fun h => h))) 12).trans (by simp [storyC,HL.out])
 have q1 : W0.cell? ⟨a.ln,i * 4+1,none⟩ = some (.slice (some ⟨wb,wo,none⟩) l.n l.c) := (HS0.out.laneC_ Hh.out Hl.out).2.1.trans (by rw [hlA])
 have q2 : W0.cell? ⟨a.ln,i * 4+2,none⟩ = some (.int .i64 h.sent) := (HS0.out.laneC_ Hh.out Hl.out).2.2.1
 have n1 : ∀ q : Ext W0,q.X.cell? ⟨a.ln,i * 4+1,none⟩ = some (.slice (some ⟨wb,wo,none⟩) l.n l.c) := fun q => (q.h.cell (p := ⟨a.ln,i * 4+1,none⟩) HS0.out.fln.2.2).trans q1
 have n2 : ∀ q : Ext W0,q.X.cell? ⟨a.ln,i * 4+2,none⟩ = some (.int .i64 h.sent) := fun q => (q.h.cell (p := ⟨a.ln,i * 4+2,none⟩) HS0.out.fln.2.2).trans q2
 have HW0 := Lib.hid hW0
 clear hW0 hlog hcap hn0 hT0 hA0 hwl hsl hlA hx hx' hwc hwB hkey hkey0 hW0b q1 q2 hsh hKlt
 go_enter Tryz.func39,Tryz.ntmps39
 go_wp2_with fail
 rw [← HW0.out]
 clear m0 d12
 refine wp_region_ext (by kernel_rfl) (by kernel_rfl) ?_
 repeat (go_big_quiet_step ((fail)))
 refine Ext.end_ fun X hX => ?_
 have HSX := Lib.hid (HS0.out.below hX (fun h => h) (fun h => h))
 have HEX : Hid (X.heap[w.heap.size]? = some evBox) := Lib.hid ((hX.block _ (blk_lt HE0.out)).trans HE0.out)
 have HBX : Hid (Below Bo w X) := Lib.hid (HB0.out.trans (hX.mono HS0.out.lo))
 clear n1 n2
 have HXw := Lib.hid (HW0b.out.trans (hX.mono HW0b.out.size))
 have q1 : X.cell? ⟨a.ln,i * 4+1,none⟩ = some (.slice (some ⟨wb,wo,none⟩) l.n l.c) := (HSX.out.laneC_ Hh.out Hl.out).2.1.trans (by rw [HlA.out])
 have q2 : X.cell? ⟨a.ln,i * 4+2,none⟩ = some (.int .i64 h.sent) := (HSX.out.laneC_ Hh.out Hl.out).2.2.1
 have n1 : ∀ q : Ext X,q.X.cell? ⟨a.ln,i * 4+1,none⟩ = some (.slice (some ⟨wb,wo,none⟩) l.n l.c) := fun q => (q.h.cell (p := ⟨a.ln,i * 4+1,none⟩) HSX.out.fln.2.2).trans q1
 have n2 : ∀ q : Ext X,q.X.cell? ⟨a.ln,i * 4+2,none⟩ = some (.int .i64 h.sent) := fun q => (q.h.cell (p := ⟨a.ln,i * 4+2,none⟩) HSX.out.fln.2.2).trans q2
 have d0 : X.cell? ⟨a.g,0,none⟩ = some (.int .i64 c.lanes) := blk_cell (HSX.out.st (fun h => h)) 0
 have d1 : X.cell? ⟨a.g,1,none⟩ = some (.int .i64 c.shards) := blk_cell (HSX.out.st (fun h => h)) 1
 have d2 : X.cell? ⟨a.g,2,none⟩ = some (.int .i64 c.window) := blk_cell (HSX.out.st (fun h => h)) 2
 have d3 : X.cell? ⟨a.g,3,none⟩ = some (.int .i64 c.queue) := blk_cell (HSX.out.st (fun h => h)) 3
 have e0 : ∀ q : Ext X,q.X.cell? ⟨a.g,0,none⟩ = some (.int .i64 c.lanes) := fun q => (q.h.cell (p := ⟨a.g,0,none⟩) HSX.out.fst.2.2).trans d0
 have e1 : ∀ q : Ext X,q.X.cell? ⟨a.g,1,none⟩ = some (.int .i64 c.shards) := fun q => (q.h.cell (p := ⟨a.g,1,none⟩) HSX.out.fst.2.2).trans d1
 have e2 : ∀ q : Ext X,q.X.cell? ⟨a.g,2,none⟩ = some (.int .i64 c.window) := fun q => (q.h.cell (p := ⟨a.g,2,none⟩) HSX.out.fst.2.2).trans d2
 have e3 : ∀ q : Ext X,q.X.cell? ⟨a.g,3,none⟩ = some (.int .i64 c.queue) := fun q => (q.h.cell (p := ⟨a.g,3,none⟩) HSX.out.fst.2.2).trans d3
 have ek : ∀ q : Ext X,q.X.cell? ⟨wb,wo+h.sent * 3,none⟩ = some (.string xw'.key) := fun q => Hkey.out _ (HXw.out.trans (q.h.mono HXw.out.size))
 have HN0 := fun q : Ext X => Ext.call (shard_any c xw'.key q.X hc hk1.1 hk1.2)
 unfold Cfg.v at HN0
 rw [← HK.out] at HN0
 have HN := Lib.hid HN0
 clear q1 q2 d0 d1 d2 d3 HN0 hX
 go_wp2_with fail
 refine wp_region_ext (by kernel_rfl) (by kernel_rfl) ?_
 repeat (go_big_quiet_step ((go_at_call 62; exact HN.out _)))
 refine Ext.end_ fun Y hY => ?_
 have HSY := Lib.hid (HSX.out.below hY (fun h => h) (fun h => h))
 have HEY : Hid (Y.heap[w.heap.size]? = some evBox) := Lib.hid ((hY.block _ (blk_lt HEX.out)).trans HEX.out)
 have HBY : Hid (Below Bo w Y) := Lib.hid (HBX.out.trans (hY.mono HSX.out.lo))
 clear n1 n2 e0 e1 e2 e3 ek HN hY
 have u13 : Y.cell? ⟨a.g,13,none⟩ = some (.slice (some ⟨a.qb,0,none⟩) S S) := (blk_cell (HSY.out.st (fun h => h)) 13).trans (by simp [storyC,HS.out])
 have uq : Y.cell? ⟨a.qb,K,none⟩ = some (.slice lq.A lq.n lq.c) := (blk_cell (HSY.out.qb (fun h => h)).1 K).trans (by simp [Hlq.out,SL.v])
 have e13 : ∀ q : Ext Y,q.X.cell? ⟨a.g,13,none⟩ = some (.slice (some ⟨a.qb,0,none⟩) S S) := fun q => (q.h.cell (p := ⟨a.g,13,none⟩) HSY.out.fst.2.2).trans u13
 have eq : ∀ q : Ext Y,q.X.cell? ⟨a.qb,K,none⟩ = some (.slice lq.A lq.n lq.c) := fun q => (q.h.cell (p := ⟨a.qb,K,none⟩) HSY.out.fqb.2.2).trans uq
 have d3 : Y.cell? ⟨a.g,3,none⟩ = some (.int .i64 c.queue) := blk_cell (HSY.out.st (fun h => h)) 3
 have e3 : ∀ q : Ext Y,q.X.cell? ⟨a.g,3,none⟩ = some (.int .i64 c.queue) := fun q => (q.h.cell (p := ⟨a.g,3,none⟩) HSY.out.fst.2.2).trans d3
 clear u13 uq d3
 go_wp2_with fail
 refine wp_region_ext (by kernel_rfl) (by kernel_rfl) ?_
 repeat (go_big_quiet_step ((fail)))
 refine Ext.end_ fun Z hZ => ?_
 have HSZ := Lib.hid (HSY.out.below hZ (fun h => h) (fun h => h))
 have HEZ : Hid (Z.heap[w.heap.size]? = some evBox) := Lib.hid ((hZ.block _ (blk_lt HEY.out)).trans HEY.out)
 have HBZ : Hid (Below Bo w Z) := Lib.hid (HBY.out.trans (hZ.mono HSY.out.lo))
 clear e13 eq e3 hZ
 obtain ⟨hTq,hAq⟩ := HSZ.out.qw K q lq Hq.out Hlq.out (fun h => h)
 have hlq := hTq.len
 have hcq : 1≤c.queue∧c.queue≤16 := by simp [Cfg.ok,inB] at hc; omega
 by_cases hf : q.length = c.queue.toNat
 · have HR : Hid (R = ((0,ev0,false),s)) := Lib.hid (by rw [hR,if_pos hf])
   have hfe : (lq.n : Int) = c.queue := by omega
   clear hR hf hTq hAq hlq
   as_aux_lemma =>
   skip
   have hE5 := HEZ.out
   have g0 := blk_cell hE5 0
   have g1 := blk_cell hE5 1
   have g2 := blk_cell hE5 2
   have g3 := blk_cell hE5 3
   have g4 := blk_cell hE5 4
   have g5 := blk_cell hE5 5
   have k0 := blk_frozen hE5 0
   have k1 := blk_frozen hE5 1
   have k2 := blk_frozen hE5 2
   have k3 := blk_frozen hE5 3
   have k4 := blk_frozen hE5 4
   have k5 := blk_frozen hE5 5
   clear hE5
   go_wp2_with fail
   obtain ⟨X0,hX0⟩ : ∃ X0,X0 = ((((((Z.setCell ⟨w.heap.size,0,none⟩ (.int .i64 0)).setCell ⟨w.heap.size,1,none⟩ (.int .u8 0)).setCell ⟨w.heap.size,2,none⟩ (.int .i64 0)).setCell ⟨w.heap.size,3,none⟩ (.int .i64 0)).setCell ⟨w.heap.size,4,none⟩ (.int .i64 0)).setCell ⟨w.heap.size,5,none⟩ (.int .i64 0)) := ⟨_,rfl⟩
   rw [← hX0]
   obtain ⟨hXk,r0,r1,r2,r3,r4,r5⟩ := ev_box HEZ.out rfl _ _ _ _ _ _ hX0
   have hBX : Below Bo w X0 := HBZ.out.trans (hXk.below HSZ.out.lo (fun q e => by rw [e]; exact H.out.lo))
   have hSX := HSZ.out.junk (hXk.mono fun q e => by rw [e]; exact Hφ2.out)
   clear hX0
   refine bodyPost_ret (v := .tuple #[.int .u8 0,.agg #[.int .i64 0,.int .u8 0,.int .i64 0,.int .i64 0,.int .i64 0,.int .i64 0],.bool false]) (by simp [results,Tryz.results39,go_sem,r0,r1,r2,r3,r4,r5]) rfl ⟨φ0,_,by rw [HR.out]; rfl,Hφ1.out,by rw [HR.out]; exact hSX,hBX⟩
 · have HR : Hid (R = ((5,⟨0,0,h.num,K,0,0⟩,true),{ s with qs := s.qs.set K (q ++ [((i : Int)+1,(h.num : Int))]),lanes := s.lanes.set i { h with sent := h.sent+1 } })) := Lib.hid (by rw [hR,if_neg hf,modify_set Hq.out])
   have hfe : ¬ (lq.n : Int) = c.queue := by omega
   have hqn : lq.n≤16 := by have := (HI.out.qw q (List.mem_of_getElem? Hq.out)).1; omega
   clear hR hf hlq
   as_aux_lemma =>
   skip
   obtain ⟨i0,hi0',hz0,hz1,hz2⟩ := info_parts info_ask
   obtain ⟨I,hI⟩ : ∃ I : Nat→Prop,I = fun b => ∃ a,lq.A = some a∧b = a.block := ⟨_,rfl⟩
   have hIn : ∀ b,φ0 b≠100+2 * K→¬ I b := fun b hb => by
    rw [hI]; rintro ⟨ad,e,e2⟩; exact hb (by rw [e2]; exact hAq ad e)
   have HH0 : Hid (∀ X,Kept Z X I→StH X φ0 Bo (fun j => j = 100+2 * K) c rs rs' by_ a x s) := Lib.hid (fun X k => HSZ.out.holeQ Hq.out Hlq.out (hI ▸ k))
   have u13 : ∀ n : KX Z I,n.X.cell? ⟨a.g,13,none⟩ = some (.slice (some ⟨a.qb,0,none⟩) S S) := fun n => (blk_cell ((HH0.out _ n.h).st (by omega)) 13).trans (by simp [storyC,HS.out])
   have uq : ∀ n : KX Z I,n.X.cell? ⟨a.qb,K,none⟩ = some (.slice lq.A lq.n lq.c) := fun n => (blk_cell ((HH0.out _ n.h).qb (by omega)).1 K).trans (by simp [Hlq.out,SL.v])
   have u0 : ∀ n : KX Z I,n.X.cell? ⟨a.ln,i * 4,none⟩ = some (.int .i64 h.num) := fun n => (blk_cell ((HH0.out _ n.h).ln (by omega)) _).trans (by simpa using lanes_get Hh.out Hl.out (j := 0) rfl)
   have HAl := Lib.hid hAq
   have HI2 := Lib.hid hI
   clear hTq hAq hI hIn
   go_wp2_with fail
   refine wp_region_reads_tail 18 I (by kernel_rfl) (by kernel_rfl) (fun _ _ d _ _ h => by cases d <;> exact h) ?_
   simp only [List.take_succ_cons,List.take_zero,List.drop_succ_cons,List.drop_zero]
   repeat (go_big_quiet_step (fail))
   refine wpQuiet_nil ?_
   clear u13 uq u0
   refine tailC_one rfl ?_
   clear HH0
   go_wp2_with fail
   obtain ⟨V1,hV1⟩ : ∃ V1,V1 = (Z.alloc (.cells #[.int .i64 ((i : Int)+1),.int .i64 h.num] 131)).drew := ⟨_,rfl⟩
   have hb1 : Below Z.heap.size Z V1 := hV1 ▸ bel_drew (bel_alloc (Below.refl _ _) _)
   have HSV1 := Lib.hid (HSZ.out.below hb1 (fun h => h) (fun h => h))
   have HEV1 : Hid (V1.heap[w.heap.size]? = some evBox) := Lib.hid ((hb1.block _ (blk_lt HEZ.out)).trans HEZ.out)
   have HBV1 : Hid (Below Bo w V1) := Lib.hid (HBZ.out.trans (hb1.mono HSZ.out.lo))
   have hcells : ∀ (j : Nat) (u : Value),(askC ((i : Int)+1,(h.num : Int)))[j]? = some u→V1.cell? ((⟨Z.heap.size,0,none⟩ : Addr).add j) = some u := fun j u hu => by
    rw [hV1]
    exact cells_new Z [.int .i64 ((i : Int)+1),.int .i64 h.num] 131 j u hu
   have HT1 : Hid (TkAt askC 2 131 V1 Bo lq.A lq.n lq.c q) := Lib.hid (HSV1.out.qw K q lq Hq.out Hlq.out (fun h => h)).1
   have HLo1 : Hid (Bo≤V1.heap.size) := Lib.hid HSV1.out.lo
   have HK1 : Hid (Kept Z V1 I) := Lib.hid (Kept.of_below hb1)
   have Hcells := Lib.hid hcells
   rw [← hV1]
   clear hV1 hb1 hcells
   refine QT.normal ⟨by first | exact fun _ => KX.in_ HK1.out | exact KX.in_ HK1.out,?_⟩
   refine tailC_one rfl ?_
   go_wp2_with (at_builtin; refine wpList_push rfl _ _ 129 rfl 131 i0 _ 2 16 Tryz.underlying129 hi0' hz0 hz1 hz2 rfl (by decide) (fun _ => rfl) one_askC Bo lq.A lq.n lq.c q rfl HT1.out HLo1.out ((i : Int)+1,(h.num : Int)) ⟨Z.heap.size,0,none⟩ 1 rfl Hcells.out (by simp only [maxLen]; omega) (by omega) ?_)
   intro A3 c3 w4 h1 h2 h3
   have HK4 : Hid (Kept Z w4 I) := Lib.hid (HK1.out.trans (HI2.out ▸ h2))
   have hA3 : At φ0 (100+2 * K) A3 := fun q e => by
    rcases h3 q e with ⟨c',e1,e2⟩ | h4
    · rw [e2]; exact HAl.out c' e1
    · exact Hφ3.out _ (by have := blk_lt HEV1.out; omega)
   have HH := Lib.hid (HSV1.out.holeQ Hq.out Hlq.out h2)
   have HEW : Hid (w4.heap[w.heap.size]? = some evBox) := Lib.hid (h2.blk HEV1.out (blk_lt HEV1.out) (fun ⟨ad',e,e2⟩ => by
    have := HAl.out ad' e
    rw [← e2,Hφ2.out] at this; omega))
   have HBW : Hid (Below Bo w w4) := Lib.hid (HBV1.out.trans (h2.below HSV1.out.lo (fun q ⟨ad',e,e2⟩ => by rw [e2]; exact ((HSV1.out.qw K _ lq Hq.out Hlq.out (fun h => h)).1.lt e).1)))
   obtain ⟨n3,hn3⟩ : ∃ n3,n3 = lq.n+1 := ⟨_,rfl⟩
   rw [← hn3] at h1 ⊢
   obtain ⟨W5,hW5⟩ : ∃ W5,W5 = w4.setCell ⟨a.qb,K,none⟩ (.slice A3 n3 c3) := ⟨_,rfl⟩
   have HS5 := Lib.hid (hW5 ▸ HH.out.setQ (fun i h => h) h1 hA3)
   have hk5 : Kept w4 W5 (fun q => q = a.qb) := hW5 ▸ (Kept.refl w4 (fun q => q = a.qb)).setCell (p := ⟨a.qb,K,none⟩) (Or.inl rfl) _
   have HB5 : Hid (Below Bo w W5) := Lib.hid (HBW.out.trans (hk5.below HH.out.lo (fun q e => by rw [e]; exact H.out.fqb.2.1)))
   have HE5 : Hid (W5.heap[w.heap.size]? = some evBox) := Lib.hid (hk5.blk HEW.out (blk_lt HEW.out) (by have := H.out.fqb.2.2; omega))
   clear h1 h2 h3 hk5 hn3
   have dq : w4.cell? ⟨a.qb,K,none⟩ = some (.slice lq.A lq.n lq.c) := (blk_cell (HH.out.qb (by omega)).1 K).trans (by simp [Hlq.out,SL.v])
   have fq : w4.frozen? ⟨a.qb,K,none⟩ = false := blk_frozen (HH.out.qb (by omega)).1 K
   refine QT.normal ⟨by first | exact fun _ => KX.in_ HK4.out | exact KX.in_ HK4.out,?_⟩
   refine tailC_one rfl ?_
   go_wp2_with fail
   refine QT.normal ⟨by first | exact fun _ => KX.in_ HK4.out | exact KX.in_ HK4.out,?_⟩
   refine tailC_one rfl ?_
   go_wp2_with fail
   refine QT.normal ⟨by simp,?_⟩
   refine tailC_nil ?_
   rw [← hW5]
   clear hW5 dq fq
   obtain ⟨v0,v1,v2,v3,vf⟩ := HS5.out.laneC_ Hh.out Hl.out
   clear v0 v1 v3
   have hw5 : IntKind.i64.wrap ((h.sent : Int)+1) = (h.sent : Int)+1 := by rw [IntKind.wrap_i64]; omega
   obtain ⟨W6,hW6⟩ : ∃ W6,W6 = W5.setCell ⟨a.ln,i * 4+2,none⟩ (.int .i64 ((h.sent : Int)+1)) := ⟨_,rfl⟩
   obtain ⟨t1,hkW6⟩ := HS5.out.putLane0 Hh.out Hl.out 2 (.int .i64 ((h.sent : Int)+1)) (h' := { h with sent := h.sent+1 }) (by omega) (by simp [laneC]) rfl
   rw [← hW6] at t1 hkW6
   have HS6 := Lib.hid t1
   have HB6 : Hid (Below Bo w W6) := Lib.hid (HB5.out.trans (hkW6.below HS5.out.lo (fun q e => by rw [e]; exact H.out.fln.2.1)))
   have HE6 : Hid (W6.heap[w.heap.size]? = some evBox) := Lib.hid (hkW6.blk HE5.out (blk_lt HE5.out) (by have := H.out.fln.2.2; omega))
   clear t1 hkW6
   go_wp2_with fail
   rw [← hW6]
   clear hW6 v2 vf hw5
   have Hh6 := Lib.hid (get_set_self (y := { h with sent := h.sent+1 }) Hh.out)
   have Hl6 := Lib.hid (get_set_self (y := l) Hl.out)
   have HlW : Hid (a.ln≠w.heap.size) := Lib.hid (by have := H.out.fln.2.2; omega)
   have u0 : ∀ n : KX W6 (fun q => q = w.heap.size),n.X.cell? ⟨a.ln,i * 4,none⟩ = some (.int .i64 h.num) := fun n => (n.h.cell HS6.out.fln.2.2 HlW.out).trans (HS6.out.laneC_ Hh6.out Hl6.out).1
   refine wp_region_reads_tail 6 (fun q => q = w.heap.size) (by kernel_rfl) (by kernel_rfl) (fun _ _ d _ _ h => by cases d <;> exact h) ?_
   simp only [List.take_succ_cons,List.take_zero,List.drop_succ_cons,List.drop_zero]
   repeat (go_big_quiet_step (fail))
   refine wpQuiet_nil ?_
   clear u0
   have HKd : Hid (Kept W6 W6.drew (fun q => q = w.heap.size)) := Lib.hid (Kept.of_below (bel_drew (Below.refl _ _)))
   refine tailC_one rfl ?_
   go_wp2_with fail
   refine QT.normal ⟨by first | exact fun _ => KX.in_ HKd.out | exact KX.in_ HKd.out,?_⟩
   obtain ⟨X1,hX1⟩ : ∃ X1,X1 = W6.drew.setRow (w.heap.size) #[.int .i64 0,.int .u8 0,.int .i64 h.num,.int .i64 K,.int .i64 0,.int .i64 0] := ⟨_,rfl⟩
   have hXh : X1.heap[w.heap.size]? = some (.cells #[.int .i64 0,.int .u8 0,.int .i64 h.num,.int .i64 K,.int .i64 0,.int .i64 0] 51 (0,0)) := hX1 ▸ setRow_heap _ _ _ _ _ _ HE6.out
   have hXk : Kept W6 X1 (fun q => q = w.heap.size) := hX1 ▸ HKd.out.trans ⟨rfl,rfl,rfl,by simp [World.setRow],fun k _ hk => setRow_other _ _ _ _ hk⟩
   refine tailC_one rfl ?_
   refine wpList_store_row rfl 51 _ _ rfl (w.heap.size) #[.int .i64 0,.int .u8 0,.int .i64 h.num,.int .i64 K,.int .i64 0,.int .i64 0] rfl rfl 51 _ HE6.out (by kernel_rfl) rfl (ev_one _ _ _) ?_
   rw [← hX1]
   have HXk := Lib.hid hXk
   have HXh := Lib.hid hXh
   clear hX1 hXh hXk
   refine QT.normal ⟨by first | exact fun _ => KX.in_ HXk.out | exact KX.in_ HXk.out,?_⟩
   refine tailC_one rfl ?_
   go_wp2_with fail
   refine QT.normal ⟨by simp,?_⟩
   refine tailC_nil ?_
   have r0 : X1.cell? ⟨w.heap.size,0,none⟩ = some (.int .i64 0) := blk_cell HXh.out 0
   have r1 : X1.cell? ⟨w.heap.size,1,none⟩ = some (.int .u8 0) := blk_cell HXh.out 1
   have r2 : X1.cell? ⟨w.heap.size,2,none⟩ = some (.int .i64 h.num) := blk_cell HXh.out 2
   have r3 : X1.cell? ⟨w.heap.size,3,none⟩ = some (.int .i64 K) := blk_cell HXh.out 3
   have r4 : X1.cell? ⟨w.heap.size,4,none⟩ = some (.int .i64 0) := blk_cell HXh.out 4
   have r5 : X1.cell? ⟨w.heap.size,5,none⟩ = some (.int .i64 0) := blk_cell HXh.out 5
   have hBX : Below Bo w X1 := HB6.out.trans (HXk.out.below HS6.out.lo (fun q e => by rw [e]; have := H.out.lo; omega))
   have hSX := HS6.out.junk (HXk.out.mono fun q e => by rw [e]; exact Hφ2.out)
   go_wp2_with fail
   refine bodyPost_ret (v := .tuple #[.int .u8 5,.agg #[.int .i64 0,.int .u8 0,.int .i64 h.num,.int .i64 K,.int .i64 0,.int .i64 0],.bool true]) (by simp [results,Tryz.results39,go_sem,r0,r1,r2,r3,r4,r5]) rfl ⟨φ0,_,by rw [HR.out]; rfl,Hφ1.out,by rw [HR.out]; exact hSX,hBX⟩
set_option maxHeartbeats 4000000 in
theorem laneC_any (φ : Nat→Nat) (Bo : Nat) (c : Cfg) (rs rs' : List RTx) (by_ : List Int) (M k : Nat) (a : SA) (x : SG) (s : TS) (w : World) (i : Nat) (h0 : StAt w φ Bo c rs rs' by_ a x s) (hi : SInv c rs rs' M k s) (hc : c.ok = true) (hrl : rs.length≤65536) (hk : k≤4398046511104)
    (hlog : ∀ (i : Nat) (r : RTx),rs[i]? = some r→txB r.number r.ws = true∧r.number = (i : Int)+1) (hcap : ∀ r ∈ rs,r.len≤r.cap) (hi1 : (i : Int) < c.lanes) (hi0 : 0≤c.lanes) {h : Ln} (hh : s.lanes[i]? = some h) (hn0 : ¬ h.num = 0) (hx : h.ws[h.sent]? = none) :
    Calls Tryz.prog 39 #[ptrV a.g,.int .i64 ((i : Int)+1)] w (TaskEnd w φ Bo c rs rs' by_ a (s.lane c rs i)) := by
 obtain ⟨L,hL1⟩ : ∃ L : Nat,c.lanes = L := ⟨c.lanes.toNat,by omega⟩
 rw [hL1] at hi1
 have HL := Lib.hid hL1
 have hll := hi.ll
 rw [hL1] at hll
 obtain ⟨l,hl⟩ : ∃ l,x.LA[i]? = some l := ⟨_,List.getElem?_eq_getElem (by have := (h0.lw (fun h => h)).1; omega)⟩
 have Hh := Lib.hid hh
 have Hl := Lib.hid hl
 obtain ⟨R,hR⟩ : ∃ R,R = s.lane c rs i := ⟨_,rfl⟩
 rw [← hR]
 unfold TS.lane at hR
 rw [hh] at hR
 simp only at hR
 unfold ptrV
 have hiL : (i : Int) < (L : Int) := by omega
 have hiL0 : (0 : Int)≤(i : Int) := by omega
 have hc16 : c.lanes≤16 := by simp [Cfg.ok,inB] at hc; omega
 rw [HL.out] at hc16
 have hiw : IntKind.i64.wrap ((i : Int)+1 - 1) = i := by rw [IntKind.wrap_i64]; omega
 have hiN : i < L := by omega
 have hbnd := hi.lw h (List.mem_of_getElem? hh)
 have Hbnd := Lib.hid hbnd
 clear hL1 hll hh hl hbnd
 rw [if_neg hn0] at hR
 rw [hx] at hR
 simp only at hR
 obtain ⟨φ0,hφ0⟩ : ∃ φ0 : Nat→Nat,φ0 = fun b => if b < w.heap.size then φ b else if b = w.heap.size then 50 else 11 := ⟨_,rfl⟩
 have hφ1 : ∀ b,b < w.heap.size→φ0 b = φ b := fun b hb => by rw [hφ0]; simp only [if_pos hb]
 have h : StAt w φ0 Bo c rs rs' by_ a x s := h0.relabel hφ1
 have Hφ1 := Lib.hid hφ1
 have hφ2 : φ0 w.heap.size = 50 := by rw [hφ0]; simp
 have hφ3 : ∀ b,w.heap.size < b→φ0 b = 11 := fun b hb => by rw [hφ0]; simp only [if_neg (show ¬ b < w.heap.size by omega),if_neg (show ¬ b = w.heap.size by omega)]
 have Hφ2 := Lib.hid hφ2
 have Hφ3 := Lib.hid hφ3
 clear hφ2 hφ3
 clear hφ0 hφ1 h0
 have H := Lib.hid h
 have HI := Lib.hid hi
 obtain ⟨W0,hW0⟩ : ∃ W0,W0 = w.alloc (.cells #[.int .i64 0,.int .u8 0,.int .i64 0,.int .i64 0,.int .i64 0,.int .i64 0] 51) := ⟨_,rfl⟩
 have hb0 : Below w.heap.size w W0 := hW0 ▸ (Below.refl _ _).alloc (Nat.le_refl _) _
 have hz0 : W0.heap.size = w.heap.size+1 := by rw [hW0]; simp
 have HE0 : Hid (W0.heap[w.heap.size]? = some evBox) := Lib.hid (hW0 ▸ blk_new _ _)
 have HS0 := Lib.hid (h.below hb0 (fun h => h) (fun h => h))
 have HB0 : Hid (Below Bo w W0) := Lib.hid (hb0.mono h.lo)
 have HZ0 := Lib.hid hz0
 clear h hi hb0 hz0
 have hnz : ¬ (h.num : Int) = 0 := by omega
 have HR0 := Lib.hid hR
 clear hR
 obtain ⟨hT0,hA0⟩ := (H.out.lw (fun h => h)).2 i h l Hh.out Hl.out
 have hwl := hT0.len
 have hsl : l.n≤h.sent := by rw [← hwl]; simpa using hx
 have hse : h.sent = l.n := by have := Hbnd.out.1; omega
 have hsi : ¬ (h.sent : Int) < (l.n : Int) := by omega
 have hwl2 : h.ws.length = l.n := hwl
 have m0 : ∀ o,(w.alloc o).cell? ⟨a.ln,i * 4,none⟩ = some (.int .i64 h.num) := fun o => ((Below.refl w.heap.size w).alloc (Nat.le_refl _) o).cell (p := ⟨a.ln,i * 4,none⟩) H.out.fln.2.2 |>.trans (H.out.laneC_ Hh.out Hl.out).1
 have d12 : ∀ o,(w.alloc o).cell? ⟨a.g,12,none⟩ = some (.slice (some ⟨a.ln,0,none⟩) L L) := fun o => (blk_cell ((Below.heap_alloc _ _ _ H.out.fst.2.2).trans (H.out.st (fun h => h))) 12).trans (by simp [storyC,HL.out])
 have q1 : W0.cell? ⟨a.ln,i * 4+1,none⟩ = some (.slice l.A l.n l.c) := (HS0.out.laneC_ Hh.out Hl.out).2.1
 have q2 : W0.cell? ⟨a.ln,i * 4+2,none⟩ = some (.int .i64 h.sent) := (HS0.out.laneC_ Hh.out Hl.out).2.2.1
 have n1 : ∀ q : Ext W0,q.X.cell? ⟨a.ln,i * 4+1,none⟩ = some (.slice l.A l.n l.c) := fun q => (q.h.cell (p := ⟨a.ln,i * 4+1,none⟩) HS0.out.fln.2.2).trans q1
 have n2 : ∀ q : Ext W0,q.X.cell? ⟨a.ln,i * 4+2,none⟩ = some (.int .i64 h.sent) := fun q => (q.h.cell (p := ⟨a.ln,i * 4+2,none⟩) HS0.out.fln.2.2).trans q2
 have HW0 := Lib.hid hW0
 clear hW0 hlog hcap hn0 hT0 hA0 hwl hsl hx hse q1 q2
 go_enter Tryz.func39,Tryz.ntmps39
 go_wp2_with fail
 rw [← HW0.out]
 clear m0 d12
 refine wp_region_ext (by kernel_rfl) (by kernel_rfl) ?_
 repeat (go_big_quiet_step ((fail)))
 refine Ext.end_ fun X hX => ?_
 have HSX := Lib.hid (HS0.out.below hX (fun h => h) (fun h => h))
 have HEX : Hid (X.heap[w.heap.size]? = some evBox) := Lib.hid ((hX.block _ (blk_lt HE0.out)).trans HE0.out)
 have HBX : Hid (Below Bo w X) := Lib.hid (HB0.out.trans (hX.mono HS0.out.lo))
 clear n1 n2
 have q1 : X.cell? ⟨a.ln,i * 4+1,none⟩ = some (.slice l.A l.n l.c) := (HSX.out.laneC_ Hh.out Hl.out).2.1
 have q3 : X.cell? ⟨a.ln,i * 4+3,none⟩ = some (.int .i64 h.ack) := (HSX.out.laneC_ Hh.out Hl.out).2.2.2.1
 have n1 : ∀ q : Ext X,q.X.cell? ⟨a.ln,i * 4+1,none⟩ = some (.slice l.A l.n l.c) := fun q => (q.h.cell (p := ⟨a.ln,i * 4+1,none⟩) HSX.out.fln.2.2).trans q1
 have n3 : ∀ q : Ext X,q.X.cell? ⟨a.ln,i * 4+3,none⟩ = some (.int .i64 h.ack) := fun q => (q.h.cell (p := ⟨a.ln,i * 4+3,none⟩) HSX.out.fln.2.2).trans q3
 clear q1 q3 hX
 go_wp2_with fail
 refine wp_region_ext (by kernel_rfl) (by kernel_rfl) ?_
 repeat (go_big_quiet_step ((fail)))
 refine Ext.end_ fun Y hY => ?_
 have HSY := Lib.hid (HSX.out.below hY (fun h => h) (fun h => h))
 have HEY : Hid (Y.heap[w.heap.size]? = some evBox) := Lib.hid ((hY.block _ (blk_lt HEX.out)).trans HEX.out)
 have HBY : Hid (Below Bo w Y) := Lib.hid (HBX.out.trans (hY.mono HSX.out.lo))
 clear n1 n3
 by_cases hack : h.ack < h.ws.length
 · have HR : Hid (R = ((0,ev0,false),s)) := Lib.hid (by rw [HR0.out,if_pos hack])
   have hai : (h.ack : Int) < (l.n : Int) := by omega
   clear hack hwl2 hY
   as_aux_lemma =>
   skip
   have hE5 := HEY.out
   have g0 := blk_cell hE5 0
   have g1 := blk_cell hE5 1
   have g2 := blk_cell hE5 2
   have g3 := blk_cell hE5 3
   have g4 := blk_cell hE5 4
   have g5 := blk_cell hE5 5
   have k0 := blk_frozen hE5 0
   have k1 := blk_frozen hE5 1
   have k2 := blk_frozen hE5 2
   have k3 := blk_frozen hE5 3
   have k4 := blk_frozen hE5 4
   have k5 := blk_frozen hE5 5
   clear hE5
   go_wp2_with fail
   obtain ⟨X0,hX0⟩ : ∃ X0,X0 = ((((((Y.setCell ⟨w.heap.size,0,none⟩ (.int .i64 0)).setCell ⟨w.heap.size,1,none⟩ (.int .u8 0)).setCell ⟨w.heap.size,2,none⟩ (.int .i64 0)).setCell ⟨w.heap.size,3,none⟩ (.int .i64 0)).setCell ⟨w.heap.size,4,none⟩ (.int .i64 0)).setCell ⟨w.heap.size,5,none⟩ (.int .i64 0)) := ⟨_,rfl⟩
   rw [← hX0]
   obtain ⟨hXk,r0,r1,r2,r3,r4,r5⟩ := ev_box HEY.out rfl _ _ _ _ _ _ hX0
   have hBX : Below Bo w X0 := HBY.out.trans (hXk.below HSY.out.lo (fun q e => by rw [e]; exact H.out.lo))
   have hSX := HSY.out.junk (hXk.mono fun q e => by rw [e]; exact Hφ2.out)
   clear hX0
   refine bodyPost_ret (v := .tuple #[.int .u8 0,.agg #[.int .i64 0,.int .u8 0,.int .i64 0,.int .i64 0,.int .i64 0,.int .i64 0],.bool false]) (by simp [results,Tryz.results39,go_sem,r0,r1,r2,r3,r4,r5]) rfl ⟨φ0,_,by rw [HR.out]; rfl,Hφ1.out,by rw [HR.out]; exact hSX,hBX⟩
 · have HR : Hid (R = ((6,⟨0,0,h.num,0,0,0⟩,true),{ s with gone := s.gone ++ [h.num],lanes := s.lanes.set i { h with num := 0 } })) := Lib.hid (by rw [HR0.out,if_neg hack])
   have hai : ¬ (h.ack : Int) < (l.n : Int) := by omega
   clear hack hwl2 hY
   as_aux_lemma =>
   skip
   have q0 : Y.cell? ⟨a.ln,i * 4,none⟩ = some (.int .i64 h.num) := (HSY.out.laneC_ Hh.out Hl.out).1
   go_wp2_with fail
   obtain ⟨i0,hi0',hz0,hz1,hz2⟩ := info_parts info_int
   obtain ⟨Y1,hY1⟩ : ∃ Y1,Y1 = Y.alloc (.cells #[.int .i64 0,.int .u8 0,.int .i64 h.num,.int .i64 0,.int .i64 0,.int .i64 0] 51) := ⟨_,rfl⟩
   have hb0 : Below Y.heap.size Y Y1 := hY1 ▸ (Below.refl _ _).alloc (Nat.le_refl _) _
   have HSY1 := Lib.hid (HSY.out.below hb0 (fun h => h) (fun h => h))
   have HEY1 : Hid (Y1.heap[w.heap.size]? = some evBox) := Lib.hid ((hb0.block _ (blk_lt HEY.out)).trans HEY.out)
   have HBY1 : Hid (Below Bo w Y1) := Lib.hid (HBY.out.trans (hb0.mono HSY.out.lo))
   have HZY1 : Hid (Y1.heap[Y.heap.size]? = some (.cells #[.int .i64 0,.int .u8 0,.int .i64 h.num,.int .i64 0,.int .i64 0,.int .i64 0] 51 (0,0))) := Lib.hid (hY1 ▸ blk_new _ _)
   have HYlt : Hid (w.heap.size < Y.heap.size) := Lib.hid (blk_lt HEY.out)
   rw [← hY1]
   clear hY1 hb0 q0
   have hng : ∀ b,x.gone.A = some b→φ0 b.block = 11 := fun b e => (HSY1.out.gone (fun h => h)).2 b e
   obtain ⟨I,hI⟩ : ∃ I : Nat→Prop,I = fun b => ∃ a,x.gone.A = some a∧b = a.block := ⟨_,rfl⟩
   have HH0 : Hid (∀ X,Kept Y1 X I→StH X φ0 Bo (fun j => j = 11) c rs rs' by_ a x s) := Lib.hid (fun X k => HSY1.out.hole11 (hI ▸ k))
   have u11 : ∀ n : KX Y1 I,n.X.cell? ⟨a.g,11,none⟩ = some (.slice x.gone.A x.gone.n x.gone.c) := fun n => blk_cell ((HH0.out _ n.h).st (by omega)) 11
   have u0 : ∀ n : KX Y1 I,n.X.cell? ⟨a.ln,i * 4,none⟩ = some (.int .i64 h.num) := fun n => (blk_cell ((HH0.out _ n.h).ln (by omega)) _).trans (by simpa using lanes_get Hh.out Hl.out (j := 0) rfl)
   have hgn : x.gone.n≤65537 := by
    have h1 := HI.out.gone_len
    have h2 := (HSY1.out.gone (fun h => h)).1.len
    have h3 := HI.out.ml
    omega
   have HAl := Lib.hid hng
   have HI2 := Lib.hid hI
   clear hng hI HH0
   refine wp_region_reads_tail 9 I (by kernel_rfl) (by kernel_rfl) (fun _ _ d _ _ h => by cases d <;> exact h) ?_
   simp only [List.take_succ_cons,List.take_zero,List.drop_succ_cons,List.drop_zero]
   repeat (go_big_quiet_step (fail))
   refine wpQuiet_nil ?_
   clear u11 u0
   refine tailC_one rfl ?_
   go_wp2_with fail
   obtain ⟨V1,hV1⟩ : ∃ V1,V1 = (Y1.alloc (.cells #[.int .i64 h.num] 3)).drew := ⟨_,rfl⟩
   have hb1 : Below Y1.heap.size Y1 V1 := hV1 ▸ bel_drew (bel_alloc (Below.refl _ _) _)
   have HSV1 := Lib.hid (HSY1.out.below hb1 (fun h => h) (fun h => h))
   have HEV1 : Hid (V1.heap[w.heap.size]? = some evBox) := Lib.hid ((hb1.block _ (blk_lt HEY1.out)).trans HEY1.out)
   have HBV1 : Hid (Below Bo w V1) := Lib.hid (HBY1.out.trans (hb1.mono HSY1.out.lo))
   have HZV1 : Hid (V1.heap[Y.heap.size]? = some (.cells #[.int .i64 0,.int .u8 0,.int .i64 h.num,.int .i64 0,.int .i64 0,.int .i64 0] 51 (0,0))) := Lib.hid ((hb1.block _ (blk_lt HZY1.out)).trans HZY1.out)
   have hcells : ∀ (j : Nat) (u : Value),(natC h.num)[j]? = some u→V1.cell? ((⟨Y1.heap.size,0,none⟩ : Addr).add j) = some u := fun j u hu => by
    rw [hV1]
    exact cells_new Y1 [.int .i64 h.num] 3 j u hu
   have HT1 : Hid (TkAt natC 1 3 V1 Bo x.gone.A x.gone.n x.gone.c s.gone) := Lib.hid (HSV1.out.gone (fun h => h)).1
   have HLo1 : Hid (Bo≤V1.heap.size) := Lib.hid HSV1.out.lo
   have HK1 : Hid (Kept Y1 V1 I) := Lib.hid (Kept.of_below hb1)
   have Hcells := Lib.hid hcells
   rw [← hV1]
   clear hV1 hb1 hcells
   refine QT.normal ⟨by first | exact fun _ => KX.in_ HK1.out | exact KX.in_ HK1.out,?_⟩
   refine tailC_one rfl ?_
   go_wp2_with (at_builtin; refine wpList_push rfl _ _ 25 rfl 3 i0 _ 1 8 Tryz.underlying25 hi0' hz0 hz1 hz2 rfl (by decide) (fun _ => rfl) one_natC Bo x.gone.A x.gone.n x.gone.c s.gone rfl HT1.out HLo1.out h.num ⟨Y1.heap.size,0,none⟩ 1 rfl Hcells.out (by simp only [maxLen]; omega) (by omega) ?_)
   intro A3 c3 w4 h1 h2 h3
   have HK4 : Hid (Kept Y1 w4 I) := Lib.hid (HK1.out.trans (HI2.out ▸ h2))
   have hA3 : At φ0 11 A3 := fun q e => by
    rcases h3 q e with ⟨c',e1,e2⟩ | h4
    · rw [e2]; exact HAl.out c' e1
    · exact Hφ3.out _ (by have := blk_lt HEV1.out; omega)
   have HH := Lib.hid (HSV1.out.hole11 h2)
   have HEW : Hid (w4.heap[w.heap.size]? = some evBox) := Lib.hid (h2.blk HEV1.out (blk_lt HEV1.out) (fun ⟨ad',e,e2⟩ => by
    have := HAl.out ad' e
    rw [← e2,Hφ2.out] at this; omega))
   have HBW : Hid (Below Bo w w4) := Lib.hid (HBV1.out.trans (h2.below HSV1.out.lo (fun q ⟨ad',e,e2⟩ => by rw [e2]; exact (HT1.out.lt e).1)))
   have HZW : Hid (w4.heap[Y.heap.size]? = some (.cells #[.int .i64 0,.int .u8 0,.int .i64 h.num,.int .i64 0,.int .i64 0,.int .i64 0] 51 (0,0))) := Lib.hid (h2.blk HZV1.out (blk_lt HZV1.out) (fun ⟨ad',e,e2⟩ => by
    have := ((HSY.out.gone (fun h => h)).1.lt e).2
    omega))
   obtain ⟨n3,hn3⟩ : ∃ n3,n3 = x.gone.n+1 := ⟨_,rfl⟩
   rw [← hn3] at h1 ⊢
   obtain ⟨W5,hW5⟩ : ∃ W5,W5 = w4.setCell ⟨a.g,11,none⟩ (.slice A3 n3 c3) := ⟨_,rfl⟩
   have HS5 := Lib.hid (hW5 ▸ HH.out.setGone (fun i h => h) h1 hA3)
   have hk5 : Kept w4 W5 (fun q => q = a.g) := hW5 ▸ (Kept.refl w4 (fun q => q = a.g)).setCell (p := ⟨a.g,11,none⟩) (Or.inl rfl) _
   have HB5 : Hid (Below Bo w W5) := Lib.hid (HBW.out.trans (hk5.below HH.out.lo (fun q e => by rw [e]; exact H.out.fst.2.1)))
   have HE5 : Hid (W5.heap[w.heap.size]? = some evBox) := Lib.hid (hk5.blk HEW.out (blk_lt HEW.out) (by have := H.out.fst.2.2; omega))
   have HZ5 : Hid (W5.heap[Y.heap.size]? = some (.cells #[.int .i64 0,.int .u8 0,.int .i64 h.num,.int .i64 0,.int .i64 0,.int .i64 0] 51 (0,0))) := Lib.hid (hk5.blk HZW.out (blk_lt HZW.out) (by have := HSY.out.fst.2.2; omega))
   have dq : w4.cell? ⟨a.g,11,none⟩ = some (.slice x.gone.A x.gone.n x.gone.c) := blk_cell (HH.out.st (by omega)) 11
   have fq : w4.frozen? ⟨a.g,11,none⟩ = false := blk_frozen (HH.out.st (by omega)) 11
   clear h1 h2 h3 hk5 hn3
   refine QT.normal ⟨by first | exact fun _ => KX.in_ HK4.out | exact KX.in_ HK4.out,?_⟩
   refine tailC_one rfl ?_
   go_wp2_with fail
   refine QT.normal ⟨by first | exact fun _ => KX.in_ HK4.out | exact KX.in_ HK4.out,?_⟩
   refine tailC_one rfl ?_
   go_wp2_with fail
   refine QT.normal ⟨by first | exact fun _ => KX.in_ HK4.out | exact KX.in_ HK4.out,?_⟩
   refine tailC_one rfl ?_
   go_wp2_with fail
   refine QT.normal ⟨by simp,?_⟩
   refine tailC_nil ?_
   rw [← hW5]
   clear hW5 dq fq
   obtain ⟨v0,v1,v2,v3,vf⟩ := HS5.out.laneC_ Hh.out Hl.out
   clear v1 v2 v3
   obtain ⟨W6,hW6⟩ : ∃ W6,W6 = W5.setCell ⟨a.ln,i * 4,none⟩ (.int .i64 0) := ⟨_,rfl⟩
   obtain ⟨t1,hkW6⟩ := HS5.out.putNum Hh.out Hl.out 0
   simp only [Int.natCast_zero,Int.ofNat_zero,Int.cast_ofNat_Int] at t1 hkW6
   rw [← hW6] at t1 hkW6
   have HS6 := Lib.hid t1
   have HB6 : Hid (Below Bo w W6) := Lib.hid (HB5.out.trans (hkW6.below HS5.out.lo (fun q e => by rw [e]; exact H.out.fln.2.1)))
   have HE6 : Hid (W6.heap[w.heap.size]? = some evBox) := Lib.hid (hkW6.blk HE5.out (blk_lt HE5.out) (by have := H.out.fln.2.2; omega))
   have HZ6 : Hid (W6.heap[Y.heap.size]? = some (.cells #[.int .i64 0,.int .u8 0,.int .i64 h.num,.int .i64 0,.int .i64 0,.int .i64 0] 51 (0,0))) := Lib.hid (hkW6.blk HZ5.out (blk_lt HZ5.out) (by have := HSY.out.fln.2.2; omega))
   clear t1 hkW6
   go_wp2_with fail
   rw [← hW6]
   clear hW6 v0 vf
   have HZE := HZ6
   have HZlt : Hid (Y.heap.size≠w.heap.size) := Lib.hid (by have := HYlt.out; omega)
   have z0 : ∀ n : KX W6 (fun q => q = w.heap.size),n.X.cell? ⟨Y.heap.size,0,none⟩ = some (.int .i64 0) := fun n => blk_cell (n.h.blk HZE.out (blk_lt HZE.out) HZlt.out) 0
   have z1 : ∀ n : KX W6 (fun q => q = w.heap.size),n.X.cell? ⟨Y.heap.size,1,none⟩ = some (.int .u8 0) := fun n => blk_cell (n.h.blk HZE.out (blk_lt HZE.out) HZlt.out) 1
   have z2 : ∀ n : KX W6 (fun q => q = w.heap.size),n.X.cell? ⟨Y.heap.size,2,none⟩ = some (.int .i64 h.num) := fun n => blk_cell (n.h.blk HZE.out (blk_lt HZE.out) HZlt.out) 2
   have z3 : ∀ n : KX W6 (fun q => q = w.heap.size),n.X.cell? ⟨Y.heap.size,3,none⟩ = some (.int .i64 0) := fun n => blk_cell (n.h.blk HZE.out (blk_lt HZE.out) HZlt.out) 3
   have z4 : ∀ n : KX W6 (fun q => q = w.heap.size),n.X.cell? ⟨Y.heap.size,4,none⟩ = some (.int .i64 0) := fun n => blk_cell (n.h.blk HZE.out (blk_lt HZE.out) HZlt.out) 4
   have z5 : ∀ n : KX W6 (fun q => q = w.heap.size),n.X.cell? ⟨Y.heap.size,5,none⟩ = some (.int .i64 0) := fun n => blk_cell (n.h.blk HZE.out (blk_lt HZE.out) HZlt.out) 5
   refine wp_region_reads_tail 1 (fun q => q = w.heap.size) (by kernel_rfl) (by kernel_rfl) (fun _ _ d _ _ h => by cases d <;> exact h) ?_
   simp only [List.take_succ_cons,List.take_zero,List.drop_succ_cons,List.drop_zero]
   repeat (go_big_quiet_step (fail))
   refine wpQuiet_nil ?_
   clear z0 z1 z2 z3 z4 z5
   have HKd : Hid (Kept W6 W6.drew (fun q => q = w.heap.size)) := Lib.hid (Kept.of_below (bel_drew (Below.refl _ _)))
   refine tailC_one rfl ?_
   go_wp2_with fail
   refine QT.normal ⟨by first | exact fun _ => KX.in_ HKd.out | exact KX.in_ HKd.out,?_⟩
   obtain ⟨X1,hX1⟩ : ∃ X1,X1 = W6.drew.setRow (w.heap.size) #[.int .i64 0,.int .u8 0,.int .i64 h.num,.int .i64 0,.int .i64 0,.int .i64 0] := ⟨_,rfl⟩
   have hXh : X1.heap[w.heap.size]? = some (.cells #[.int .i64 0,.int .u8 0,.int .i64 h.num,.int .i64 0,.int .i64 0,.int .i64 0] 51 (0,0)) := hX1 ▸ setRow_heap _ _ _ _ _ _ HE6.out
   have hXk : Kept W6 X1 (fun q => q = w.heap.size) := hX1 ▸ HKd.out.trans ⟨rfl,rfl,rfl,by simp [World.setRow],fun k _ hk => setRow_other _ _ _ _ hk⟩
   refine tailC_one rfl ?_
   refine wpList_store_row rfl 51 _ _ rfl (w.heap.size) #[.int .i64 0,.int .u8 0,.int .i64 h.num,.int .i64 0,.int .i64 0,.int .i64 0] rfl rfl 51 _ HE6.out (by kernel_rfl) rfl (ev_one _ _ _) ?_
   rw [← hX1]
   have HXk := Lib.hid hXk
   have HXh := Lib.hid hXh
   clear hX1 hXh hXk
   refine QT.normal ⟨by first | exact fun _ => KX.in_ HXk.out | exact KX.in_ HXk.out,?_⟩
   refine tailC_one rfl ?_
   go_wp2_with fail
   refine QT.normal ⟨by simp,?_⟩
   refine tailC_nil ?_
   have r0 : X1.cell? ⟨w.heap.size,0,none⟩ = some (.int .i64 0) := blk_cell HXh.out 0
   have r1 : X1.cell? ⟨w.heap.size,1,none⟩ = some (.int .u8 0) := blk_cell HXh.out 1
   have r2 : X1.cell? ⟨w.heap.size,2,none⟩ = some (.int .i64 h.num) := blk_cell HXh.out 2
   have r3 : X1.cell? ⟨w.heap.size,3,none⟩ = some (.int .i64 0) := blk_cell HXh.out 3
   have r4 : X1.cell? ⟨w.heap.size,4,none⟩ = some (.int .i64 0) := blk_cell HXh.out 4
   have r5 : X1.cell? ⟨w.heap.size,5,none⟩ = some (.int .i64 0) := blk_cell HXh.out 5
   have hBX : Below Bo w X1 := HB6.out.trans (HXk.out.below HS6.out.lo (fun q e => by rw [e]; have := H.out.lo; omega))
   have hSX := HS6.out.junk (HXk.out.mono fun q e => by rw [e]; exact Hφ2.out)
   go_wp2_with fail
   refine bodyPost_ret (v := .tuple #[.int .u8 6,.agg #[.int .i64 0,.int .u8 0,.int .i64 h.num,.int .i64 0,.int .i64 0,.int .i64 0],.bool true]) (by simp [results,Tryz.results39,go_sem,r0,r1,r2,r3,r4,r5]) rfl ⟨φ0,_,by rw [HR.out]; rfl,Hφ1.out,by rw [HR.out]; exact hSX,hBX⟩
theorem lane_any (φ : Nat→Nat) (Bo : Nat) (c : Cfg) (rs rs' : List RTx) (by_ : List Int) (M k : Nat) (a : SA) (x : SG) (s : TS) (w : World) (i : Nat) (h0 : StAt w φ Bo c rs rs' by_ a x s) (hi : SInv c rs rs' M k s) (hc : c.ok = true) (hrl : rs.length≤65536) (hk : k≤4398046511104)
    (hlog : ∀ (i : Nat) (r : RTx),rs[i]? = some r→txB r.number r.ws = true∧r.number = (i : Int)+1) (hcap : ∀ r ∈ rs,r.len≤r.cap) (hi1 : (i : Int) < c.lanes) (hi0 : 0≤c.lanes) :
    Calls Tryz.prog 39 #[ptrV a.g,.int .i64 ((i : Int)+1)] w (TaskEnd w φ Bo c rs rs' by_ a (s.lane c rs i)) := by
 obtain ⟨h,hh⟩ : ∃ h,s.lanes[i]? = some h := ⟨_,List.getElem?_eq_getElem (by have := hi.ll; omega)⟩
 by_cases hn0 : h.num = 0
 · exact laneA_any φ Bo c rs rs' by_ M k a x s w i h0 hi hc hrl hk hlog hcap hi1 hi0 hh hn0
 · cases hx : h.ws[h.sent]? with
   | some xw => exact laneB_any φ Bo c rs rs' by_ M k a x s w i h0 hi hc hrl hk hlog hcap hi1 hi0 hh hn0 hx
   | none => exact laneC_any φ Bo c rs rs' by_ M k a x s w i h0 hi hc hrl hk hlog hcap hi1 hi0 hh hn0 hx
end Go.Proofs.YtcjmppjppmiggaaGreat

/- Lemmas and contracts of functions that statements of this seat stand on, many texts in one; each holds under the premises typed in its head. -/
import Derived.Test.YtcjmppjppmiggaaGreatMC
import Derived.WalkMore
import Derived.Deep.LoopGhost
/- trace.Check. -/
namespace Go.Proofs.YtcjmppjppmiggaaGreat
open Go.RowKit
set_option linter.unusedVariables false
set_option linter.unusedSimpArgs false

open Go.Maps
set_option maxRecDepth 100000
def checkN (c : Cfg) (rs : List RTx) (M : Nat) (bs : List Nat) (l : List Ev) : Nat := tale c rs (maskL M (ints bs) rs) (ints bs) l (TS.start c M bs)
def checkE (n len : Nat) : Int := if n < len then 14 else 0
set_option maxHeartbeats 4000000 in
theorem checkD_any (c : Cfg) (rs : List RTx) (A : Option Addr) (len cap M : Nat) (A2 : Option Addr) (n2 c2 : Nat) (bs : List Nat) (A3 : Option Addr) (n3 c3 : Nat) (A4 : Option Addr) (n4 c4 : Nat) (l : List Ev) (w : World)
    (hl : TxsAt w w.heap.size A len rs) (hb : IsAt w w.heap.size A2 n2 (ints bs)) (he : EsAt w w.heap.size A4 n4 l) (hn : A2 = none→c2 = 0) (hcap : ∀ r ∈ rs,r.len≤r.cap) (hn4 : n4≤4398046511104) (hok : c.ok = true) (hlog : logErr rs 1 = 0) (hpl : placeB len M (ints bs) = true) (hG : (⟨M,bs⟩ : Gt).Ok) (hn2 : n2≤65536) (hlen : len≤65536) (hML : M≤rs.length) (hby : ∀ b ∈ ints bs,(M : Int)+2≤b) :
    Calls Tryz.prog 7 #[.agg #[.int .i64 c.lanes,.int .i64 c.shards,.int .i64 c.window,.int .i64 c.queue],.slice A len cap,.agg #[.int .i64 M,.slice A2 n2 c2,.slice A3 n3 c3],.slice A4 n4 c4] w fun e w' => e = .returned (.tuple #[.int .i64 (checkN c rs M bs l),.int .i64 (checkE (checkN c rs M bs l) n4)])∧Below w.heap.size w w' := by
 have hcl : 1≤c.lanes∧c.lanes≤16∧1≤c.shards∧c.shards≤16 := by simp [Cfg.ok,inB] at hok; omega
 have Hcf := Lib.hid (cfg_any c)
 rw [hok] at Hcf
 unfold Cfg.v at Hcf
 obtain ⟨W0,hW0⟩ : ∃ W0,W0 = (w.alloc (.cells #[.int .i64 c.lanes,.int .i64 c.shards,.int .i64 c.window,.int .i64 c.queue] 23)).alloc (.cells #[.int .i64 M,.slice A2 n2 c2,.slice A3 n3 c3] 28) := ⟨_,rfl⟩
 have hb0 : Below w.heap.size w W0 := hW0 ▸ bel_alloc (bel_alloc (Below.refl _ _) _) _
 have HC0 : Hid (W0.heap[w.heap.size]? = some (.cells #[.int .i64 c.lanes,.int .i64 c.shards,.int .i64 c.window,.int .i64 c.queue] 23 (0,0))) := Lib.hid (by rw [hW0,Below.heap_alloc _ _ _ (by simp)]; exact blk_new _ _)
 have HV0 : Hid (W0.heap[w.heap.size+1]? = some (.cells #[.int .i64 M,.slice A2 n2 c2,.slice A3 n3 c3] 28 (0,0))) := Lib.hid (by rw [hW0]; have := blk_new (w.alloc (.cells #[.int .i64 c.lanes,.int .i64 c.shards,.int .i64 c.window,.int .i64 c.queue] 23)) (.cells #[.int .i64 M,.slice A2 n2 c2,.slice A3 n3 c3] 28); simpa using this)
 have Hl := Lib.hid hl
 have Hb := Lib.hid hb
 have He := Lib.hid he
 have HB0 := Lib.hid hb0
 have HW0 := Lib.hid hW0
 have Hlog := Lib.hid hlog
 have Hpl := Lib.hid hpl
 have HG := Lib.hid hG
 have Hok := Lib.hid hok
 have HML := Lib.hid hML
 have Hby := Lib.hid hby
 have Hcap := Lib.hid hcap
 have Hn := Lib.hid hn
 clear hl hb he hb0 hlog hpl hW0 hok hG hML hby hcap hn
 go_enter Tryz.func7,Tryz.ntmps7
 go_wp2_with fail
 go_step3
 go_wp2_with fail
 rw [← HW0.out]
 refine (Hcf.out _).mono ?_
 rintro e w1 ⟨rfl,hb1⟩
 have HC1 := Lib.hid ((hb1.block _ (blk_lt HC0.out)).trans HC0.out)
 have HV1 := Lib.hid ((hb1.block _ (blk_lt HV0.out)).trans HV0.out)
 have HB1 := Lib.hid (HB0.out.trans (hb1.mono HB0.out.size))
 have Hlg := Lib.hid (logcheck_any A len cap rs w1 ((Hl.out.below HB1.out).more HB1.out.size) (by omega))
 rw [Hlog.out] at Hlg
 have v0 : w1.cell? ⟨w.heap.size+1,0,none⟩ = some (.int .i64 M) := blk_cell HV1.out 0
 clear hb1
 go_wp2_with fail
 refine Hlg.out.mono ?_
 rintro e w2 ⟨rfl,hb2⟩
 have HC2 := Lib.hid ((hb2.block _ (blk_lt HC1.out)).trans HC1.out)
 have HV2 := Lib.hid ((hb2.block _ (blk_lt HV1.out)).trans HV1.out)
 have HB2 := Lib.hid (HB1.out.trans (hb2.mono HB1.out.size))
 have Hpc := Lib.hid (tplace_any A len cap M A2 n2 c2 (ints bs) w2 ((Hb.out.below HB2.out).more HB2.out.size) (by omega) (by omega))
 rw [Hpl.out] at Hpc
 have v0 : w2.cell? ⟨w.heap.size+1,0,none⟩ = some (.int .i64 M) := blk_cell HV2.out 0
 have v1 : w2.cell? ⟨w.heap.size+1,1,none⟩ = some (.slice A2 n2 c2) := blk_cell HV2.out 1
 clear hb2
 go_wp2_with fail
 refine Hpc.out.mono ?_
 rintro e w3 ⟨rfl,rfl⟩
 have Hgn := Lib.hid (gnew_any M A2 n2 c2 bs w2 (row_nat ((Hb.out.below HB2.out).more HB2.out.size)) hn2 HG.out)
 go_wp2_with fail
 refine Hgn.out.mono ?_
 rintro e w4 ⟨rfl,hgt4,hb4⟩
 obtain ⟨gt,hgt⟩ : ∃ gt,gt = w2.heap.size := ⟨_,rfl⟩
 rw [← hgt] at hgt4
 rw [← hgt]
 have hgtB : w.heap.size+2≤gt := by rw [hgt]; have := blk_lt HV2.out; omega
 have HC4 := Lib.hid ((hb4.block _ (blk_lt HC2.out)).trans HC2.out)
 have HV4 := Lib.hid ((hb4.block _ (blk_lt HV2.out)).trans HV2.out)
 have HB4 := Lib.hid (HB2.out.trans (hb4.mono HB2.out.size))
 have HG4 := Lib.hid hgt4
 have hgl := hgt4.lt
 clear hb4 hgt4 v0 v1 hgt
 go_wp2_with fail
 have k0 : ∀ n : Ext w4,n.X.cell? ⟨w.heap.size,0,none⟩ = some (.int .i64 c.lanes) := fun n => (n.h.cell (p := ⟨w.heap.size,0,none⟩) (blk_lt HC4.out)).trans (blk_cell HC4.out 0)
 have k1 : ∀ n : Ext w4,n.X.cell? ⟨w.heap.size,1,none⟩ = some (.int .i64 c.shards) := fun n => (n.h.cell (p := ⟨w.heap.size,1,none⟩) (blk_lt HC4.out)).trans (blk_cell HC4.out 1)
 have k2 : ∀ n : Ext w4,n.X.cell? ⟨w.heap.size,2,none⟩ = some (.int .i64 c.window) := fun n => (n.h.cell (p := ⟨w.heap.size,2,none⟩) (blk_lt HC4.out)).trans (blk_cell HC4.out 2)
 have k3 : ∀ n : Ext w4,n.X.cell? ⟨w.heap.size,3,none⟩ = some (.int .i64 c.queue) := fun n => (n.h.cell (p := ⟨w.heap.size,3,none⟩) (blk_lt HC4.out)).trans (blk_cell HC4.out 3)
 have v0 : ∀ n : Ext w4,n.X.cell? ⟨w.heap.size+1,0,none⟩ = some (.int .i64 M) := fun n => (n.h.cell (p := ⟨w.heap.size+1,0,none⟩) (blk_lt HV4.out)).trans (blk_cell HV4.out 0)
 have v1 : ∀ n : Ext w4,n.X.cell? ⟨w.heap.size+1,1,none⟩ = some (.slice A2 n2 c2) := fun n => (n.h.cell (p := ⟨w.heap.size+1,1,none⟩) (blk_lt HV4.out)).trans (blk_cell HV4.out 1)
 have Hmk := Lib.hid (mk_grow w4.heap.size n2 c.lanes.toNat c.shards.toNat (ints bs))
 refine wp_region_makers2 [0,1,2,3,4,5,8,9,10,12,13] (mkL w4.heap.size n2 c.lanes.toNat c.shards.toNat (ints bs)) 16 (by kernel_rfl) (by kernel_rfl) (by kernel_rfl) (by kernel_rfl) (fun _ _ d _ _ h => by cases d <;> exact h) Hmk.out ?_
 change wpQuiet _ _ _ _ (_ :: _ :: _ :: _ :: _ :: _ :: _ :: _ :: _ :: _ :: _ :: []) _
 repeat (go_big_quiet_step (fail))
 refine wpQuiet_nil ⟨?_,?_⟩
 · as_aux_lemma =>
   intro m hm o ho X hX
   have hLn : (Value.int .i64 c.lanes) = .int .i64 ((c.lanes.toNat : Nat) : Int) := by congr 1; omega
   have hSn : (Value.int .i64 c.shards) = .int .i64 ((c.shards.toNat : Nat) : Int) := by congr 1; omega
   simp only [mkL,List.mem_cons,List.not_mem_nil,or_false] at hm
   rcases hm with rfl | rfl | rfl | rfl | rfl
   · simp only [List.getElem?_cons_succ,List.getElem?_cons_zero,Option.some.injEq] at ho
     subst ho
     exact Makes.call (vs := #[.slice A2 n2 c2]) rfl (by simp only [List.map_toArray,List.map_cons,List.map_nil]; rfl) (by kernel_rfl) (mk_bey ((Hb.out.below HB4.out).more HB4.out.size) Hn.out hn2 hX)
   · simp only [List.getElem?_cons_succ,List.getElem?_cons_zero,Option.some.injEq] at ho
     subst ho
     exact Makes.call (vs := #[]) rfl (by simp only [List.map_toArray,List.map_nil]) (by kernel_rfl) (mk_tab X)
   · simp only [List.getElem?_cons_succ,List.getElem?_cons_zero,Option.some.injEq] at ho
     subst ho
     obtain ⟨v,X',g1,g2,g3⟩ := mk_row (X := X) (j := 11) (d := 56) (n := c.lanes.toNat) Tryz.underlying61 info_heldT (by omega) (by omega)
     exact Makes.slice rfl hLn hLn g1 g2 g3
   · simp only [List.getElem?_cons_succ,List.getElem?_cons_zero,Option.some.injEq] at ho
     subst ho
     obtain ⟨v,X',g1,g2,g3⟩ := mk_row (X := X) (j := 14) (d := 59) (n := c.shards.toNat) Tryz.underlying62 info_askS (by omega) (by omega)
     exact Makes.slice rfl hSn hSn g1 g2 g3
   · simp only [List.getElem?_cons_succ,List.getElem?_cons_zero,Option.some.injEq] at ho
     subst ho
     exact Makes.map rfl (mk_map X)
 · intro v X hX hI
   obtain ⟨A5,cp5,th,ln,qb,cb,e6,e7,e11,e14,e15,t6,t7,t11,t14,t15,hlo,hd1,hd2,hd3⟩ := mk_all hI
   clear hI
   have HX := Lib.hid hX
   have T6 := Lib.hid t6
   have T7 := Lib.hid t7
   have T11 := Lib.hid t11
   have T14 := Lib.hid t14
   have T15 := Lib.hid t15
   have Hlo := Lib.hid hlo
   have Hd1 := Lib.hid hd1
   have Hd2 := Lib.hid hd2
   have Hd3 := Lib.hid hd3
   clear t6 t7 t11 t14 t15 hlo hd1 hd2 hd3 k0 k1 k2 k3 v0 v1 hX
   simp only [mkL,puts,e6,e7,e11,e14,e15]
   clear e6 e7 e11 e14 e15 v
   simp only [List.drop_succ_cons,List.drop_zero,Act.put,List.setIfInBounds_toArray,List.set_cons_succ,List.set_cons_zero]
   unfold ptrV
   refine tailC_one rfl ?_
   have Hbu := Lib.hid (story_built c.lanes c.shards c.window c.queue M A len cap A5 n2 cp5 (th+3) gt ln qb cb c.lanes.toNat c.shards.toNat)
   unfold ptrV at Hbu
   go_wp2_with (with_reducible refine wpList_build rfl _ _ rfl ?_ ?_)
   · rw [Hbu.out]; rfl
   rw [Hbu.out,Option.getD_some]
   clear Hbu
   refine QT.normal ⟨⟨⟨X,HX.out⟩,rfl⟩,?_⟩
   refine tailC_one rfl ?_
   go_wp2_with fail
   obtain ⟨X1,hX1⟩ : ∃ X1,X1 = X.alloc (.cells #[.int .i64 c.lanes,.int .i64 c.shards,.int .i64 c.window,.int .i64 c.queue,.slice A len cap,.int .i64 M,.bool false,.slice A5 n2 cp5,.pointer (some ⟨th+3,0,none⟩),.pointer (some ⟨gt,0,none⟩),.slice none 0 0,.slice none 0 0,.slice (some ⟨ln,0,none⟩) c.lanes.toNat c.lanes.toNat,.slice (some ⟨qb,0,none⟩) c.shards.toNat c.shards.toNat,.map (some cb)] 65) := ⟨_,rfl⟩
   have hb1 : Below X.heap.size X X1 := hX1 ▸ bel_alloc (Below.refl _ _) _
   have hg1 : X1.heap[X.heap.size]? = some (.cells #[.int .i64 c.lanes,.int .i64 c.shards,.int .i64 c.window,.int .i64 c.queue,.slice A len cap,.int .i64 M,.bool false,.slice A5 n2 cp5,.pointer (some ⟨th+3,0,none⟩),.pointer (some ⟨gt,0,none⟩),.slice none 0 0,.slice none 0 0,.slice (some ⟨ln,0,none⟩) c.lanes.toNat c.lanes.toNat,.slice (some ⟨qb,0,none⟩) c.shards.toNat c.shards.toNat,.map (some cb)] 65 (0,0)) := hX1 ▸ blk_new _ _
   have hX4 : Below w4.heap.size w4 X1 := HX.out.trans (hb1.mono HX.out.size)
   have hbx : Below w.heap.size w X1 := HB4.out.trans (hX4.mono HB4.out.size)
   have t7 := T7.out.kept (Kept.of_below (X := fun _ => False) hb1) (fun _ _ h => h)
   have hlt7 : ∀ b,th≤b→b≤th+3→b < X.heap.size := fun b _ h2 => by have := blk_lt T7.out.cell; simp only at this; omega
   obtain ⟨a,ha⟩ : ∃ a : SA,a = ⟨X.heap.size,gt,⟨th+3,th,th+1,th+2⟩,ln,qb,cb,A,len,cap,⟨A5,n2,cp5⟩,0,fun _ => none⟩ := ⟨_,rfl⟩
   have hst : ∃ φ x,StAt X1 φ w.heap.size c rs (maskL M (ints bs) rs) (ints bs) a x (TS.start c M bs) := by
    have := Hlo.out
    have l11 := blk_lt T11.out
    have l14 := blk_lt T14.out
    have l15 := T15.out.lt
    have d1 := Hd1.out
    have s4 := HB4.out.size
    have sx := HX.out.size
    subst ha
    refine story_begins rfl hbx.size (Hl.out.below hbx) hg1 ((T6.out.below hb1).more s4) t7 ((hb1.block _ l11).trans T11.out) ((hb1.block _ l14).trans T14.out) (T15.out.of_block (hb1.block _ l15)) (HG4.out.of_block (hX4.block _ hgl)) ⟨by simp only; omega,by simp only; omega,by simp only; omega,by simp only; omega,by simp only; omega,fun b hb => ?_⟩ ⟨by simp only; omega,by simp only; omega,d1.1,by simp only; omega,d1.2.1,d1.2.2,by simp only; omega,by simp only; omega,by simp only; omega,by simp only; omega⟩ (fun b hb => ?_) (fun ad e => ?_)
    · have hb2 : b = th+3∨b = th∨b = th+1∨b = th+2 := hb
      omega
    · have hb2 : b = th+3∨b = th∨b = th+1∨b = th+2 := hb
      have d2 := Hd2.out b (by omega) (by omega)
      have := hlt7 b (by omega) (by omega)
      exact ⟨by simp only; omega,d2.1,d2.2.1,d2.2.2,by simp only; omega⟩
    · have d3 := Hd3.out ad e
      have := (T6.out.lt e).2
      exact ⟨by simp only; omega,d3.2.1,d3.2.2.1,d3.2.2.2.1,by simp only; omega,fun hb => by
       have hb2 : ad.block = th+3∨ad.block = th∨ad.block = th+1∨ad.block = th+2 := hb
       exact d3.2.2.2.2 (by omega)⟩
   rw [← hX1]
   have hag : a.g = X.heap.size := by rw [ha]
   have hagt : a.gt = gt := by rw [ha]
   have haB : a.B.n = n2 := by rw [ha]
   have HaN : Hid (a.N = 0) := Lib.hid (by rw [ha])
   rw [← hag]
   have Hst := Lib.hid hst
   have Hbx := Lib.hid hbx
   have HX4 := Lib.hid hX4
   have Hagt := Lib.hid hagt
   have HaB := Lib.hid haB
   clear hst hbx hg1 hb1 t7 hlt7 ha hX1 T6 T7 T11 T14 T15 Hlo Hd1 Hd2 Hd3 hag hagt haB
   refine QT.normal ⟨fun _ => ⟨⟨X1,HX4.out⟩,rfl⟩,?_⟩
   refine tailC_one rfl ?_
   go_wp2_with fail
   refine QT.normal ⟨by simp,?_⟩
   refine tailC_nil ?_
   go_wp2_with fail
   clear Hmk hX4 HX HX4 Hcf HW0 HB0 HC0 HV0 HC1 HV1 HB1 Hlg HC2 HV2 HB2 Hpc Hgn HC4 HV4 hgtB hgl
   go_step3
   go_wp2_with fail
   go_loopg [13,65] n4 (fun gk at_ i wr => ∃ (k : Nat) (s : TS),k+gk = n4∧at_ = .int .i64 k∧i = .int .i64 k∧Hid (∃ φ x,StAt wr φ w.heap.size c rs (maskL M (ints bs) rs) (ints bs) a x s)∧Hid (SInv c rs (maskL M (ints bs) rs) M k s)∧Hid (checkN c rs M bs l = k+tale c rs (maskL M (ints bs) rs) (ints bs) (l.drop k) s)∧Hid (Below w.heap.size w wr))
   case atStart => exact ⟨0,TS.start c M bs,by omega,rfl,rfl,Hst,Lib.hid (SInv.start Hok.out HML.out HG.out),Lib.hid (by simp [checkN]),Hbx⟩
   case round =>
    obtain ⟨k,s,hk,rfl,rfl,HS,HI,HN,HB⟩ := hrel
    by_cases hlt : k < n4
    · obtain ⟨b,off,ev,rfl,hbl,hx,x0,x1,x2,x3,x4,x5⟩ := EsAt.cell6 (He.out.below HB.out) hlt
      have Hx := Lib.hid hx
      clear hx
      obtain ⟨φ,x,hs⟩ := HS.out
      obtain ⟨W1,hW1⟩ : ∃ W1,W1 = wr.alloc (.cells #[.int .i64 ev.task,.int .u8 ev.kind,.int .i64 ev.number,.int .i64 ev.shard,.int .i64 ev.count,.int .i64 ev.mark] 51) := ⟨_,rfl⟩
      have hb1 : Below wr.heap.size wr W1 := hW1 ▸ bel_alloc (Below.refl _ _) _
      have HE1 : Hid (W1.heap[wr.heap.size]? = some (.cells #[.int .i64 ev.task,.int .u8 ev.kind,.int .i64 ev.number,.int .i64 ev.shard,.int .i64 ev.count,.int .i64 ev.mark] 51 (0,0))) := Lib.hid (hW1 ▸ blk_new _ _)
      have hs1 := hs.boxed hb1
      have hlr : rs.length≤65536 := by rw [Hl.out.1.len]; exact hlen
      have Hst1 := Lib.hid (step_any _ w.heap.size c rs _ (ints bs) M k _ x s W1 ev hs1 HI.out Hok.out hlr (by omega) (fun i r hr => by have := logErr_all Hlog.out i r hr; exact ⟨this.1,by rw [this.2]; omega⟩) Hcap.out rfl (by show a.B.n≤65536; rw [HaB.out]; exact hn2))
      obtain ⟨R,hR⟩ : ∃ R,R = s.step c rs (maskL M (ints bs) rs) (ints bs) ev := ⟨_,rfl⟩
      have HR := Lib.hid hR
      rw [← hR] at Hst1
      clear hR hs1
      obtain ⟨⟨rk,⟨r0,r1,r2,r3,r4,r5⟩,rb⟩,s2⟩ := R
      have HW1 := Lib.hid hW1
      have HB1 : Hid (Below w.heap.size w W1) := Lib.hid (HB.out.trans (hb1.mono HB.out.size))
      have Hlt1 : Hid (wr.heap.size < W1.heap.size) := Lib.hid (blk_lt HE1.out)
      have HSW := Lib.hid hs
      clear hb1 hs hW1
      go_wp2_with fail
      rw [← HW1.out]
      refine Hst1.out.mono ?_
      rintro e1 w2 hte
      have HT := Lib.hid hte
      obtain ⟨φ',x',rfl,-,hst2,hB2⟩ := hte
      have HS2 := Lib.hid hst2
      have HB2 := Lib.hid (HB1.out.trans hB2)
      have HE2 : Hid (w2.heap[wr.heap.size]? = some (.cells #[.int .i64 ev.task,.int .u8 ev.kind,.int .i64 ev.number,.int .i64 ev.shard,.int .i64 ev.count,.int .i64 ev.mark] 51 (0,0))) := Lib.hid ((HT.out.box (Nat.le_refl _) Hlt1.out).trans HE1.out)
      clear hst2 hB2 Hst1
      simp only [Ev.v]
      go_wp2_with fail
      obtain ⟨W3,hW3⟩ : ∃ W3,W3 = w2.alloc (.cells #[.int .i64 r0,.int .u8 r1,.int .i64 r2,.int .i64 r3,.int .i64 r4,.int .i64 r5] 51) := ⟨_,rfl⟩
      have hb3 : Below w2.heap.size w2 W3 := hW3 ▸ bel_alloc (Below.refl _ _) _
      obtain ⟨bw,hbw⟩ : ∃ bw,bw = w2.heap.size := ⟨_,rfl⟩
      obtain ⟨be,hbe⟩ : ∃ be,be = wr.heap.size := ⟨_,rfl⟩
      have HN3 : Hid (W3.heap[bw]? = some (.cells #[.int .i64 r0,.int .u8 r1,.int .i64 r2,.int .i64 r3,.int .i64 r4,.int .i64 r5] 51 (0,0))) := Lib.hid (hbw ▸ hW3 ▸ blk_new _ _)
      have HE3 : Hid (W3.heap[be]? = some (.cells #[.int .i64 ev.task,.int .u8 ev.kind,.int .i64 ev.number,.int .i64 ev.shard,.int .i64 ev.count,.int .i64 ev.mark] 51 (0,0))) := Lib.hid (hbe ▸ (hb3.block _ (blk_lt HE2.out)).trans HE2.out)
      have hne : be≠bw := by rw [hbe,hbw]; have := blk_lt HE2.out; omega
      have HS3 := Lib.hid (HS2.out.below hb3 (fun h => h) (fun h => h))
      have HB3 : Hid (Below w.heap.size w W3) := Lib.hid (HB2.out.trans (hb3.mono HB2.out.size))
      have HGt3 : Hid (GtAt W3.drew gt s2.G) := Lib.hid (by have h : GtAt W3 a.gt s2.G := HS3.out.gt (fun h => h); rw [Hagt.out] at h; exact h.of_block rfl)
      have HK : Hid (∀ X,Kept W3 X (fun q => q = bw)→X.cell? ⟨be,0,none⟩ = some (.int .i64 ev.task)) := Lib.hid (fun X k => (k.cell (blk_lt HE3.out) hne).trans (blk_cell HE3.out 0))
      have Kd : Hid (Kept W3 W3.drew (fun q => q = bw)) := Lib.hid (Kept.of_below (bel_drew (Below.refl _ _)))
      have K1 : Hid (∀ u,Kept W3 (W3.drew.setCell ⟨bw,0,none⟩ u) (fun q => q = bw)) := Lib.hid fun u => Kd.out.setCell (p := ⟨bw,0,none⟩) (Or.inl rfl) u
      have K2 : Hid (∀ u v,Kept W3 ((W3.drew.setCell ⟨bw,0,none⟩ u).setCell ⟨bw,1,none⟩ v) (fun q => q = bw)) := Lib.hid fun u v => (K1.out u).setCell (p := ⟨bw,1,none⟩) (Or.inl rfl) v
      have K3 : Hid (∀ u v z,Kept W3 (((W3.drew.setCell ⟨bw,0,none⟩ u).setCell ⟨bw,1,none⟩ v).setCell ⟨bw,5,none⟩ z) (fun q => q = bw)) := Lib.hid fun u v z => (K2.out u v).setCell (p := ⟨bw,5,none⟩) (Or.inl rfl) z
      have Hlt3 : Hid (w2.heap.size≤bw) := Lib.hid (by omega)
      have Hne := Lib.hid hne
      have HB2n : Hid (w.heap.size≤bw) := Lib.hid (by rw [hbw]; exact HB2.out.size)
      have HS4 : Hid (∀ W4,Kept W3 W4 (fun q => q = bw)→∃ φ x,StAt W4 φ w.heap.size c rs (maskL M (ints bs) rs) (ints bs) a x s2) := Lib.hid (fun W4 k4 => ⟨φ',x',StH.reframe (N := a.N) (F := a.F) (HS2.out.below (hb3.trans (k4.below hb3.size (fun q e => by rw [e,hbw]; exact Nat.le_refl _))) (fun h => h) (fun h => h)) ⟨by rw [HaN.out]; omega,fun b hb => by rw [HaN.out] at hb; omega⟩⟩)
      rw [← hW3,← hbw,← hbe]
      clear hW3 hb3 hbw hbe hne HT HE1 HE2 HS2 HB2 HW1 Hlt1
      have g0 := blk_cell HN3.out 0
      have g1 := blk_cell HN3.out 1
      have g5 := blk_cell HN3.out 5
      have f0 := blk_frozen HN3.out 0
      have f1 := blk_frozen HN3.out 1
      have f5 := blk_frozen HN3.out 5
      go_region_held3 (fun X => X.cell? ⟨be,0,none⟩ = some (.int .i64 ev.task))
       (first | (refine HK.out _ ?_; first | with_reducible exact Kd.out | with_reducible exact K1.out _ | with_reducible exact K2.out _ _ | with_reducible exact K3.out _ _ _ | exact K1.out _ | exact K2.out _ _ | exact K3.out _ _ _))
       (first | (go_at_call 23; refine (gmark_any gt s2.G _ HGt3.out).mono ?_; rintro e w' ⟨rfl,rfl⟩))
      obtain ⟨W4,hW4⟩ : ∃ W4,W4 = (((W3.setCell ⟨bw,0,none⟩ (.int .i64 ev.task)).setCell ⟨bw,1,none⟩ (.int .u8 rk)).setCell ⟨bw,5,none⟩ (.int .i64 s2.G.mark)).drew := ⟨_,rfl⟩
      have HN4 : Hid (W4.heap[bw]? = some (.cells #[.int .i64 ev.task,.int .u8 rk,.int .i64 r2,.int .i64 r3,.int .i64 r4,.int .i64 s2.G.mark] 51 (0,0))) := Lib.hid (hW4 ▸ blk_set (blk_set (blk_set HN3.out 0 _) 1 _) 5 _)
      have hk4 : Kept W3 W4 (fun q => q = bw) := hW4 ▸ K3.out _ _ _
      have HE4 := Lib.hid (hk4.blk HE3.out (blk_lt HE3.out) (by have := HK.out; exact Hne.out))
      have Hk4 := Lib.hid hk4
      rw [← hW4]
      clear hW4 hk4 g0 g1 g5 f0 f1 f5 K1 K2 K3 Kd HK HGt3 HN3
      have p0 := blk_cell HE4.out 0
      have p1 := blk_cell HE4.out 1
      have p2 := blk_cell HE4.out 2
      have p3 := blk_cell HE4.out 3
      have p4 := blk_cell HE4.out 4
      have p5 := blk_cell HE4.out 5
      have d0 := blk_cell HN4.out 0
      have d1 := blk_cell HN4.out 1
      have d2 := blk_cell HN4.out 2
      have d3 := blk_cell HN4.out 3
      have d4 := blk_cell HN4.out 4
      have d5 := blk_cell HN4.out 5
      have HB4 : Hid (Below w.heap.size w W4) := Lib.hid (HB3.out.trans (Hk4.out.below HB3.out.size (fun q e => by subst e; have := HB2n.out; omega)))
      have Hdr := Lib.hid (drop_get Hx.out)
      cases rb with
      | false =>
        go_wp2_with fail
        rw [Exit.noGoto_ret]
        go_ret2
        have h0 := HN.out
        rw [Hdr.out,tale_no HR.out (by simp)] at h0
        refine ⟨?_,HB4.out⟩
        rw [h0,checkE,if_pos (by omega)]
        rfl
      | true =>
        go_wp2_with fail
        all_goals try (
         rw [Exit.noGoto_ret]
         go_ret2
         have h0 := HN.out
         rw [Hdr.out,tale_no HR.out (fun ⟨_,e⟩ => by
          have e1 : ev.kind = rk := congrArg Ev.kind e
          have e2 : ev.number = r2 := congrArg Ev.number e
          have e3 : ev.shard = r3 := congrArg Ev.shard e
          have e4 : ev.count = r4 := congrArg Ev.count e
          have e5 : ev.mark = s2.G.mark := congrArg Ev.mark e
          contradiction)] at h0
         refine ⟨?_,HB4.out⟩
         rw [h0,checkE,if_pos (by omega)]
         rfl)
        go_roundg (n4 - (k+1))
        case measure => omega
        case rel =>
         have h1 : ev = ⟨ev.task,rk,r2,r3,r4,s2.G.mark⟩ := by
          have q1 := ‹ev.kind = rk›
          have q2 := ‹ev.number = r2›
          have q3 := ‹ev.shard = r3›
          have q4 := ‹ev.count = r4›
          have q5 := ‹ev.mark = (s2.G.mark : Int)›
          cases ev
          simp_all only
         have h0 := HN.out
         rw [Hdr.out,tale_yes HR.out rfl h1] at h0
         refine ⟨k+1,s2,by omega,by go_num,by go_num,Lib.hid ?_,Lib.hid ?_,Lib.hid (by omega),HB4⟩
         · exact HS4.out _ Hk4.out
         · have := HI.out.step (by_ := ints bs) (e := ev) Hby.out (log_ws Hlog.out)
           rw [← HR.out] at this
           exact this
    · have hkn : k = n4 := by omega
      subst hkn
      go_wp2_with fail
      rw [Exit.noGoto_ret]
      go_ret2
      have h0 := HN.out
      rw [List.drop_of_length_le (by have := He.out.len; omega)] at h0
      simp only [tale] at h0
      refine ⟨?_,HB.out⟩
      rw [h0,checkE,if_neg (by omega)]
      rfl
end Go.Proofs.YtcjmppjppmiggaaGreat

/- trace.Check, whole. -/

namespace Go.Proofs.YtcjmppjppmiggaaGreat
open Go.RowKit
set_option linter.unusedVariables false
set_option linter.unusedSimpArgs false

open Go.Maps
set_option maxRecDepth 100000
def checkR (c : Cfg) (rs : List RTx) (mark : Int) (by_ : List Int) (l : List Ev) : Int × Int :=
 if c.ok = false then (0,7) else if logErr rs 1 = 0∧placeB rs.length mark by_ = true then ((checkN c rs mark.toNat (by_.map Int.toNat) l : Nat),checkE (checkN c rs mark.toNat (by_.map Int.toNat) l) l.length) else (0,1)
set_option maxHeartbeats 1000000 in
theorem checkA_any (c : Cfg) (rs : List RTx) (A : Option Addr) (len cap : Nat) (mark : Int) (A2 : Option Addr) (n2 c2 : Nat) (by_ : List Int) (A3 : Option Addr) (n3 c3 : Nat) (A4 : Option Addr) (n4 c4 : Nat) (l : List Ev) (w : World) (hok : c.ok = false) :
    Calls Tryz.prog 7 #[.agg #[.int .i64 c.lanes,.int .i64 c.shards,.int .i64 c.window,.int .i64 c.queue],.slice A len cap,.agg #[.int .i64 mark,.slice A2 n2 c2,.slice A3 n3 c3],.slice A4 n4 c4] w fun e w' => e = .returned (.tuple #[.int .i64 0,.int .i64 7])∧Below w.heap.size w w' := by
 have Hcf := Lib.hid (cfg_any c)
 rw [hok] at Hcf
 unfold Cfg.v at Hcf
 obtain ⟨W0,hW0⟩ : ∃ W0,W0 = (w.alloc (.cells #[.int .i64 c.lanes,.int .i64 c.shards,.int .i64 c.window,.int .i64 c.queue] 23)).alloc (.cells #[.int .i64 mark,.slice A2 n2 c2,.slice A3 n3 c3] 28) := ⟨_,rfl⟩
 have hb0 : Below w.heap.size w W0 := hW0 ▸ bel_alloc (bel_alloc (Below.refl _ _) _) _
 have HC0 : Hid (W0.heap[w.heap.size]? = some (.cells #[.int .i64 c.lanes,.int .i64 c.shards,.int .i64 c.window,.int .i64 c.queue] 23 (0,0))) := Lib.hid (by rw [hW0,Below.heap_alloc _ _ _ (by simp)]; exact blk_new _ _)
 have HV0 : Hid (W0.heap[w.heap.size+1]? = some (.cells #[.int .i64 mark,.slice A2 n2 c2,.slice A3 n3 c3] 28 (0,0))) := Lib.hid (by rw [hW0]; have := blk_new (w.alloc (.cells #[.int .i64 c.lanes,.int .i64 c.shards,.int .i64 c.window,.int .i64 c.queue] 23)) (.cells #[.int .i64 mark,.slice A2 n2 c2,.slice A3 n3 c3] 28); simpa using this)
 have HB0 := Lib.hid hb0
 have HW0 := Lib.hid hW0
 clear hb0 hW0 hok
 go_enter Tryz.func7,Tryz.ntmps7
 go_wp2_with fail
 go_step3
 go_wp2_with fail
 rw [← HW0.out]
 refine (Hcf.out _).mono ?_
 rintro e w1 ⟨rfl,hb1⟩
 have HB1 := Lib.hid (HB0.out.trans (hb1.mono HB0.out.size))
 clear hb1
 go_wp2_with fail
 rw [Exit.noGoto_ret]
 go_ret2
 exact ⟨rfl,HB1.out⟩
set_option maxHeartbeats 1000000 in
theorem checkB_any (c : Cfg) (rs : List RTx) (A : Option Addr) (len cap : Nat) (mark : Int) (A2 : Option Addr) (n2 c2 : Nat) (by_ : List Int) (A3 : Option Addr) (n3 c3 : Nat) (A4 : Option Addr) (n4 c4 : Nat) (l : List Ev) (w : World) (hl : TxsAt w w.heap.size A len rs) (hlen : len≤4398046511104) (hok : c.ok = true) (hlog : ¬ logErr rs 1 = 0) :
    Calls Tryz.prog 7 #[.agg #[.int .i64 c.lanes,.int .i64 c.shards,.int .i64 c.window,.int .i64 c.queue],.slice A len cap,.agg #[.int .i64 mark,.slice A2 n2 c2,.slice A3 n3 c3],.slice A4 n4 c4] w fun e w' => e = .returned (.tuple #[.int .i64 0,.int .i64 1])∧Below w.heap.size w w' := by
 have Hcf := Lib.hid (cfg_any c)
 rw [hok] at Hcf
 unfold Cfg.v at Hcf
 obtain ⟨W0,hW0⟩ : ∃ W0,W0 = (w.alloc (.cells #[.int .i64 c.lanes,.int .i64 c.shards,.int .i64 c.window,.int .i64 c.queue] 23)).alloc (.cells #[.int .i64 mark,.slice A2 n2 c2,.slice A3 n3 c3] 28) := ⟨_,rfl⟩
 have hb0 : Below w.heap.size w W0 := hW0 ▸ bel_alloc (bel_alloc (Below.refl _ _) _) _
 have HC0 : Hid (W0.heap[w.heap.size]? = some (.cells #[.int .i64 c.lanes,.int .i64 c.shards,.int .i64 c.window,.int .i64 c.queue] 23 (0,0))) := Lib.hid (by rw [hW0,Below.heap_alloc _ _ _ (by simp)]; exact blk_new _ _)
 have HV0 : Hid (W0.heap[w.heap.size+1]? = some (.cells #[.int .i64 mark,.slice A2 n2 c2,.slice A3 n3 c3] 28 (0,0))) := Lib.hid (by rw [hW0]; have := blk_new (w.alloc (.cells #[.int .i64 c.lanes,.int .i64 c.shards,.int .i64 c.window,.int .i64 c.queue] 23)) (.cells #[.int .i64 mark,.slice A2 n2 c2,.slice A3 n3 c3] 28); simpa using this)
 have HB0 := Lib.hid hb0
 have HW0 := Lib.hid hW0
 have Hl := Lib.hid hl
 obtain ⟨q,hq⟩ : ∃ q,q = logErr rs 1 := ⟨_,rfl⟩
 rw [← hq] at hlog
 have Hq := Lib.hid hq
 have hq0 : (q != 0) = true := by simpa using hlog
 clear hb0 hW0 hok hl hq
 go_enter Tryz.func7,Tryz.ntmps7
 go_wp2_with fail
 go_step3
 go_wp2_with fail
 rw [← HW0.out]
 refine (Hcf.out _).mono ?_
 rintro e w1 ⟨rfl,hb1⟩
 have HV1 := Lib.hid ((hb1.block _ (blk_lt HV0.out)).trans HV0.out)
 have HB1 := Lib.hid (HB0.out.trans (hb1.mono HB0.out.size))
 have Hlg := Lib.hid (logcheck_any A len cap rs w1 ((Hl.out.below HB1.out).more HB1.out.size) hlen)
 rw [← Hq.out] at Hlg
 clear hb1
 go_wp2_with fail
 refine Hlg.out.mono ?_
 rintro e w2 ⟨rfl,hb2⟩
 have HB2 := Lib.hid (HB1.out.trans (hb2.mono HB1.out.size))
 clear hb2
 go_wp2_with fail
 rw [Exit.noGoto_ret]
 go_ret2
 exact ⟨rfl,HB2.out⟩
set_option maxHeartbeats 1000000 in
theorem checkC_any (c : Cfg) (rs : List RTx) (A : Option Addr) (len cap : Nat) (mark : Int) (A2 : Option Addr) (n2 c2 : Nat) (by_ : List Int) (A3 : Option Addr) (n3 c3 : Nat) (A4 : Option Addr) (n4 c4 : Nat) (l : List Ev) (w : World) (hl : TxsAt w w.heap.size A len rs) (hb : IsAt w w.heap.size A2 n2 by_) (hlen : len≤4398046511104) (hn2 : n2≤4398046511104000) (hok : c.ok = true) (hlog : logErr rs 1 = 0) (hpl : placeB len mark by_ = false) :
    Calls Tryz.prog 7 #[.agg #[.int .i64 c.lanes,.int .i64 c.shards,.int .i64 c.window,.int .i64 c.queue],.slice A len cap,.agg #[.int .i64 mark,.slice A2 n2 c2,.slice A3 n3 c3],.slice A4 n4 c4] w fun e w' => e = .returned (.tuple #[.int .i64 0,.int .i64 1])∧Below w.heap.size w w' := by
 have Hcf := Lib.hid (cfg_any c)
 rw [hok] at Hcf
 unfold Cfg.v at Hcf
 obtain ⟨W0,hW0⟩ : ∃ W0,W0 = (w.alloc (.cells #[.int .i64 c.lanes,.int .i64 c.shards,.int .i64 c.window,.int .i64 c.queue] 23)).alloc (.cells #[.int .i64 mark,.slice A2 n2 c2,.slice A3 n3 c3] 28) := ⟨_,rfl⟩
 have hb0 : Below w.heap.size w W0 := hW0 ▸ bel_alloc (bel_alloc (Below.refl _ _) _) _
 have HC0 : Hid (W0.heap[w.heap.size]? = some (.cells #[.int .i64 c.lanes,.int .i64 c.shards,.int .i64 c.window,.int .i64 c.queue] 23 (0,0))) := Lib.hid (by rw [hW0,Below.heap_alloc _ _ _ (by simp)]; exact blk_new _ _)
 have HV0 : Hid (W0.heap[w.heap.size+1]? = some (.cells #[.int .i64 mark,.slice A2 n2 c2,.slice A3 n3 c3] 28 (0,0))) := Lib.hid (by rw [hW0]; have := blk_new (w.alloc (.cells #[.int .i64 c.lanes,.int .i64 c.shards,.int .i64 c.window,.int .i64 c.queue] 23)) (.cells #[.int .i64 mark,.slice A2 n2 c2,.slice A3 n3 c3] 28); simpa using this)
 have HB0 := Lib.hid hb0
 have HW0 := Lib.hid hW0
 have Hl := Lib.hid hl
 have Hb := Lib.hid hb
 have Hlog := Lib.hid hlog
 have Hpl := Lib.hid hpl
 clear hb0 hW0 hok hl hlog hpl hb
 go_enter Tryz.func7,Tryz.ntmps7
 go_wp2_with fail
 go_step3
 go_wp2_with fail
 rw [← HW0.out]
 refine (Hcf.out _).mono ?_
 rintro e w1 ⟨rfl,hb1⟩
 have HV1 := Lib.hid ((hb1.block _ (blk_lt HV0.out)).trans HV0.out)
 have HB1 := Lib.hid (HB0.out.trans (hb1.mono HB0.out.size))
 have Hlg := Lib.hid (logcheck_any A len cap rs w1 ((Hl.out.below HB1.out).more HB1.out.size) hlen)
 rw [Hlog.out] at Hlg
 have v0 : w1.cell? ⟨w.heap.size+1,0,none⟩ = some (.int .i64 mark) := blk_cell HV1.out 0
 clear hb1
 go_wp2_with fail
 refine Hlg.out.mono ?_
 rintro e w2 ⟨rfl,hb2⟩
 have HV2 := Lib.hid ((hb2.block _ (blk_lt HV1.out)).trans HV1.out)
 have HB2 := Lib.hid (HB1.out.trans (hb2.mono HB1.out.size))
 have Hpc := Lib.hid (tplace_any A len cap mark A2 n2 c2 by_ w2 ((Hb.out.below HB2.out).more HB2.out.size) hlen hn2)
 rw [Hpl.out] at Hpc
 have v0 : w2.cell? ⟨w.heap.size+1,0,none⟩ = some (.int .i64 mark) := blk_cell HV2.out 0
 have v1 : w2.cell? ⟨w.heap.size+1,1,none⟩ = some (.slice A2 n2 c2) := blk_cell HV2.out 1
 clear hb2
 go_wp2_with fail
 refine Hpc.out.mono ?_
 rintro e w3 ⟨rfl,rfl⟩
 go_wp2_with fail
 rw [Exit.noGoto_ret]
 go_ret2
 exact ⟨rfl,HB2.out⟩
theorem ints_toNat (bs : List Nat) : (ints bs).map Int.toNat = bs := by
 induction bs with
 | nil => rfl
 | cons b r ih => simp only [ints,List.map_cons,Int.toNat_natCast] at ih ⊢; rw [ih]
theorem tcheck_any (c : Cfg) (rs : List RTx) (A : Option Addr) (len cap : Nat) (mark : Int) (A2 : Option Addr) (n2 c2 : Nat) (by_ : List Int) (A3 : Option Addr) (n3 c3 : Nat) (A4 : Option Addr) (n4 c4 : Nat) (l : List Ev) (w : World) (hl : TxsAt w w.heap.size A len rs) (hb : IsAt w w.heap.size A2 n2 by_) (he : EsAt w w.heap.size A4 n4 l) (hn : A2 = none→c2 = 0) (hcap : ∀ r ∈ rs,r.len≤r.cap) (hn4 : n4≤4398046511104) (hlen : len≤4398046511104) (hn2 : n2≤4398046511104000) :
    Calls Tryz.prog 7 #[.agg #[.int .i64 c.lanes,.int .i64 c.shards,.int .i64 c.window,.int .i64 c.queue],.slice A len cap,.agg #[.int .i64 mark,.slice A2 n2 c2,.slice A3 n3 c3],.slice A4 n4 c4] w fun e w' => e = .returned (.tuple #[.int .i64 (checkR c rs mark by_ l).1,.int .i64 (checkR c rs mark by_ l).2])∧Below w.heap.size w w' := by
 by_cases hok : c.ok = false
 · rw [checkR,if_pos hok]
   exact checkA_any c rs A len cap mark A2 n2 c2 by_ A3 n3 c3 A4 n4 c4 l w hok
 · have hok' : c.ok = true := by simpa using hok
   rw [checkR,if_neg hok]
   by_cases hlog : logErr rs 1 = 0
   · by_cases hpl : placeB rs.length mark by_ = true
     · rw [if_pos ⟨hlog,hpl⟩]
       have h6 := logErr_le hlog
       obtain ⟨M,bs,rfl,rfl,h1,h2,h3⟩ := place_nat hpl h6
       have hlr := hl.1.len
       have hbl : n2≤65536 := by
        have : M+bs.length≤max M 65536 := rise_len (a := M) (N := 65536) h2.rise (fun b hb2 => by have := h2.lo b hb2; simp only at this; omega)
        have h9 := hb.len
        simp only [ints,List.length_map] at h9
        have := h2.mark
        simp only at this
        omega
       rw [ints_toNat,Int.toNat_natCast]
       have hll := he.len
       rw [hll]
       exact checkD_any c rs A len cap M A2 n2 c2 bs A3 n3 c3 A4 n4 c4 l w hl hb he hn hcap hn4 hok' hlog (by rw [← hlr]; exact hpl) h2 hbl (by omega) (by omega) h3
     · rw [if_neg (fun h => hpl h.2)]
       exact checkC_any c rs A len cap mark A2 n2 c2 by_ A3 n3 c3 A4 n4 c4 l w hl hb hlen hn2 hok' hlog (by rw [← hl.1.len]; simpa using hpl)
   · rw [if_neg (fun h => hlog h.1)]
     exact checkB_any c rs A len cap mark A2 n2 c2 by_ A3 n3 c3 A4 n4 c4 l w hl hlen hok' hlog
end Go.Proofs.YtcjmppjppmiggaaGreat


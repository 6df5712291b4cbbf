/- towpathref21.Check. (Printed by gen_rua.py.) -/
import Derived.Test.YtcjmppjppmiggaaGreatMD
import Derived.Test.YtcjmppjppmiggaaGreatRu8
import Derived.Test.YtcjmppjppmiggaaGreatRu9
import Derived.Test.YtcjmppjppmiggaaGreatRd
namespace Go.Proofs.YtcjmppjppmiggaaGreat
open Go.RowKit
set_option linter.unusedVariables false
set_option linter.unusedSimpArgs false

open Go.Maps
set_option maxRecDepth 100000
set_option maxHeartbeats 1000000 in
theorem rcheckA_any (c : Cfg) (rs : List RTx) (A : Option Addr) (len cap : Nat) (mark : Int) (A2 : Option Addr) (n2 c2 : Nat) (by_ : List Int) (A3 : Option Addr) (n3 c3 : Nat) (A4 : Option Addr) (n4 c4 : Nat) (l : List Ev) (w : World) (hok : c.ok = false) :
    Calls Tryz.prog 8 #[.agg #[.int .i64 c.lanes,.int .i64 c.shards,.int .i64 c.window,.int .i64 c.queue],.slice A len cap,.agg #[.int .i64 mark,.slice A2 n2 c2,.slice A3 n3 c3],.slice A4 n4 c4] w fun e w' => e = .returned (.tuple #[.int .i64 0,.int .i64 7])∧Below w.heap.size w w' := by
 have Hcf := Lib.hid (refcfg_any c)
 rw [hok] at Hcf
 unfold Cfg.v at Hcf
 obtain ⟨W0,hW0⟩ : ∃ W0,W0 = (w.alloc (.cells #[.int .i64 c.lanes,.int .i64 c.shards,.int .i64 c.window,.int .i64 c.queue] 23)).alloc (.cells #[.int .i64 mark,.slice A2 n2 c2,.slice A3 n3 c3] 28) := ⟨_,rfl⟩
 have hb0 : Below w.heap.size w W0 := hW0 ▸ bel_alloc (bel_alloc (Below.refl _ _) _) _
 have HC0 : Hid (W0.heap[w.heap.size]? = some (.cells #[.int .i64 c.lanes,.int .i64 c.shards,.int .i64 c.window,.int .i64 c.queue] 23 (0,0))) := Lib.hid (by rw [hW0,Below.heap_alloc _ _ _ (by simp)]; exact blk_new _ _)
 have HV0 : Hid (W0.heap[w.heap.size+1]? = some (.cells #[.int .i64 mark,.slice A2 n2 c2,.slice A3 n3 c3] 28 (0,0))) := Lib.hid (by rw [hW0]; have := blk_new (w.alloc (.cells #[.int .i64 c.lanes,.int .i64 c.shards,.int .i64 c.window,.int .i64 c.queue] 23)) (.cells #[.int .i64 mark,.slice A2 n2 c2,.slice A3 n3 c3] 28); simpa using this)
 have HB0 := Lib.hid hb0
 have HW0 := Lib.hid hW0
 clear hb0 hW0 hok
 go_enter Tryz.func8,Tryz.ntmps8
 go_wp2_with fail
 rw [← HW0.out]
 refine (Hcf.out _).mono ?_
 rintro e w1 ⟨rfl,hb1⟩
 have HB1 := Lib.hid (HB0.out.trans (hb1.mono HB0.out.size))
 clear hb1
 go_wp2_with fail
 go_ret2
 exact ⟨rfl,HB1.out⟩
set_option maxHeartbeats 1000000 in
theorem rcheckB_any (c : Cfg) (rs : List RTx) (A : Option Addr) (len cap : Nat) (mark : Int) (A2 : Option Addr) (n2 c2 : Nat) (by_ : List Int) (A3 : Option Addr) (n3 c3 : Nat) (A4 : Option Addr) (n4 c4 : Nat) (l : List Ev) (w : World) (hl : TxsAt w w.heap.size A len rs) (hlen : len≤4398046511104) (hok : c.ok = true) (hlog : ¬ logErr rs 1 = 0) :
    Calls Tryz.prog 8 #[.agg #[.int .i64 c.lanes,.int .i64 c.shards,.int .i64 c.window,.int .i64 c.queue],.slice A len cap,.agg #[.int .i64 mark,.slice A2 n2 c2,.slice A3 n3 c3],.slice A4 n4 c4] w fun e w' => e = .returned (.tuple #[.int .i64 0,.int .i64 1])∧Below w.heap.size w w' := by
 have Hcf := Lib.hid (refcfg_any c)
 rw [hok] at Hcf
 unfold Cfg.v at Hcf
 obtain ⟨W0,hW0⟩ : ∃ W0,W0 = (w.alloc (.cells #[.int .i64 c.lanes,.int .i64 c.shards,.int .i64 c.window,.int .i64 c.queue] 23)).alloc (.cells #[.int .i64 mark,.slice A2 n2 c2,.slice A3 n3 c3] 28) := ⟨_,rfl⟩
 have hb0 : Below w.heap.size w W0 := hW0 ▸ bel_alloc (bel_alloc (Below.refl _ _) _) _
 have HC0 : Hid (W0.heap[w.heap.size]? = some (.cells #[.int .i64 c.lanes,.int .i64 c.shards,.int .i64 c.window,.int .i64 c.queue] 23 (0,0))) := Lib.hid (by rw [hW0,Below.heap_alloc _ _ _ (by simp)]; exact blk_new _ _)
 have HV0 : Hid (W0.heap[w.heap.size+1]? = some (.cells #[.int .i64 mark,.slice A2 n2 c2,.slice A3 n3 c3] 28 (0,0))) := Lib.hid (by rw [hW0]; have := blk_new (w.alloc (.cells #[.int .i64 c.lanes,.int .i64 c.shards,.int .i64 c.window,.int .i64 c.queue] 23)) (.cells #[.int .i64 mark,.slice A2 n2 c2,.slice A3 n3 c3] 28); simpa using this)
 have HB0 := Lib.hid hb0
 have HW0 := Lib.hid hW0
 have Hl := Lib.hid hl
 obtain ⟨q,hq⟩ : ∃ q,q = logErr rs 1 := ⟨_,rfl⟩
 rw [← hq] at hlog
 have Hq := Lib.hid hq
 have hq0 : (q != 0) = true := by simpa using hlog
 clear hb0 hW0 hok hl hq
 go_enter Tryz.func8,Tryz.ntmps8
 go_wp2_with fail
 rw [← HW0.out]
 refine (Hcf.out _).mono ?_
 rintro e w1 ⟨rfl,hb1⟩
 have HV1 := Lib.hid ((hb1.block _ (blk_lt HV0.out)).trans HV0.out)
 have HB1 := Lib.hid (HB0.out.trans (hb1.mono HB0.out.size))
 have Hlg := Lib.hid (reflog_any A len cap rs w1 ((Hl.out.below HB1.out).more HB1.out.size) hlen)
 rw [← Hq.out] at Hlg
 clear hb1
 go_wp2_with fail
 refine Hlg.out.mono ?_
 rintro e w2 ⟨rfl,hb2⟩
 have HB2 := Lib.hid (HB1.out.trans (hb2.mono HB1.out.size))
 clear hb2
 go_wp2_with fail
 go_ret2
 exact ⟨rfl,HB2.out⟩
set_option maxHeartbeats 1000000 in
theorem rcheckC_any (c : Cfg) (rs : List RTx) (A : Option Addr) (len cap : Nat) (mark : Int) (A2 : Option Addr) (n2 c2 : Nat) (by_ : List Int) (A3 : Option Addr) (n3 c3 : Nat) (A4 : Option Addr) (n4 c4 : Nat) (l : List Ev) (w : World) (hl : TxsAt w w.heap.size A len rs) (hb : IsAt w w.heap.size A2 n2 by_) (hlen : len≤4398046511104) (hn2 : n2≤4398046511104000) (hok : c.ok = true) (hlog : logErr rs 1 = 0) (hpl : placeB len mark by_ = false) :
    Calls Tryz.prog 8 #[.agg #[.int .i64 c.lanes,.int .i64 c.shards,.int .i64 c.window,.int .i64 c.queue],.slice A len cap,.agg #[.int .i64 mark,.slice A2 n2 c2,.slice A3 n3 c3],.slice A4 n4 c4] w fun e w' => e = .returned (.tuple #[.int .i64 0,.int .i64 1])∧Below w.heap.size w w' := by
 have Hcf := Lib.hid (refcfg_any c)
 rw [hok] at Hcf
 unfold Cfg.v at Hcf
 obtain ⟨W0,hW0⟩ : ∃ W0,W0 = (w.alloc (.cells #[.int .i64 c.lanes,.int .i64 c.shards,.int .i64 c.window,.int .i64 c.queue] 23)).alloc (.cells #[.int .i64 mark,.slice A2 n2 c2,.slice A3 n3 c3] 28) := ⟨_,rfl⟩
 have hb0 : Below w.heap.size w W0 := hW0 ▸ bel_alloc (bel_alloc (Below.refl _ _) _) _
 have HC0 : Hid (W0.heap[w.heap.size]? = some (.cells #[.int .i64 c.lanes,.int .i64 c.shards,.int .i64 c.window,.int .i64 c.queue] 23 (0,0))) := Lib.hid (by rw [hW0,Below.heap_alloc _ _ _ (by simp)]; exact blk_new _ _)
 have HV0 : Hid (W0.heap[w.heap.size+1]? = some (.cells #[.int .i64 mark,.slice A2 n2 c2,.slice A3 n3 c3] 28 (0,0))) := Lib.hid (by rw [hW0]; have := blk_new (w.alloc (.cells #[.int .i64 c.lanes,.int .i64 c.shards,.int .i64 c.window,.int .i64 c.queue] 23)) (.cells #[.int .i64 mark,.slice A2 n2 c2,.slice A3 n3 c3] 28); simpa using this)
 have HB0 := Lib.hid hb0
 have HW0 := Lib.hid hW0
 have Hl := Lib.hid hl
 have Hb := Lib.hid hb
 have Hlog := Lib.hid hlog
 have Hpl := Lib.hid hpl
 clear hb0 hW0 hok hl hlog hpl hb
 go_enter Tryz.func8,Tryz.ntmps8
 go_wp2_with fail
 rw [← HW0.out]
 refine (Hcf.out _).mono ?_
 rintro e w1 ⟨rfl,hb1⟩
 have HV1 := Lib.hid ((hb1.block _ (blk_lt HV0.out)).trans HV0.out)
 have HB1 := Lib.hid (HB0.out.trans (hb1.mono HB0.out.size))
 have Hlg := Lib.hid (reflog_any A len cap rs w1 ((Hl.out.below HB1.out).more HB1.out.size) hlen)
 rw [Hlog.out] at Hlg
 have v0 : w1.cell? ⟨w.heap.size+1,0,none⟩ = some (.int .i64 mark) := blk_cell HV1.out 0
 clear hb1
 go_wp2_with fail
 refine Hlg.out.mono ?_
 rintro e w2 ⟨rfl,hb2⟩
 have HV2 := Lib.hid ((hb2.block _ (blk_lt HV1.out)).trans HV1.out)
 have HB2 := Lib.hid (HB1.out.trans (hb2.mono HB1.out.size))
 have Hpc := Lib.hid (rplace_any A len cap mark A2 n2 c2 by_ w2 ((Hb.out.below HB2.out).more HB2.out.size) hlen hn2)
 rw [Hpl.out] at Hpc
 have v0 : w2.cell? ⟨w.heap.size+1,0,none⟩ = some (.int .i64 mark) := blk_cell HV2.out 0
 have v1 : w2.cell? ⟨w.heap.size+1,1,none⟩ = some (.slice A2 n2 c2) := blk_cell HV2.out 1
 clear hb2
 go_wp2_with fail
 refine Hpc.out.mono ?_
 rintro e w3 ⟨rfl,rfl⟩
 go_wp2_with fail
 go_ret2
 exact ⟨rfl,HB2.out⟩
set_option maxHeartbeats 4000000 in
theorem rcheckD_any (c : Cfg) (rs : List RTx) (A : Option Addr) (len cap M : Nat) (A2 : Option Addr) (n2 c2 : Nat) (bs : List Nat) (A3 : Option Addr) (n3 c3 : Nat) (A4 : Option Addr) (n4 c4 : Nat) (l : List Ev) (w : World)
    (hl : TxsAt w w.heap.size A len rs) (hb : IsAt w w.heap.size A2 n2 (ints bs)) (he : EsAt w w.heap.size A4 n4 l) (hn : A2 = none→c2 = 0) (hcap : ∀ r ∈ rs,r.len≤r.cap) (hnl : ∀ r ∈ rs,r.A = none→r.cap = 0) (hn4 : n4≤4398046510000) (hok : c.ok = true) (hlog : logErr rs 1 = 0) (hpl : placeB len M (ints bs) = true) (hG : (⟨M,bs⟩ : Gt).Ok) (hn2 : n2≤65536) (hlen : len≤65536) (hML : M≤rs.length) (hby : ∀ b ∈ ints bs,(M : Int)+2≤b) :
    Calls Tryz.prog 8 #[.agg #[.int .i64 c.lanes,.int .i64 c.shards,.int .i64 c.window,.int .i64 c.queue],.slice A len cap,.agg #[.int .i64 M,.slice A2 n2 c2,.slice A3 n3 c3],.slice A4 n4 c4] w fun e w' => e = .returned (.tuple #[.int .i64 (checkN c rs M bs l),.int .i64 (checkE (checkN c rs M bs l) n4)])∧Below w.heap.size w w' := by
 have hcl : 1≤c.lanes∧c.lanes≤16∧1≤c.shards∧c.shards≤16 := by simp [Cfg.ok,inB] at hok; omega
 have Hcf := Lib.hid (refcfg_any c)
 rw [hok] at Hcf
 unfold Cfg.v at Hcf
 obtain ⟨W0,hW0⟩ : ∃ W0,W0 = (w.alloc (.cells #[.int .i64 c.lanes,.int .i64 c.shards,.int .i64 c.window,.int .i64 c.queue] 23)).alloc (.cells #[.int .i64 M,.slice A2 n2 c2,.slice A3 n3 c3] 28) := ⟨_,rfl⟩
 have hb0 : Below w.heap.size w W0 := hW0 ▸ bel_alloc (bel_alloc (Below.refl _ _) _) _
 have HC0 : Hid (W0.heap[w.heap.size]? = some (.cells #[.int .i64 c.lanes,.int .i64 c.shards,.int .i64 c.window,.int .i64 c.queue] 23 (0,0))) := Lib.hid (by rw [hW0,Below.heap_alloc _ _ _ (by simp)]; exact blk_new _ _)
 have HV0 : Hid (W0.heap[w.heap.size+1]? = some (.cells #[.int .i64 M,.slice A2 n2 c2,.slice A3 n3 c3] 28 (0,0))) := Lib.hid (by rw [hW0]; have := blk_new (w.alloc (.cells #[.int .i64 c.lanes,.int .i64 c.shards,.int .i64 c.window,.int .i64 c.queue] 23)) (.cells #[.int .i64 M,.slice A2 n2 c2,.slice A3 n3 c3] 28); simpa using this)
 have Hl := Lib.hid hl
 have Hb := Lib.hid hb
 have He := Lib.hid he
 have HB0 := Lib.hid hb0
 have HW0 := Lib.hid hW0
 have Hlog := Lib.hid hlog
 have Hpl := Lib.hid hpl
 have HG := Lib.hid hG
 have Hok := Lib.hid hok
 have HML := Lib.hid hML
 have Hby := Lib.hid hby
 have Hcap := Lib.hid hcap
 have Hnl := Lib.hid hnl
 have Hn := Lib.hid hn
 clear hl hb he hb0 hlog hpl hW0 hok hG hML hby hcap hn hnl
 go_enter Tryz.func8,Tryz.ntmps8
 go_wp2_with fail
 rw [← HW0.out]
 refine (Hcf.out _).mono ?_
 rintro e w1 ⟨rfl,hb1⟩
 have HC1 := Lib.hid ((hb1.block _ (blk_lt HC0.out)).trans HC0.out)
 have HV1 := Lib.hid ((hb1.block _ (blk_lt HV0.out)).trans HV0.out)
 have HB1 := Lib.hid (HB0.out.trans (hb1.mono HB0.out.size))
 have Hlg := Lib.hid (reflog_any A len cap rs w1 ((Hl.out.below HB1.out).more HB1.out.size) (by omega))
 rw [Hlog.out] at Hlg
 have v0 : w1.cell? ⟨w.heap.size+1,0,none⟩ = some (.int .i64 M) := blk_cell HV1.out 0
 clear hb1
 go_wp2_with fail
 refine Hlg.out.mono ?_
 rintro e w2 ⟨rfl,hb2⟩
 have HC2 := Lib.hid ((hb2.block _ (blk_lt HC1.out)).trans HC1.out)
 have HV2 := Lib.hid ((hb2.block _ (blk_lt HV1.out)).trans HV1.out)
 have HB2 := Lib.hid (HB1.out.trans (hb2.mono HB1.out.size))
 have Hpc := Lib.hid (rplace_any A len cap M A2 n2 c2 (ints bs) w2 ((Hb.out.below HB2.out).more HB2.out.size) (by omega) (by omega))
 rw [Hpl.out] at Hpc
 have v0 : w2.cell? ⟨w.heap.size+1,0,none⟩ = some (.int .i64 M) := blk_cell HV2.out 0
 have v1 : w2.cell? ⟨w.heap.size+1,1,none⟩ = some (.slice A2 n2 c2) := blk_cell HV2.out 1
 clear hb2
 go_wp2_with fail
 refine Hpc.out.mono ?_
 rintro e w3 ⟨rfl,rfl⟩
 have Hgn := Lib.hid (r12new_any M A2 n2 c2 bs w2 ((Hb.out.below HB2.out).more HB2.out.size) Hn.out HG.out)
 go_wp2_with (go_at_call 27; refine Hgn.out.mono ?_)
 rintro e w4 ⟨gt,AK,nK,cK,rfl,hgt4,hgb,hb4⟩
 have hgtB : w.heap.size+2≤gt := by have := blk_lt HV2.out; omega
 have HC4 := Lib.hid ((hb4.block _ (blk_lt HC2.out)).trans HC2.out)
 have HV4 := Lib.hid ((hb4.block _ (blk_lt HV2.out)).trans HV2.out)
 have HB4 := Lib.hid (HB2.out.trans (hb4.mono HB2.out.size))
 have HG4 := Lib.hid hgt4
 have HKB : Hid (∀ ad,AK = some ad→w2.heap.size≤ad.block) := Lib.hid fun ad e => (hgt4.tk.lt e).1
 have hgl := blk_lt hgt4.st
 have h2s := Lib.hid HB2.out.size
 clear hb4 hgt4 v0 v1
 go_wp2_with fail
 have k0 : ∀ n : Ext w4,n.X.cell? ⟨w.heap.size,0,none⟩ = some (.int .i64 c.lanes) := fun n => (n.h.cell (p := ⟨w.heap.size,0,none⟩) (blk_lt HC4.out)).trans (blk_cell HC4.out 0)
 have k1 : ∀ n : Ext w4,n.X.cell? ⟨w.heap.size,1,none⟩ = some (.int .i64 c.shards) := fun n => (n.h.cell (p := ⟨w.heap.size,1,none⟩) (blk_lt HC4.out)).trans (blk_cell HC4.out 1)
 have k2 : ∀ n : Ext w4,n.X.cell? ⟨w.heap.size,2,none⟩ = some (.int .i64 c.window) := fun n => (n.h.cell (p := ⟨w.heap.size,2,none⟩) (blk_lt HC4.out)).trans (blk_cell HC4.out 2)
 have k3 : ∀ n : Ext w4,n.X.cell? ⟨w.heap.size,3,none⟩ = some (.int .i64 c.queue) := fun n => (n.h.cell (p := ⟨w.heap.size,3,none⟩) (blk_lt HC4.out)).trans (blk_cell HC4.out 3)
 have v0 : ∀ n : Ext w4,n.X.cell? ⟨w.heap.size+1,0,none⟩ = some (.int .i64 M) := fun n => (n.h.cell (p := ⟨w.heap.size+1,0,none⟩) (blk_lt HV4.out)).trans (blk_cell HV4.out 0)
 have v1 : ∀ n : Ext w4,n.X.cell? ⟨w.heap.size+1,1,none⟩ = some (.slice A2 n2 c2) := fun n => (n.h.cell (p := ⟨w.heap.size+1,1,none⟩) (blk_lt HV4.out)).trans (blk_cell HV4.out 1)
 have Hmk := Lib.hid (mkR_grow c.lanes.toNat c.shards.toNat)
 refine wp_region_makers2 [0,1,2,3,4,5,7,8,9,11,12] (mkR c.lanes.toNat c.shards.toNat) 14 (by kernel_rfl) (by kernel_rfl) (by kernel_rfl) (by kernel_rfl) (fun _ _ d _ _ h => by cases d <;> exact h) Hmk.out ?_
 change wpQuiet _ _ _ _ (_ :: _ :: _ :: _ :: _ :: _ :: _ :: _ :: _ :: _ :: _ :: []) _
 repeat (go_big_quiet_step (fail))
 refine wpQuiet_nil ⟨?_,?_⟩
 · as_aux_lemma =>
   intro m hm o ho X hX
   have hLn : (Value.int .i64 c.lanes) = .int .i64 ((c.lanes.toNat : Nat) : Int) := by congr 1; omega
   have hSn : (Value.int .i64 c.shards) = .int .i64 ((c.shards.toNat : Nat) : Int) := by congr 1; omega
   simp only [mkR,List.mem_cons,List.not_mem_nil,or_false] at hm
   rcases hm with rfl | rfl | rfl
   · simp only [List.getElem?_cons_succ,List.getElem?_cons_zero,Option.some.injEq] at ho
     subst ho
     exact Makes.call (vs := #[]) rfl (by simp only [List.map_toArray,List.map_nil]) (by kernel_rfl) (mk_tabR X)
   · simp only [List.getElem?_cons_succ,List.getElem?_cons_zero,Option.some.injEq] at ho
     subst ho
     obtain ⟨v,X',g1,g2,g3⟩ := mk_row (X := X) (j := 10) (d := 47) (n := c.lanes.toNat) Tryz.underlying75 info_laneR (by omega) (by omega)
     exact Makes.slice rfl hLn hLn g1 g2 g3
   · simp only [List.getElem?_cons_succ,List.getElem?_cons_zero,Option.some.injEq] at ho
     subst ho
     obtain ⟨v,X',g1,g2,g3⟩ := mk_row (X := X) (j := 13) (d := 50) (n := c.shards.toNat) Tryz.underlying76 info_waitS (by omega) (by omega)
     exact Makes.slice rfl hSn hSn g1 g2 g3
 · intro v X hX hI
   obtain ⟨th,ln,qb,e6,e10,e13,t6,t10,t13,hlo,hd1⟩ := mkR_all hI
   clear hI
   have HX := Lib.hid hX
   have T6 := Lib.hid t6
   have T10 := Lib.hid t10
   have T13 := Lib.hid t13
   have Hlo := Lib.hid hlo
   have Hd1 := Lib.hid hd1
   clear t6 t10 t13 hlo hd1 k0 k1 k2 k3 v0 v1 hX
   simp only [mkR,puts,e6,e10,e13]
   clear e6 e10 e13 v
   simp only [List.drop_succ_cons,List.drop_zero,Act.put,List.setIfInBounds_toArray,List.set_cons_succ,List.set_cons_zero]
   unfold ptrV
   refine tailC_one rfl ?_
   have Hbu := Lib.hid (rstory_built c.lanes c.shards c.window c.queue M A len cap A2 n2 c2 th gt ln qb c.lanes.toNat c.shards.toNat)
   unfold ptrV at Hbu
   go_wp2_with (with_reducible refine wpList_build rfl _ _ rfl ?_ ?_)
   · rw [Hbu.out]; rfl
   rw [Hbu.out,Option.getD_some]
   clear Hbu
   refine QT.normal ⟨⟨⟨X,HX.out⟩,rfl⟩,?_⟩
   refine tailC_one rfl ?_
   go_wp2_with fail
   obtain ⟨X1,hX1⟩ : ∃ X1,X1 = X.alloc (.cells #[.int .i64 c.lanes,.int .i64 c.shards,.int .i64 c.window,.int .i64 c.queue,.slice A len cap,.int .i64 M,.int .i64 0,.slice A2 n2 c2,.pointer (some ⟨th,0,none⟩),.pointer (some ⟨gt,0,none⟩),.slice none 0 0,.slice none 0 0,.slice (some ⟨ln,0,none⟩) c.lanes.toNat c.lanes.toNat,.slice (some ⟨qb,0,none⟩) c.shards.toNat c.shards.toNat,.slice none 0 0] 79) := ⟨_,rfl⟩
   have hb1 : Below X.heap.size X X1 := hX1 ▸ bel_alloc (Below.refl _ _) _
   have hg1 : X1.heap[X.heap.size]? = some (.cells #[.int .i64 c.lanes,.int .i64 c.shards,.int .i64 c.window,.int .i64 c.queue,.slice A len cap,.int .i64 M,.int .i64 0,.slice A2 n2 c2,.pointer (some ⟨th,0,none⟩),.pointer (some ⟨gt,0,none⟩),.slice none 0 0,.slice none 0 0,.slice (some ⟨ln,0,none⟩) c.lanes.toNat c.lanes.toNat,.slice (some ⟨qb,0,none⟩) c.shards.toNat c.shards.toNat,.slice none 0 0] 79 (0,0)) := hX1 ▸ blk_new _ _
   have hX4 : Below w4.heap.size w4 X1 := HX.out.trans (hb1.mono HX.out.size)
   have hbx : Below w.heap.size w X1 := HB4.out.trans (hX4.mono HB4.out.size)
   obtain ⟨a,ha⟩ : ∃ a : RA,a = ⟨X.heap.size,gt,th,ln,qb,A,len,cap,⟨A2,n2,c2⟩,0,fun _ => none⟩ := ⟨_,rfl⟩
   have hst : ∃ φ x,RsAt X1 φ w.heap.size c rs (maskL M (ints bs) rs) (ints bs) a x (TS.start c M bs)∧x.bd = 0 := by
    have := Hlo.out
    have l6 := blk_lt T6.out
    have l10 := blk_lt T10.out
    have l13 := blk_lt T13.out
    have d1 := Hd1.out
    have s4 := HB4.out.size
    have sx := HX.out.size
    have s2 := h2s.out
    have hg4 : RGAt X1 w.heap.size gt AK nK cK ⟨M,bs⟩ := by
     have hk := Kept.of_below (X := fun _ => False) hX4
     exact ⟨HG4.out.ok,hk.blk HG4.out.st (blk_lt HG4.out.st) (by simp),(HG4.out.tk.kept hk (fun _ _ h => h)).more s2⟩
    subst ha
    refine rstory_begins (K := ⟨AK,nK,cK⟩) rfl hbx.size (Hl.out.below hbx) hg1 (Hb.out.below hbx) ((hb1.block _ l6).trans T6.out) ((hb1.block _ l10).trans T10.out) ((hb1.block _ l13).trans T13.out) hg4 ⟨by simp only; omega,by simp only; omega,by simp only; omega,by simp only; omega,by simp only; omega⟩ ⟨by simp only; omega,by simp only; omega,by simp only; omega,by simp only; omega,by simp only; omega,by simp only; omega,by simp only; omega,by simp only; omega,by simp only; omega,by simp only; omega⟩ (fun ad e => ?_)
    have k4 := (HG4.out.tk.lt e).2
    exact ⟨by simp only; omega,by simp only; omega,by simp only; omega,by simp only; omega⟩
   rw [← hX1]
   have hag : a.g = X.heap.size := by rw [ha]
   have haB : a.B.n = n2 := by rw [ha]
   have HaN : Hid (a.N = 0) := Lib.hid (by rw [ha])
   rw [← hag]
   have Hst := Lib.hid hst
   have Hbx := Lib.hid hbx
   have HX4 := Lib.hid hX4
   have HaB := Lib.hid haB
   clear hst hbx hg1 hb1 ha hX1 T6 T10 T13 Hlo Hd1 hag haB
   refine QT.normal ⟨fun _ => ⟨⟨X1,HX4.out⟩,rfl⟩,?_⟩
   refine tailC_one rfl ?_
   go_wp2_with fail
   refine QT.normal ⟨by simp,?_⟩
   refine tailC_nil ?_
   go_wp2_with fail
   clear Hmk hX4 HX HX4 Hcf HW0 HB0 HC0 HV0 HC1 HV1 HB1 Hlg HC2 HV2 HB2 Hpc Hgn HC4 HV4 hgtB hgl hgb HKB h2s
   go_loopw [13] (fun iv wr => ∃ (k : Nat) (s : TS),k≤n4∧iv = .int .i64 k∧Hid (∃ φ x,RsAt wr φ w.heap.size c rs (maskL M (ints bs) rs) (ints bs) a x s∧x.bd≤k)∧Hid (SInv c rs (maskL M (ints bs) rs) M k s)∧Hid (checkN c rs M bs l = k+tale c rs (maskL M (ints bs) rs) (ints bs) (l.drop k) s)∧Hid (Below w.heap.size w wr)) (fun iv _ => n4 - (RowKit.intOf iv).toNat)
   case atStart =>
    obtain ⟨φ,x,g1,g2⟩ := Hst.out
    exact ⟨0,TS.start c M bs,Nat.zero_le _,rfl,Lib.hid ⟨φ,x,g1,by omega⟩,Lib.hid (SInv.start Hok.out HML.out HG.out),Lib.hid (by simp [checkN]),Hbx⟩
   case round =>
    obtain ⟨k,s,hk,rfl,HS,HI,HN,HB⟩ := hrel
    by_cases hlt : k < n4
    · obtain ⟨b,off,ev,rfl,hbl,hx,x0,x1,x2,x3,x4,x5⟩ := EsAt.cell6 (He.out.below HB.out) hlt
      have Hx := Lib.hid hx
      clear hx
      obtain ⟨φ,x,hs,hbd⟩ := HS.out
      have hlr : rs.length≤65536 := by rw [Hl.out.1.len]; exact hlen
      have Hnx := Lib.hid (rnext_any φ w.heap.size c rs (maskL M (ints bs) rs) (ints bs) M k a x s ev wr hs HI.out Hok.out hlr (fun i r hr => by have := logErr_all Hlog.out i r hr; exact ⟨this.1,by rw [this.2]; omega⟩) rfl (by rw [HaB.out]; exact hn2) Hnl.out Hcap.out (by omega) (by omega))
      obtain ⟨R,hR⟩ : ∃ R,R = s.fits c rs (maskL M (ints bs) rs) (ints bs) ev := ⟨_,rfl⟩
      have HR := Lib.hid hR
      rw [← hR] at Hnx
      clear hR hs
      obtain ⟨rb,s2⟩ := R
      have Hdr := Lib.hid (drop_get Hx.out)
      have Hbd := Lib.hid hbd
      clear hbd
      go_wp2_with (go_at_call 29; refine Hnx.out.mono ?_)
      rintro e1 w5 ⟨rfl,hB5,hok5⟩
      have HB5 := Lib.hid (HB.out.trans hB5)
      have Hok5 := Lib.hid hok5
      clear hB5 hok5 Hnx
      cases rb with
      | false =>
        go_wp2_with fail
        go_ret2
        have h0 := HN.out
        rw [Hdr.out] at h0
        simp only [tale,← HR.out,Bool.false_eq_true,if_false,Nat.add_zero] at h0
        refine ⟨?_,HB5.out⟩
        rw [h0,checkE,if_pos (by omega)]
        rfl
      | true =>
        go_wp2_with fail
        go_roundw
        case rel =>
         obtain ⟨φ5,x5,-,g2,g3⟩ := Hok5.out trivial
         have h0 := HN.out
         rw [Hdr.out] at h0
         simp only [tale,← HR.out,if_true] at h0
         refine ⟨k+1,s2,by omega,by go_num,Lib.hid ⟨φ5,x5,g2,by have := Hbd.out; omega⟩,Lib.hid ?_,Lib.hid (by omega),HB5⟩
         have := HI.out.step (by_ := ints bs) (e := ev) Hby.out (log_ws Hlog.out)
         have h2 : s2 = (s.step c rs (maskL M (ints bs) rs) (ints bs) ev).2 := by
          have := congrArg Prod.snd HR.out
          exact this
         rw [h2]
         exact this
        case measure => simp [RowKit.intOf]; omega
    · have hkn : k = n4 := by omega
      subst hkn
      go_wp2_with fail
      go_ret2
      have h0 := HN.out
      rw [List.drop_of_length_le (by have := He.out.len; omega)] at h0
      simp only [tale] at h0
      refine ⟨?_,HB.out⟩
      rw [h0,checkE,if_neg (by omega)]
      rfl
theorem rcheck_any (c : Cfg) (rs : List RTx) (A : Option Addr) (len cap : Nat) (mark : Int) (A2 : Option Addr) (n2 c2 : Nat) (by_ : List Int) (A3 : Option Addr) (n3 c3 : Nat) (A4 : Option Addr) (n4 c4 : Nat) (l : List Ev) (w : World) (hl : TxsAt w w.heap.size A len rs) (hb : IsAt w w.heap.size A2 n2 by_) (he : EsAt w w.heap.size A4 n4 l) (hn : A2 = none→c2 = 0) (hcap : ∀ r ∈ rs,r.len≤r.cap) (hnl : ∀ r ∈ rs,r.A = none→r.cap = 0) (hn4 : n4≤4398046510000) (hlen : len≤4398046511104) (hn2 : n2≤4398046511104000) :
    Calls Tryz.prog 8 #[.agg #[.int .i64 c.lanes,.int .i64 c.shards,.int .i64 c.window,.int .i64 c.queue],.slice A len cap,.agg #[.int .i64 mark,.slice A2 n2 c2,.slice A3 n3 c3],.slice A4 n4 c4] w fun e w' => e = .returned (.tuple #[.int .i64 (checkR c rs mark by_ l).1,.int .i64 (checkR c rs mark by_ l).2])∧Below w.heap.size w w' := by
 by_cases hok : c.ok = false
 · rw [checkR,if_pos hok]
   exact rcheckA_any c rs A len cap mark A2 n2 c2 by_ A3 n3 c3 A4 n4 c4 l w hok
 · have hok' : c.ok = true := by simpa using hok
   rw [checkR,if_neg hok]
   by_cases hlog : logErr rs 1 = 0
   · by_cases hpl : placeB rs.length mark by_ = true
     · rw [if_pos ⟨hlog,hpl⟩]
       have h6 := logErr_le hlog
       obtain ⟨M,bs,rfl,rfl,h1,h2,h3⟩ := place_nat hpl h6
       have hlr := hl.1.len
       have hbl : n2≤65536 := by
        have : M+bs.length≤max M 65536 := rise_len (a := M) (N := 65536) h2.rise (fun b hb2 => by have := h2.lo b hb2; simp only at this; omega)
        have h9 := hb.len
        simp only [ints,List.length_map] at h9
        have := h2.mark
        simp only at this
        omega
       rw [ints_toNat,Int.toNat_natCast]
       have hll := he.len
       rw [hll]
       exact rcheckD_any c rs A len cap M A2 n2 c2 bs A3 n3 c3 A4 n4 c4 l w hl hb he hn hcap hnl hn4 hok' hlog (by rw [← hlr]; exact hpl) h2 hbl (by omega) (by omega) h3
     · rw [if_neg (fun h => hpl h.2)]
       exact rcheckC_any c rs A len cap mark A2 n2 c2 by_ A3 n3 c3 A4 n4 c4 l w hl hb hlen hn2 hok' hlog (by rw [← hl.1.len]; simpa using hpl)
   · rw [if_neg (fun h => hlog h.1)]
     exact rcheckB_any c rs A len cap mark A2 n2 c2 by_ A3 n3 c3 A4 n4 c4 l w hl hlen hok' hlog
end Go.Proofs.YtcjmppjppmiggaaGreat

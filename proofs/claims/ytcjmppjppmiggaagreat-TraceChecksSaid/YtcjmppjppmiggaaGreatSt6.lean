/- A trace's story: a call's step. -/
import Derived.Test.YtcjmppjppmiggaaGreatSt5
namespace Go.Proofs.YtcjmppjppmiggaaGreat
open Go.RowKit
set_option linter.unusedVariables false
set_option linter.unusedSimpArgs false

open Go.Maps
set_option maxRecDepth 100000
set_option maxHeartbeats 4000000 in
theorem callA_any (φ : Nat→Nat) (Bo : Nat) (c : Cfg) (rs rs' : List RTx) (by_ : List Int) (M k : Nat) (a : SA) (x : SG) (s : TS) (w : World) (et ek en es ec em : Int) (h0 : StAt w φ Bo c rs rs' by_ a x s) (hi : SInv c rs rs' M k s) (hc : c.ok = true) (hk : k≤4398046511104) (ht : et < 0) (hm : mget s.calls et = none) :
    Calls Tryz.prog 44 #[ptrV a.g,.agg #[.int .i64 et,.int .u8 ek,.int .i64 en,.int .i64 es,.int .i64 ec,.int .i64 em]] w (TaskEnd w φ Bo c rs rs' by_ a (s.call c ⟨et,ek,en,es,ec,em⟩)) := by
 have Hmx := Lib.hid (((h0.cb (fun h => h)).2 et).1 hm)
 obtain ⟨R,hR⟩ : ∃ R,R = s.call c ⟨et,ek,en,es,ec,em⟩ := ⟨_,rfl⟩
 rw [← hR]
 unfold TS.call at hR
 simp only at hR
 rw [hm] at hR
 have HR := Lib.hid hR
 unfold ptrV
 clear hR hm
 obtain ⟨φ0,hφ0⟩ : ∃ φ0 : Nat→Nat,φ0 = fun b => if b < w.heap.size then φ b else if b < w.heap.size+3 then 50 else 101+2 * (-et).toNat := ⟨_,rfl⟩
 have hφ1 : ∀ b,b < w.heap.size→φ0 b = φ b := fun b hb => by rw [hφ0]; simp only [if_pos hb]
 have h : StAt w φ0 Bo c rs rs' by_ a x s := h0.relabel hφ1
 have Hφ1 := Lib.hid hφ1
 have hφ2 : ∀ b,w.heap.size≤b→b < w.heap.size+3→φ0 b = 50 := fun b hb hb2 => by rw [hφ0]; simp only [if_neg (show ¬ b < w.heap.size by omega),if_pos hb2]
 have hφ3 : ∀ b,w.heap.size+3≤b→φ0 b = 101+2 * (-et).toNat := fun b hb => by rw [hφ0]; simp only [if_neg (show ¬ b < w.heap.size by omega),if_neg (show ¬ b < w.heap.size+3 by omega)]
 have Hφ2 := Lib.hid hφ2
 have Hφ3 := Lib.hid hφ3
 clear hφ2 hφ3 hφ0 hφ1 h0
 have H := Lib.hid h
 have HI := Lib.hid hi
 obtain ⟨W0,hW0⟩ : ∃ W0,W0 = ((w.alloc (.cells #[.int .i64 et,.int .u8 ek,.int .i64 en,.int .i64 es,.int .i64 ec,.int .i64 em] 51)).alloc (.cells #[.int .i64 0,.int .u8 0,.int .i64 0,.int .i64 0,.int .i64 0,.int .i64 0] 51)).alloc (.cells #[.int .i64 0,.int .u8 0,.int .i64 et,.int .i64 0,.int .i64 0,.int .i64 0] 51) := ⟨_,rfl⟩
 have hb0 : Below w.heap.size w W0 := hW0 ▸ bel_alloc (bel_alloc (bel_alloc (Below.refl _ _) _) _) _
 have hz0 : W0.heap.size = w.heap.size+3 := by rw [hW0]; simp
 have HEv0 : Hid (W0.heap[w.heap.size]? = some (.cells #[.int .i64 et,.int .u8 ek,.int .i64 en,.int .i64 es,.int .i64 ec,.int .i64 em] 51 (0,0))) := Lib.hid (by rw [hW0,Below.heap_alloc _ _ _ (by simp; omega),Below.heap_alloc _ _ _ (by simp)]; exact blk_new _ _)
 have HE0 : Hid (W0.heap[w.heap.size+1]? = some evBox) := Lib.hid (by rw [hW0,Below.heap_alloc _ _ _ (by simp)]; have := blk_new (w.alloc (.cells #[.int .i64 et,.int .u8 ek,.int .i64 en,.int .i64 es,.int .i64 ec,.int .i64 em] 51)) (.cells #[.int .i64 0,.int .u8 0,.int .i64 0,.int .i64 0,.int .i64 0,.int .i64 0] 51); simpa [evBox] using this)
 have HWt0 : Hid (W0.heap[w.heap.size+1+1]? = some (.cells #[.int .i64 0,.int .u8 0,.int .i64 et,.int .i64 0,.int .i64 0,.int .i64 0] 51 (0,0))) := Lib.hid (by rw [hW0]; have := blk_new ((w.alloc (.cells #[.int .i64 et,.int .u8 ek,.int .i64 en,.int .i64 es,.int .i64 ec,.int .i64 em] 51)).alloc (.cells #[.int .i64 0,.int .u8 0,.int .i64 0,.int .i64 0,.int .i64 0,.int .i64 0] 51)) (.cells #[.int .i64 0,.int .u8 0,.int .i64 et,.int .i64 0,.int .i64 0,.int .i64 0] 51); simpa using this)
 have HS0 := Lib.hid (h.below hb0 (fun h => h) (fun h => h))
 have HB0 : Hid (Below Bo w W0) := Lib.hid (hb0.mono h.lo)
 have HZ0 := Lib.hid hz0
 clear h hi hb0 hz0
 have d14 : W0.cell? ⟨a.g,14,none⟩ = some (.map (some a.cb)) := blk_cell (HS0.out.st (fun h => h)) 14
 have e14 : ∀ q : Ext W0,q.X.cell? ⟨a.g,14,none⟩ = some (.map (some a.cb)) := fun q => (q.h.cell (p := ⟨a.g,14,none⟩) HS0.out.fst.2.2).trans d14
 have eb : ∀ q : Ext W0,q.X.cell? ⟨w.heap.size,0,none⟩ = some (.int .i64 et) := fun q => (q.h.cell (p := ⟨w.heap.size,0,none⟩) (blk_lt HEv0.out)).trans (blk_cell HEv0.out 0)
 have elk : ∀ q : Ext W0,(Instr.lookup 63 (.map (some a.cb)) (.int .i64 et) true).run Tryz.prog q.X = .ok (.tuple #[.pointer none,.bool false]) q.X := fun q => by
  have := ((HS0.out.cb (fun h => h)).1.of_block (q.h.block _ (HS0.out.fcb.2.2))).run_lookup kint Tryz.underlying63 (zcalled _) et true
  rw [Hmx.out] at this
  exact this
 have HW0 := Lib.hid hW0
 clear hW0 d14
 go_enter Tryz.func44,Tryz.ntmps44
 go_wp2_with fail
 rw [← HW0.out]
 refine wp_region_ext (by kernel_rfl) (by kernel_rfl) ?_
 repeat (go_big_quiet_step ((fail)))
 refine Ext.end_ fun X hX => ?_
 clear e14 eb elk
 have HS1 := Lib.hid (HS0.out.below hX (fun h => h) (fun h => h))
 have HE1 : Hid (X.heap[w.heap.size+1]? = some evBox) := Lib.hid ((hX.block _ (blk_lt HE0.out)).trans HE0.out)
 have HEv1 : Hid (X.heap[w.heap.size]? = some (.cells #[.int .i64 et,.int .u8 ek,.int .i64 en,.int .i64 es,.int .i64 ec,.int .i64 em] 51 (0,0))) := Lib.hid ((hX.block _ (blk_lt HEv0.out)).trans HEv0.out)
 have HWt1 : Hid (X.heap[w.heap.size+1+1]? = some (.cells #[.int .i64 0,.int .u8 0,.int .i64 et,.int .i64 0,.int .i64 0,.int .i64 0] 51 (0,0))) := Lib.hid ((hX.block _ (blk_lt HWt0.out)).trans HWt0.out)
 have HB1 : Hid (Below Bo w X) := Lib.hid (HB0.out.trans (hX.mono HS0.out.lo))
 have HX3 : Hid (w.heap.size+3≤X.heap.size) := Lib.hid (by have := hX.size; rw [HZ0.out] at this; exact this)
 clear hX
 have hnw : ∀ m : KX X (fun b => b = a.cb),m.X.cell? ⟨a.g,14,none⟩ = some (.map (some a.cb)) := fun m => (m.h.cell HS1.out.fst.2.2 (fun e => by have h1 := H.out.fst.1; rw [e,H.out.fcb.1] at h1; omega)).trans (blk_cell (HS1.out.st (fun h => h)) 14)
 have hnb : ∀ m : KX X (fun b => b = a.cb),m.X.cell? ⟨w.heap.size,0,none⟩ = some (.int .i64 et) := fun m => blk_cell (m.h.blk HEv1.out (blk_lt HEv1.out) (fun e => by have := H.out.fcb.2.2; omega)) 0
 go_wp2_with fail
 refine wp_region_reads_tail 7 (fun b => b = a.cb) (by kernel_rfl) (by kernel_rfl) (fun _ _ d _ _ h => by cases d <;> exact h) ?_
 simp only [List.take_succ_cons,List.take_zero,List.drop_succ_cons,List.drop_zero]
 repeat (go_big_quiet_step (fail))
 refine wpQuiet_nil ?_
 clear hnw hnb
 refine tailC_one rfl ?_
 go_wp2_with fail
 obtain ⟨V1,hV1⟩ : ∃ V1,V1 = (X.alloc (.cells #[.int .i64 0,.bool false] 133)).drew := ⟨_,rfl⟩
 have hb1 : Below X.heap.size X V1 := hV1 ▸ bel_drew (bel_alloc (Below.refl _ _) _)
 have HS2 := Lib.hid (HS1.out.below hb1 (fun h => h) (fun h => h))
 have HE2 : Hid (V1.heap[w.heap.size+1]? = some evBox) := Lib.hid ((hb1.block _ (blk_lt HE1.out)).trans HE1.out)
 have HEv2 : Hid (V1.heap[w.heap.size]? = some (.cells #[.int .i64 et,.int .u8 ek,.int .i64 en,.int .i64 es,.int .i64 ec,.int .i64 em] 51 (0,0))) := Lib.hid ((hb1.block _ (blk_lt HEv1.out)).trans HEv1.out)
 have HWt2 : Hid (V1.heap[w.heap.size+1+1]? = some (.cells #[.int .i64 0,.int .u8 0,.int .i64 et,.int .i64 0,.int .i64 0,.int .i64 0] 51 (0,0))) := Lib.hid ((hb1.block _ (blk_lt HWt1.out)).trans HWt1.out)
 have HB2 : Hid (Below Bo w V1) := Lib.hid (HB1.out.trans (hb1.mono HS1.out.lo))
 have HP2 : Hid (V1.heap[X.heap.size]? = some (.cells #[.int .i64 0,.bool false] 133 (0,0))) := Lib.hid (hV1 ▸ blk_new _ _)
 have HK1 : Hid (Kept X V1 (fun b => b = a.cb)) := Lib.hid (Kept.of_below hb1)
 rw [← hV1]
 clear hV1 hb1
 refine QT.normal ⟨by first | exact fun _ => KX.in_ HK1.out | exact KX.in_ HK1.out,?_⟩
 refine tailC_one rfl ?_
 go_wp2_with (at_mapUpdate; refine wpList_update_M (κ := Value.int .i64) (ν := ptrV) (b := a.cb) (m := x.m) rfl _ _ _ rfl (HS2.out.cb (fun h => h)).1 kint Tryz.underlying63 et X.heap.size rfl rfl rfl ?_; intro W3 hown hg')
 have hk3 : Kept V1 W3 (fun b => b = a.cb) := (Kept.of_only hg' rfl).mono fun b e => e.symm
 have hXl := HX3.out
 have HS3 := Lib.hid (HS2.out.newCall (fun t v h => (HI.out.cw t v h).1) (v' := (0,false)) ht (hk3.mono fun q e => by rw [e]; exact H.out.fcb.1) hown (hk3.blk HP2.out (blk_lt HP2.out) (fun e => by have := HS1.out.fcb.2.2; omega)) (Hφ3.out _ hXl) (by have := H.out.lo; omega))
 have HE3 : Hid (W3.heap[w.heap.size+1]? = some evBox) := Lib.hid (hk3.blk HE2.out (blk_lt HE2.out) (fun e => by have := H.out.fcb.2.2; omega))
 have HEv3 : Hid (W3.heap[w.heap.size]? = some (.cells #[.int .i64 et,.int .u8 ek,.int .i64 en,.int .i64 es,.int .i64 ec,.int .i64 em] 51 (0,0))) := Lib.hid (hk3.blk HEv2.out (blk_lt HEv2.out) (fun e => by have := H.out.fcb.2.2; omega))
 have HWt3 : Hid (W3.heap[w.heap.size+1+1]? = some (.cells #[.int .i64 0,.int .u8 0,.int .i64 et,.int .i64 0,.int .i64 0,.int .i64 0] 51 (0,0))) := Lib.hid (hk3.blk HWt2.out (blk_lt HWt2.out) (fun e => by have := H.out.fcb.2.2; omega))
 have HB3 : Hid (Below Bo w W3) := Lib.hid (HB2.out.trans (hk3.below HS2.out.lo (fun q e => by rw [e]; exact H.out.fcb.2.1)))
 clear hk3 hown hg'
 refine QT.normal (tailC_nil ?_)
 go_wp2_with fail
 have HZlt : Hid (w.heap.size+1+1≠w.heap.size+1) := Lib.hid (by omega)
 have z0 : ∀ n : KX W3 (fun q => q = w.heap.size+1),n.X.cell? ⟨w.heap.size+1+1,0,none⟩ = some (.int .i64 0) := fun n => blk_cell (n.h.blk HWt3.out (blk_lt HWt3.out) HZlt.out) 0
 have z1 : ∀ n : KX W3 (fun q => q = w.heap.size+1),n.X.cell? ⟨w.heap.size+1+1,1,none⟩ = some (.int .u8 0) := fun n => blk_cell (n.h.blk HWt3.out (blk_lt HWt3.out) HZlt.out) 1
 have z2 : ∀ n : KX W3 (fun q => q = w.heap.size+1),n.X.cell? ⟨w.heap.size+1+1,2,none⟩ = some (.int .i64 et) := fun n => blk_cell (n.h.blk HWt3.out (blk_lt HWt3.out) HZlt.out) 2
 have z3 : ∀ n : KX W3 (fun q => q = w.heap.size+1),n.X.cell? ⟨w.heap.size+1+1,3,none⟩ = some (.int .i64 0) := fun n => blk_cell (n.h.blk HWt3.out (blk_lt HWt3.out) HZlt.out) 3
 have z4 : ∀ n : KX W3 (fun q => q = w.heap.size+1),n.X.cell? ⟨w.heap.size+1+1,4,none⟩ = some (.int .i64 0) := fun n => blk_cell (n.h.blk HWt3.out (blk_lt HWt3.out) HZlt.out) 4
 have z5 : ∀ n : KX W3 (fun q => q = w.heap.size+1),n.X.cell? ⟨w.heap.size+1+1,5,none⟩ = some (.int .i64 0) := fun n => blk_cell (n.h.blk HWt3.out (blk_lt HWt3.out) HZlt.out) 5
 refine wp_region_reads_tail 1 (fun q => q = w.heap.size+1) (by kernel_rfl) (by kernel_rfl) (fun _ _ d _ _ h => by cases d <;> exact h) ?_
 simp only [List.take_succ_cons,List.take_zero,List.drop_succ_cons,List.drop_zero]
 repeat (go_big_quiet_step (fail))
 refine wpQuiet_nil ?_
 clear z0 z1 z2 z3 z4 z5
 have HKd : Hid (Kept W3 W3.drew (fun q => q = w.heap.size+1)) := Lib.hid (Kept.of_below (bel_drew (Below.refl _ _)))
 refine tailC_one rfl ?_
 go_wp2_with fail
 refine QT.normal ⟨by first | exact fun _ => KX.in_ HKd.out | exact KX.in_ HKd.out,?_⟩
 obtain ⟨X1,hX1⟩ : ∃ X1,X1 = W3.drew.setRow (w.heap.size+1) #[.int .i64 0,.int .u8 0,.int .i64 et,.int .i64 0,.int .i64 0,.int .i64 0] := ⟨_,rfl⟩
 have hXh : X1.heap[w.heap.size+1]? = some (.cells #[.int .i64 0,.int .u8 0,.int .i64 et,.int .i64 0,.int .i64 0,.int .i64 0] 51 (0,0)) := hX1 ▸ setRow_heap _ _ _ _ _ _ HE3.out
 have hXk : Kept W3 X1 (fun q => q = w.heap.size+1) := hX1 ▸ HKd.out.trans ⟨rfl,rfl,rfl,by simp [World.setRow],fun k _ hk => setRow_other _ _ _ _ hk⟩
 refine tailC_one rfl ?_
 refine wpList_store_row rfl 51 _ _ rfl (w.heap.size+1) #[.int .i64 0,.int .u8 0,.int .i64 et,.int .i64 0,.int .i64 0,.int .i64 0] rfl rfl 51 _ HE3.out (by kernel_rfl) rfl (ev_one _ _ _) ?_
 rw [← hX1]
 have HXk := Lib.hid hXk
 have HXh := Lib.hid hXh
 clear hX1 hXh hXk
 refine QT.normal ⟨by first | exact fun _ => KX.in_ HXk.out | exact KX.in_ HXk.out,?_⟩
 refine tailC_one rfl ?_
 go_wp2_with fail
 refine QT.normal ⟨by simp,?_⟩
 refine tailC_nil ?_
 have r0 : X1.cell? ⟨w.heap.size+1,0,none⟩ = some (.int .i64 0) := blk_cell HXh.out 0
 have r1 : X1.cell? ⟨w.heap.size+1,1,none⟩ = some (.int .u8 0) := blk_cell HXh.out 1
 have r2 : X1.cell? ⟨w.heap.size+1,2,none⟩ = some (.int .i64 et) := blk_cell HXh.out 2
 have r3 : X1.cell? ⟨w.heap.size+1,3,none⟩ = some (.int .i64 0) := blk_cell HXh.out 3
 have r4 : X1.cell? ⟨w.heap.size+1,4,none⟩ = some (.int .i64 0) := blk_cell HXh.out 4
 have r5 : X1.cell? ⟨w.heap.size+1,5,none⟩ = some (.int .i64 0) := blk_cell HXh.out 5
 have hBX : Below Bo w X1 := HB3.out.trans (HXk.out.below HS3.out.lo (fun q e => by rw [e]; have := H.out.lo; omega))
 have hSX := HS3.out.junk (HXk.out.mono fun q e => by rw [e]; exact Hφ2.out _ (by omega) (by omega))
 go_wp2_with fail
 refine bodyPost_ret (v := .tuple #[.int .u8 9,.agg #[.int .i64 0,.int .u8 0,.int .i64 et,.int .i64 0,.int .i64 0,.int .i64 0],.bool true]) (by simp [results,Tryz.results44,go_sem,r0,r1,r2,r3,r4,r5]) rfl ⟨φ0,_,by rw [HR.out]; rfl,Hφ1.out,by rw [HR.out]; exact hSX,hBX⟩
set_option maxHeartbeats 4000000 in
theorem callB_any (φ : Nat→Nat) (Bo : Nat) (c : Cfg) (rs rs' : List RTx) (by_ : List Int) (M k : Nat) (a : SA) (x : SG) (s : TS) (w : World) (et ek en es ec em : Int) (h0 : StAt w φ Bo c rs rs' by_ a x s) (hi : SInv c rs rs' M k s) (hc : c.ok = true) (hk : k≤4398046511104) (ht : et < 0) {v : Int × Bool} (hm : mget s.calls et = some v) (hv2 : v.2 = true) :
    Calls Tryz.prog 44 #[ptrV a.g,.agg #[.int .i64 et,.int .u8 ek,.int .i64 en,.int .i64 es,.int .i64 ec,.int .i64 em]] w (TaskEnd w φ Bo c rs rs' by_ a (s.call c ⟨et,ek,en,es,ec,em⟩)) := by
 obtain ⟨R,hR⟩ : ∃ R,R = s.call c ⟨et,ek,en,es,ec,em⟩ := ⟨_,rfl⟩
 rw [← hR]
 unfold TS.call at hR
 simp only at hR
 rw [hm] at hR
 have HR0 := Lib.hid hR
 obtain ⟨p,hp⟩ : ∃ p,mget x.m et = some p := by
  have := (h0.cb (fun h => h)).2 et
  cases hmx : mget x.m et with
  | none => rw [(this.2 hmx)] at hm; cases hm
  | some p => exact ⟨p,rfl⟩
 have Hmx := Lib.hid hp
 have Hm := Lib.hid hm
 have hvb := hi.cw et v hm
 unfold ptrV
 clear hR hm hp
 have HR : Hid (R = ((0,⟨0,0,et,0,0,0⟩,false),s)) := Lib.hid (by have := HR0.out; simp only [hv2,if_true] at this; exact this)
 clear HR0
 obtain ⟨φ0,hφ0⟩ : ∃ φ0 : Nat→Nat,φ0 = fun b => if b < w.heap.size then φ b else if b < w.heap.size+3 then 50 else 50 := ⟨_,rfl⟩
 have hφ1 : ∀ b,b < w.heap.size→φ0 b = φ b := fun b hb => by rw [hφ0]; simp only [if_pos hb]
 have h : StAt w φ0 Bo c rs rs' by_ a x s := h0.relabel hφ1
 have Hφ1 := Lib.hid hφ1
 have hφ2 : ∀ b,w.heap.size≤b→b < w.heap.size+3→φ0 b = 50 := fun b hb hb2 => by rw [hφ0]; simp only [if_neg (show ¬ b < w.heap.size by omega),if_pos hb2]
 have hφ3 : ∀ b,w.heap.size+3≤b→φ0 b = 50 := fun b hb => by rw [hφ0]; simp only [if_neg (show ¬ b < w.heap.size by omega),if_neg (show ¬ b < w.heap.size+3 by omega)]
 have Hφ2 := Lib.hid hφ2
 have Hφ3 := Lib.hid hφ3
 clear hφ2 hφ3 hφ0 hφ1 h0
 have H := Lib.hid h
 have HI := Lib.hid hi
 obtain ⟨W0,hW0⟩ : ∃ W0,W0 = ((w.alloc (.cells #[.int .i64 et,.int .u8 ek,.int .i64 en,.int .i64 es,.int .i64 ec,.int .i64 em] 51)).alloc (.cells #[.int .i64 0,.int .u8 0,.int .i64 0,.int .i64 0,.int .i64 0,.int .i64 0] 51)).alloc (.cells #[.int .i64 0,.int .u8 0,.int .i64 et,.int .i64 0,.int .i64 0,.int .i64 0] 51) := ⟨_,rfl⟩
 have hb0 : Below w.heap.size w W0 := hW0 ▸ bel_alloc (bel_alloc (bel_alloc (Below.refl _ _) _) _) _
 have hz0 : W0.heap.size = w.heap.size+3 := by rw [hW0]; simp
 have HEv0 : Hid (W0.heap[w.heap.size]? = some (.cells #[.int .i64 et,.int .u8 ek,.int .i64 en,.int .i64 es,.int .i64 ec,.int .i64 em] 51 (0,0))) := Lib.hid (by rw [hW0,Below.heap_alloc _ _ _ (by simp; omega),Below.heap_alloc _ _ _ (by simp)]; exact blk_new _ _)
 have HE0 : Hid (W0.heap[w.heap.size+1]? = some evBox) := Lib.hid (by rw [hW0,Below.heap_alloc _ _ _ (by simp)]; have := blk_new (w.alloc (.cells #[.int .i64 et,.int .u8 ek,.int .i64 en,.int .i64 es,.int .i64 ec,.int .i64 em] 51)) (.cells #[.int .i64 0,.int .u8 0,.int .i64 0,.int .i64 0,.int .i64 0,.int .i64 0] 51); simpa [evBox] using this)
 have HWt0 : Hid (W0.heap[w.heap.size+1+1]? = some (.cells #[.int .i64 0,.int .u8 0,.int .i64 et,.int .i64 0,.int .i64 0,.int .i64 0] 51 (0,0))) := Lib.hid (by rw [hW0]; have := blk_new ((w.alloc (.cells #[.int .i64 et,.int .u8 ek,.int .i64 en,.int .i64 es,.int .i64 ec,.int .i64 em] 51)).alloc (.cells #[.int .i64 0,.int .u8 0,.int .i64 0,.int .i64 0,.int .i64 0,.int .i64 0] 51)) (.cells #[.int .i64 0,.int .u8 0,.int .i64 et,.int .i64 0,.int .i64 0,.int .i64 0] 51); simpa using this)
 have HS0 := Lib.hid (h.below hb0 (fun h => h) (fun h => h))
 have HB0 : Hid (Below Bo w W0) := Lib.hid (hb0.mono h.lo)
 have HZ0 := Lib.hid hz0
 clear h hi hb0 hz0
 have d14 : W0.cell? ⟨a.g,14,none⟩ = some (.map (some a.cb)) := blk_cell (HS0.out.st (fun h => h)) 14
 have e14 : ∀ q : Ext W0,q.X.cell? ⟨a.g,14,none⟩ = some (.map (some a.cb)) := fun q => (q.h.cell (p := ⟨a.g,14,none⟩) HS0.out.fst.2.2).trans d14
 have eb : ∀ q : Ext W0,q.X.cell? ⟨w.heap.size,0,none⟩ = some (.int .i64 et) := fun q => (q.h.cell (p := ⟨w.heap.size,0,none⟩) (blk_lt HEv0.out)).trans (blk_cell HEv0.out 0)
 have elk : ∀ q : Ext W0,(Instr.lookup 63 (.map (some a.cb)) (.int .i64 et) true).run Tryz.prog q.X = .ok (.tuple #[.pointer (some ⟨p,0,none⟩),.bool true]) q.X := fun q => by
  have := ((HS0.out.cb (fun h => h)).1.of_block (q.h.block _ (HS0.out.fcb.2.2))).run_lookup kint Tryz.underlying63 (zcalled _) et true
  rw [Hmx.out] at this
  exact this
 have HW0 := Lib.hid hW0
 clear hW0 d14
 go_enter Tryz.func44,Tryz.ntmps44
 go_wp2_with fail
 rw [← HW0.out]
 refine wp_region_ext (by kernel_rfl) (by kernel_rfl) ?_
 repeat (go_big_quiet_step ((fail)))
 refine Ext.end_ fun X hX => ?_
 clear e14 eb elk
 have HS1 := Lib.hid (HS0.out.below hX (fun h => h) (fun h => h))
 have HE1 : Hid (X.heap[w.heap.size+1]? = some evBox) := Lib.hid ((hX.block _ (blk_lt HE0.out)).trans HE0.out)
 have HEv1 : Hid (X.heap[w.heap.size]? = some (.cells #[.int .i64 et,.int .u8 ek,.int .i64 en,.int .i64 es,.int .i64 ec,.int .i64 em] 51 (0,0))) := Lib.hid ((hX.block _ (blk_lt HEv0.out)).trans HEv0.out)
 have HWt1 : Hid (X.heap[w.heap.size+1+1]? = some (.cells #[.int .i64 0,.int .u8 0,.int .i64 et,.int .i64 0,.int .i64 0,.int .i64 0] 51 (0,0))) := Lib.hid ((hX.block _ (blk_lt HWt0.out)).trans HWt0.out)
 have HB1 : Hid (Below Bo w X) := Lib.hid (HB0.out.trans (hX.mono HS0.out.lo))
 have HX3 : Hid (w.heap.size+3≤X.heap.size) := Lib.hid (by have := hX.size; rw [HZ0.out] at this; exact this)
 clear hX
 have hpx := HS1.out.cw et p v Hmx.out Hm.out (fun h => h)
 have HPl : Hid (φ0 p = 101+2 * (-et).toNat∧Bo≤p) := Lib.hid hpx.2
 have HP1 : Hid (X.heap[p]? = some (.cells #[.int .i64 v.1,.bool v.2] 133 (0,0))) := Lib.hid hpx.1
 have hpn : ∀ b,w.heap.size≤b→b < w.heap.size+3→p≠b := fun b h1 h2 e => by have h3 := HPl.out.1; rw [e,Hφ2.out b h1 h2] at h3; omega
 have Hpn := Lib.hid hpn
 clear hpx hpn
 have p1 : X.cell? ⟨p,1,none⟩ = some (.bool v.2) := blk_cell HP1.out 1
 rw [hv2] at p1
 clear hv2
 go_wp2_with fail
 have HZlt : Hid (w.heap.size+1+1≠w.heap.size+1) := Lib.hid (by omega)
 have z0 : ∀ n : KX X (fun q => q = w.heap.size+1),n.X.cell? ⟨w.heap.size+1+1,0,none⟩ = some (.int .i64 0) := fun n => blk_cell (n.h.blk HWt1.out (blk_lt HWt1.out) HZlt.out) 0
 have z1 : ∀ n : KX X (fun q => q = w.heap.size+1),n.X.cell? ⟨w.heap.size+1+1,1,none⟩ = some (.int .u8 0) := fun n => blk_cell (n.h.blk HWt1.out (blk_lt HWt1.out) HZlt.out) 1
 have z2 : ∀ n : KX X (fun q => q = w.heap.size+1),n.X.cell? ⟨w.heap.size+1+1,2,none⟩ = some (.int .i64 et) := fun n => blk_cell (n.h.blk HWt1.out (blk_lt HWt1.out) HZlt.out) 2
 have z3 : ∀ n : KX X (fun q => q = w.heap.size+1),n.X.cell? ⟨w.heap.size+1+1,3,none⟩ = some (.int .i64 0) := fun n => blk_cell (n.h.blk HWt1.out (blk_lt HWt1.out) HZlt.out) 3
 have z4 : ∀ n : KX X (fun q => q = w.heap.size+1),n.X.cell? ⟨w.heap.size+1+1,4,none⟩ = some (.int .i64 0) := fun n => blk_cell (n.h.blk HWt1.out (blk_lt HWt1.out) HZlt.out) 4
 have z5 : ∀ n : KX X (fun q => q = w.heap.size+1),n.X.cell? ⟨w.heap.size+1+1,5,none⟩ = some (.int .i64 0) := fun n => blk_cell (n.h.blk HWt1.out (blk_lt HWt1.out) HZlt.out) 5
 refine wp_region_reads_tail 1 (fun q => q = w.heap.size+1) (by kernel_rfl) (by kernel_rfl) (fun _ _ d _ _ h => by cases d <;> exact h) ?_
 simp only [List.take_succ_cons,List.take_zero,List.drop_succ_cons,List.drop_zero]
 repeat (go_big_quiet_step (fail))
 refine wpQuiet_nil ?_
 clear z0 z1 z2 z3 z4 z5
 have HKd : Hid (Kept X X.drew (fun q => q = w.heap.size+1)) := Lib.hid (Kept.of_below (bel_drew (Below.refl _ _)))
 refine tailC_one rfl ?_
 go_wp2_with fail
 refine QT.normal ⟨by first | exact fun _ => KX.in_ HKd.out | exact KX.in_ HKd.out,?_⟩
 obtain ⟨X1,hX1⟩ : ∃ X1,X1 = X.drew.setRow (w.heap.size+1) #[.int .i64 0,.int .u8 0,.int .i64 et,.int .i64 0,.int .i64 0,.int .i64 0] := ⟨_,rfl⟩
 have hXh : X1.heap[w.heap.size+1]? = some (.cells #[.int .i64 0,.int .u8 0,.int .i64 et,.int .i64 0,.int .i64 0,.int .i64 0] 51 (0,0)) := hX1 ▸ setRow_heap _ _ _ _ _ _ HE1.out
 have hXk : Kept X X1 (fun q => q = w.heap.size+1) := hX1 ▸ HKd.out.trans ⟨rfl,rfl,rfl,by simp [World.setRow],fun k _ hk => setRow_other _ _ _ _ hk⟩
 refine tailC_one rfl ?_
 refine wpList_store_row rfl 51 _ _ rfl (w.heap.size+1) #[.int .i64 0,.int .u8 0,.int .i64 et,.int .i64 0,.int .i64 0,.int .i64 0] rfl rfl 51 _ HE1.out (by kernel_rfl) rfl (ev_one _ _ _) ?_
 rw [← hX1]
 have HXk := Lib.hid hXk
 have HXh := Lib.hid hXh
 clear hX1 hXh hXk
 refine QT.normal ⟨by first | exact fun _ => KX.in_ HXk.out | exact KX.in_ HXk.out,?_⟩
 refine tailC_one rfl ?_
 go_wp2_with fail
 refine QT.normal ⟨by simp,?_⟩
 refine tailC_nil ?_
 have r0 : X1.cell? ⟨w.heap.size+1,0,none⟩ = some (.int .i64 0) := blk_cell HXh.out 0
 have r1 : X1.cell? ⟨w.heap.size+1,1,none⟩ = some (.int .u8 0) := blk_cell HXh.out 1
 have r2 : X1.cell? ⟨w.heap.size+1,2,none⟩ = some (.int .i64 et) := blk_cell HXh.out 2
 have r3 : X1.cell? ⟨w.heap.size+1,3,none⟩ = some (.int .i64 0) := blk_cell HXh.out 3
 have r4 : X1.cell? ⟨w.heap.size+1,4,none⟩ = some (.int .i64 0) := blk_cell HXh.out 4
 have r5 : X1.cell? ⟨w.heap.size+1,5,none⟩ = some (.int .i64 0) := blk_cell HXh.out 5
 have hBX : Below Bo w X1 := HB1.out.trans (HXk.out.below HS1.out.lo (fun q e => by rw [e]; have := H.out.lo; omega))
 have hSX := HS1.out.junk (HXk.out.mono fun q e => by rw [e]; exact Hφ2.out _ (by omega) (by omega))
 go_wp2_with fail
 refine bodyPost_ret (v := .tuple #[.int .u8 0,.agg #[.int .i64 0,.int .u8 0,.int .i64 et,.int .i64 0,.int .i64 0,.int .i64 0],.bool false]) (by simp [results,Tryz.results44,go_sem,r0,r1,r2,r3,r4,r5]) rfl ⟨φ0,_,by rw [HR.out]; rfl,Hφ1.out,by rw [HR.out]; exact hSX,hBX⟩
set_option maxHeartbeats 4000000 in
theorem callF_any (φ : Nat→Nat) (Bo : Nat) (c : Cfg) (rs rs' : List RTx) (by_ : List Int) (M k : Nat) (a : SA) (x : SG) (s : TS) (w : World) (et ek en es ec em : Int) (h0 : StAt w φ Bo c rs rs' by_ a x s) (hi : SInv c rs rs' M k s) (hc : c.ok = true) (hk : k≤4398046511104) (ht : et < 0) {v : Int × Bool} (hm : mget s.calls et = some v) (hv2 : v.2 = false) (h10 : ¬ ek = 10) (h11 : ¬ ek = 11) (h12 : ¬ ek = 12) :
    Calls Tryz.prog 44 #[ptrV a.g,.agg #[.int .i64 et,.int .u8 ek,.int .i64 en,.int .i64 es,.int .i64 ec,.int .i64 em]] w (TaskEnd w φ Bo c rs rs' by_ a (s.call c ⟨et,ek,en,es,ec,em⟩)) := by
 obtain ⟨R,hR⟩ : ∃ R,R = s.call c ⟨et,ek,en,es,ec,em⟩ := ⟨_,rfl⟩
 rw [← hR]
 unfold TS.call at hR
 simp only at hR
 rw [hm] at hR
 have HR0 := Lib.hid hR
 obtain ⟨p,hp⟩ : ∃ p,mget x.m et = some p := by
  have := (h0.cb (fun h => h)).2 et
  cases hmx : mget x.m et with
  | none => rw [(this.2 hmx)] at hm; cases hm
  | some p => exact ⟨p,rfl⟩
 have Hmx := Lib.hid hp
 have Hm := Lib.hid hm
 have hvb := hi.cw et v hm
 unfold ptrV
 clear hR hm hp
 have HR : Hid (R = ((0,⟨0,0,et,0,0,0⟩,false),s)) := Lib.hid (by have := HR0.out; simp only [hv2,Bool.false_eq_true,if_false,if_neg h10,if_neg h11,if_neg h12] at this; exact this)
 clear HR0
 obtain ⟨φ0,hφ0⟩ : ∃ φ0 : Nat→Nat,φ0 = fun b => if b < w.heap.size then φ b else if b < w.heap.size+3 then 50 else 50 := ⟨_,rfl⟩
 have hφ1 : ∀ b,b < w.heap.size→φ0 b = φ b := fun b hb => by rw [hφ0]; simp only [if_pos hb]
 have h : StAt w φ0 Bo c rs rs' by_ a x s := h0.relabel hφ1
 have Hφ1 := Lib.hid hφ1
 have hφ2 : ∀ b,w.heap.size≤b→b < w.heap.size+3→φ0 b = 50 := fun b hb hb2 => by rw [hφ0]; simp only [if_neg (show ¬ b < w.heap.size by omega),if_pos hb2]
 have hφ3 : ∀ b,w.heap.size+3≤b→φ0 b = 50 := fun b hb => by rw [hφ0]; simp only [if_neg (show ¬ b < w.heap.size by omega),if_neg (show ¬ b < w.heap.size+3 by omega)]
 have Hφ2 := Lib.hid hφ2
 have Hφ3 := Lib.hid hφ3
 clear hφ2 hφ3 hφ0 hφ1 h0
 have H := Lib.hid h
 have HI := Lib.hid hi
 obtain ⟨W0,hW0⟩ : ∃ W0,W0 = ((w.alloc (.cells #[.int .i64 et,.int .u8 ek,.int .i64 en,.int .i64 es,.int .i64 ec,.int .i64 em] 51)).alloc (.cells #[.int .i64 0,.int .u8 0,.int .i64 0,.int .i64 0,.int .i64 0,.int .i64 0] 51)).alloc (.cells #[.int .i64 0,.int .u8 0,.int .i64 et,.int .i64 0,.int .i64 0,.int .i64 0] 51) := ⟨_,rfl⟩
 have hb0 : Below w.heap.size w W0 := hW0 ▸ bel_alloc (bel_alloc (bel_alloc (Below.refl _ _) _) _) _
 have hz0 : W0.heap.size = w.heap.size+3 := by rw [hW0]; simp
 have HEv0 : Hid (W0.heap[w.heap.size]? = some (.cells #[.int .i64 et,.int .u8 ek,.int .i64 en,.int .i64 es,.int .i64 ec,.int .i64 em] 51 (0,0))) := Lib.hid (by rw [hW0,Below.heap_alloc _ _ _ (by simp; omega),Below.heap_alloc _ _ _ (by simp)]; exact blk_new _ _)
 have HE0 : Hid (W0.heap[w.heap.size+1]? = some evBox) := Lib.hid (by rw [hW0,Below.heap_alloc _ _ _ (by simp)]; have := blk_new (w.alloc (.cells #[.int .i64 et,.int .u8 ek,.int .i64 en,.int .i64 es,.int .i64 ec,.int .i64 em] 51)) (.cells #[.int .i64 0,.int .u8 0,.int .i64 0,.int .i64 0,.int .i64 0,.int .i64 0] 51); simpa [evBox] using this)
 have HWt0 : Hid (W0.heap[w.heap.size+1+1]? = some (.cells #[.int .i64 0,.int .u8 0,.int .i64 et,.int .i64 0,.int .i64 0,.int .i64 0] 51 (0,0))) := Lib.hid (by rw [hW0]; have := blk_new ((w.alloc (.cells #[.int .i64 et,.int .u8 ek,.int .i64 en,.int .i64 es,.int .i64 ec,.int .i64 em] 51)).alloc (.cells #[.int .i64 0,.int .u8 0,.int .i64 0,.int .i64 0,.int .i64 0,.int .i64 0] 51)) (.cells #[.int .i64 0,.int .u8 0,.int .i64 et,.int .i64 0,.int .i64 0,.int .i64 0] 51); simpa using this)
 have HS0 := Lib.hid (h.below hb0 (fun h => h) (fun h => h))
 have HB0 : Hid (Below Bo w W0) := Lib.hid (hb0.mono h.lo)
 have HZ0 := Lib.hid hz0
 clear h hi hb0 hz0
 have HE_ : Hid (v.2 = false) := Lib.hid hv2
 have d14 : W0.cell? ⟨a.g,14,none⟩ = some (.map (some a.cb)) := blk_cell (HS0.out.st (fun h => h)) 14
 have e14 : ∀ q : Ext W0,q.X.cell? ⟨a.g,14,none⟩ = some (.map (some a.cb)) := fun q => (q.h.cell (p := ⟨a.g,14,none⟩) HS0.out.fst.2.2).trans d14
 have eb : ∀ q : Ext W0,q.X.cell? ⟨w.heap.size,0,none⟩ = some (.int .i64 et) := fun q => (q.h.cell (p := ⟨w.heap.size,0,none⟩) (blk_lt HEv0.out)).trans (blk_cell HEv0.out 0)
 have elk : ∀ q : Ext W0,(Instr.lookup 63 (.map (some a.cb)) (.int .i64 et) true).run Tryz.prog q.X = .ok (.tuple #[.pointer (some ⟨p,0,none⟩),.bool true]) q.X := fun q => by
  have := ((HS0.out.cb (fun h => h)).1.of_block (q.h.block _ (HS0.out.fcb.2.2))).run_lookup kint Tryz.underlying63 (zcalled _) et true
  rw [Hmx.out] at this
  exact this
 have HW0 := Lib.hid hW0
 clear hW0 d14
 go_enter Tryz.func44,Tryz.ntmps44
 go_wp2_with fail
 rw [← HW0.out]
 refine wp_region_ext (by kernel_rfl) (by kernel_rfl) ?_
 repeat (go_big_quiet_step ((fail)))
 refine Ext.end_ fun X hX => ?_
 clear e14 eb elk
 have HS1 := Lib.hid (HS0.out.below hX (fun h => h) (fun h => h))
 have HE1 : Hid (X.heap[w.heap.size+1]? = some evBox) := Lib.hid ((hX.block _ (blk_lt HE0.out)).trans HE0.out)
 have HEv1 : Hid (X.heap[w.heap.size]? = some (.cells #[.int .i64 et,.int .u8 ek,.int .i64 en,.int .i64 es,.int .i64 ec,.int .i64 em] 51 (0,0))) := Lib.hid ((hX.block _ (blk_lt HEv0.out)).trans HEv0.out)
 have HWt1 : Hid (X.heap[w.heap.size+1+1]? = some (.cells #[.int .i64 0,.int .u8 0,.int .i64 et,.int .i64 0,.int .i64 0,.int .i64 0] 51 (0,0))) := Lib.hid ((hX.block _ (blk_lt HWt0.out)).trans HWt0.out)
 have HB1 : Hid (Below Bo w X) := Lib.hid (HB0.out.trans (hX.mono HS0.out.lo))
 have HX3 : Hid (w.heap.size+3≤X.heap.size) := Lib.hid (by have := hX.size; rw [HZ0.out] at this; exact this)
 clear hX
 have hpx := HS1.out.cw et p v Hmx.out Hm.out (fun h => h)
 have HPl : Hid (φ0 p = 101+2 * (-et).toNat∧Bo≤p) := Lib.hid hpx.2
 have HP1 : Hid (X.heap[p]? = some (.cells #[.int .i64 v.1,.bool v.2] 133 (0,0))) := Lib.hid hpx.1
 have hpn : ∀ b,w.heap.size≤b→b < w.heap.size+3→p≠b := fun b h1 h2 e => by have h3 := HPl.out.1; rw [e,Hφ2.out b h1 h2] at h3; omega
 have Hpn := Lib.hid hpn
 clear hpx hpn
 have p1 : X.cell? ⟨p,1,none⟩ = some (.bool v.2) := blk_cell HP1.out 1
 rw [hv2] at p1
 have b1 : X.cell? ⟨w.heap.size,1,none⟩ = some (.int .u8 ek) := blk_cell HEv1.out 1
 clear hv2
 go_wp2_with fail
 have HZlt : Hid (w.heap.size+1+1≠w.heap.size+1) := Lib.hid (by omega)
 have z0 : ∀ n : KX X (fun q => q = w.heap.size+1),n.X.cell? ⟨w.heap.size+1+1,0,none⟩ = some (.int .i64 0) := fun n => blk_cell (n.h.blk HWt1.out (blk_lt HWt1.out) HZlt.out) 0
 have z1 : ∀ n : KX X (fun q => q = w.heap.size+1),n.X.cell? ⟨w.heap.size+1+1,1,none⟩ = some (.int .u8 0) := fun n => blk_cell (n.h.blk HWt1.out (blk_lt HWt1.out) HZlt.out) 1
 have z2 : ∀ n : KX X (fun q => q = w.heap.size+1),n.X.cell? ⟨w.heap.size+1+1,2,none⟩ = some (.int .i64 et) := fun n => blk_cell (n.h.blk HWt1.out (blk_lt HWt1.out) HZlt.out) 2
 have z3 : ∀ n : KX X (fun q => q = w.heap.size+1),n.X.cell? ⟨w.heap.size+1+1,3,none⟩ = some (.int .i64 0) := fun n => blk_cell (n.h.blk HWt1.out (blk_lt HWt1.out) HZlt.out) 3
 have z4 : ∀ n : KX X (fun q => q = w.heap.size+1),n.X.cell? ⟨w.heap.size+1+1,4,none⟩ = some (.int .i64 0) := fun n => blk_cell (n.h.blk HWt1.out (blk_lt HWt1.out) HZlt.out) 4
 have z5 : ∀ n : KX X (fun q => q = w.heap.size+1),n.X.cell? ⟨w.heap.size+1+1,5,none⟩ = some (.int .i64 0) := fun n => blk_cell (n.h.blk HWt1.out (blk_lt HWt1.out) HZlt.out) 5
 refine wp_region_reads_tail 1 (fun q => q = w.heap.size+1) (by kernel_rfl) (by kernel_rfl) (fun _ _ d _ _ h => by cases d <;> exact h) ?_
 simp only [List.take_succ_cons,List.take_zero,List.drop_succ_cons,List.drop_zero]
 repeat (go_big_quiet_step (fail))
 refine wpQuiet_nil ?_
 clear z0 z1 z2 z3 z4 z5
 have HKd : Hid (Kept X X.drew (fun q => q = w.heap.size+1)) := Lib.hid (Kept.of_below (bel_drew (Below.refl _ _)))
 refine tailC_one rfl ?_
 go_wp2_with fail
 refine QT.normal ⟨by first | exact fun _ => KX.in_ HKd.out | exact KX.in_ HKd.out,?_⟩
 obtain ⟨X1,hX1⟩ : ∃ X1,X1 = X.drew.setRow (w.heap.size+1) #[.int .i64 0,.int .u8 0,.int .i64 et,.int .i64 0,.int .i64 0,.int .i64 0] := ⟨_,rfl⟩
 have hXh : X1.heap[w.heap.size+1]? = some (.cells #[.int .i64 0,.int .u8 0,.int .i64 et,.int .i64 0,.int .i64 0,.int .i64 0] 51 (0,0)) := hX1 ▸ setRow_heap _ _ _ _ _ _ HE1.out
 have hXk : Kept X X1 (fun q => q = w.heap.size+1) := hX1 ▸ HKd.out.trans ⟨rfl,rfl,rfl,by simp [World.setRow],fun k _ hk => setRow_other _ _ _ _ hk⟩
 refine tailC_one rfl ?_
 refine wpList_store_row rfl 51 _ _ rfl (w.heap.size+1) #[.int .i64 0,.int .u8 0,.int .i64 et,.int .i64 0,.int .i64 0,.int .i64 0] rfl rfl 51 _ HE1.out (by kernel_rfl) rfl (ev_one _ _ _) ?_
 rw [← hX1]
 have HXk := Lib.hid hXk
 have HXh := Lib.hid hXh
 clear hX1 hXh hXk
 refine QT.normal ⟨by first | exact fun _ => KX.in_ HXk.out | exact KX.in_ HXk.out,?_⟩
 refine tailC_one rfl ?_
 go_wp2_with fail
 refine QT.normal ⟨by simp,?_⟩
 refine tailC_nil ?_
 have r0 : X1.cell? ⟨w.heap.size+1,0,none⟩ = some (.int .i64 0) := blk_cell HXh.out 0
 have r1 : X1.cell? ⟨w.heap.size+1,1,none⟩ = some (.int .u8 0) := blk_cell HXh.out 1
 have r2 : X1.cell? ⟨w.heap.size+1,2,none⟩ = some (.int .i64 et) := blk_cell HXh.out 2
 have r3 : X1.cell? ⟨w.heap.size+1,3,none⟩ = some (.int .i64 0) := blk_cell HXh.out 3
 have r4 : X1.cell? ⟨w.heap.size+1,4,none⟩ = some (.int .i64 0) := blk_cell HXh.out 4
 have r5 : X1.cell? ⟨w.heap.size+1,5,none⟩ = some (.int .i64 0) := blk_cell HXh.out 5
 have hBX : Below Bo w X1 := HB1.out.trans (HXk.out.below HS1.out.lo (fun q e => by rw [e]; have := H.out.lo; omega))
 have hSX := HS1.out.junk (HXk.out.mono fun q e => by rw [e]; exact Hφ2.out _ (by omega) (by omega))
 go_wp2_with fail
 refine bodyPost_ret (v := .tuple #[.int .u8 0,.agg #[.int .i64 0,.int .u8 0,.int .i64 et,.int .i64 0,.int .i64 0,.int .i64 0],.bool false]) (by simp [results,Tryz.results44,go_sem,r0,r1,r2,r3,r4,r5]) rfl ⟨φ0,_,by rw [HR.out]; rfl,Hφ1.out,by rw [HR.out]; exact hSX,hBX⟩
set_option maxHeartbeats 4000000 in
theorem callE_any (φ : Nat→Nat) (Bo : Nat) (c : Cfg) (rs rs' : List RTx) (by_ : List Int) (M k : Nat) (a : SA) (x : SG) (s : TS) (w : World) (et ek en es ec em : Int) (h0 : StAt w φ Bo c rs rs' by_ a x s) (hi : SInv c rs rs' M k s) (hc : c.ok = true) (hk : k≤4398046511104) (ht : et < 0) {v : Int × Bool} (hm : mget s.calls et = some v) (hv2 : v.2 = false) (h12 : ek = 12) :
    Calls Tryz.prog 44 #[ptrV a.g,.agg #[.int .i64 et,.int .u8 ek,.int .i64 en,.int .i64 es,.int .i64 ec,.int .i64 em]] w (TaskEnd w φ Bo c rs rs' by_ a (s.call c ⟨et,ek,en,es,ec,em⟩)) := by
 subst h12
 obtain ⟨R,hR⟩ : ∃ R,R = s.call c ⟨et,12,en,es,ec,em⟩ := ⟨_,rfl⟩
 rw [← hR]
 unfold TS.call at hR
 simp only at hR
 rw [hm] at hR
 have HR0 := Lib.hid hR
 obtain ⟨p,hp⟩ : ∃ p,mget x.m et = some p := by
  have := (h0.cb (fun h => h)).2 et
  cases hmx : mget x.m et with
  | none => rw [(this.2 hmx)] at hm; cases hm
  | some p => exact ⟨p,rfl⟩
 have Hmx := Lib.hid hp
 have Hm := Lib.hid hm
 have hvb := hi.cw et v hm
 unfold ptrV
 clear hR hm hp

 have HR : Hid (R = ((12,⟨0,0,et,0,0,0⟩,decide (v.1 = 0)),{ s with calls := mput s.calls et (v.1,true) })) := Lib.hid (by have := HR0.out; simp only [hv2,Bool.false_eq_true,if_false,if_true] at this; simpa using this)
 clear HR0
 obtain ⟨φ0,hφ0⟩ : ∃ φ0 : Nat→Nat,φ0 = fun b => if b < w.heap.size then φ b else if b < w.heap.size+3 then 50 else 50 := ⟨_,rfl⟩
 have hφ1 : ∀ b,b < w.heap.size→φ0 b = φ b := fun b hb => by rw [hφ0]; simp only [if_pos hb]
 have h : StAt w φ0 Bo c rs rs' by_ a x s := h0.relabel hφ1
 have Hφ1 := Lib.hid hφ1
 have hφ2 : ∀ b,w.heap.size≤b→b < w.heap.size+3→φ0 b = 50 := fun b hb hb2 => by rw [hφ0]; simp only [if_neg (show ¬ b < w.heap.size by omega),if_pos hb2]
 have hφ3 : ∀ b,w.heap.size+3≤b→φ0 b = 50 := fun b hb => by rw [hφ0]; simp only [if_neg (show ¬ b < w.heap.size by omega),if_neg (show ¬ b < w.heap.size+3 by omega)]
 have Hφ2 := Lib.hid hφ2
 have Hφ3 := Lib.hid hφ3
 clear hφ2 hφ3 hφ0 hφ1 h0
 have H := Lib.hid h
 have HI := Lib.hid hi
 obtain ⟨W0,hW0⟩ : ∃ W0,W0 = ((w.alloc (.cells #[.int .i64 et,.int .u8 12,.int .i64 en,.int .i64 es,.int .i64 ec,.int .i64 em] 51)).alloc (.cells #[.int .i64 0,.int .u8 0,.int .i64 0,.int .i64 0,.int .i64 0,.int .i64 0] 51)).alloc (.cells #[.int .i64 0,.int .u8 0,.int .i64 et,.int .i64 0,.int .i64 0,.int .i64 0] 51) := ⟨_,rfl⟩
 have hb0 : Below w.heap.size w W0 := hW0 ▸ bel_alloc (bel_alloc (bel_alloc (Below.refl _ _) _) _) _
 have hz0 : W0.heap.size = w.heap.size+3 := by rw [hW0]; simp
 have HEv0 : Hid (W0.heap[w.heap.size]? = some (.cells #[.int .i64 et,.int .u8 12,.int .i64 en,.int .i64 es,.int .i64 ec,.int .i64 em] 51 (0,0))) := Lib.hid (by rw [hW0,Below.heap_alloc _ _ _ (by simp; omega),Below.heap_alloc _ _ _ (by simp)]; exact blk_new _ _)
 have HE0 : Hid (W0.heap[w.heap.size+1]? = some evBox) := Lib.hid (by rw [hW0,Below.heap_alloc _ _ _ (by simp)]; have := blk_new (w.alloc (.cells #[.int .i64 et,.int .u8 12,.int .i64 en,.int .i64 es,.int .i64 ec,.int .i64 em] 51)) (.cells #[.int .i64 0,.int .u8 0,.int .i64 0,.int .i64 0,.int .i64 0,.int .i64 0] 51); simpa [evBox] using this)
 have HWt0 : Hid (W0.heap[w.heap.size+1+1]? = some (.cells #[.int .i64 0,.int .u8 0,.int .i64 et,.int .i64 0,.int .i64 0,.int .i64 0] 51 (0,0))) := Lib.hid (by rw [hW0]; have := blk_new ((w.alloc (.cells #[.int .i64 et,.int .u8 12,.int .i64 en,.int .i64 es,.int .i64 ec,.int .i64 em] 51)).alloc (.cells #[.int .i64 0,.int .u8 0,.int .i64 0,.int .i64 0,.int .i64 0,.int .i64 0] 51)) (.cells #[.int .i64 0,.int .u8 0,.int .i64 et,.int .i64 0,.int .i64 0,.int .i64 0] 51); simpa using this)
 have HS0 := Lib.hid (h.below hb0 (fun h => h) (fun h => h))
 have HB0 : Hid (Below Bo w W0) := Lib.hid (hb0.mono h.lo)
 have HZ0 := Lib.hid hz0
 clear h hi hb0 hz0
 have HE_ : Hid (v.2 = false) := Lib.hid hv2
 have d14 : W0.cell? ⟨a.g,14,none⟩ = some (.map (some a.cb)) := blk_cell (HS0.out.st (fun h => h)) 14
 have e14 : ∀ q : Ext W0,q.X.cell? ⟨a.g,14,none⟩ = some (.map (some a.cb)) := fun q => (q.h.cell (p := ⟨a.g,14,none⟩) HS0.out.fst.2.2).trans d14
 have eb : ∀ q : Ext W0,q.X.cell? ⟨w.heap.size,0,none⟩ = some (.int .i64 et) := fun q => (q.h.cell (p := ⟨w.heap.size,0,none⟩) (blk_lt HEv0.out)).trans (blk_cell HEv0.out 0)
 have elk : ∀ q : Ext W0,(Instr.lookup 63 (.map (some a.cb)) (.int .i64 et) true).run Tryz.prog q.X = .ok (.tuple #[.pointer (some ⟨p,0,none⟩),.bool true]) q.X := fun q => by
  have := ((HS0.out.cb (fun h => h)).1.of_block (q.h.block _ (HS0.out.fcb.2.2))).run_lookup kint Tryz.underlying63 (zcalled _) et true
  rw [Hmx.out] at this
  exact this
 have HW0 := Lib.hid hW0
 clear hW0 d14
 go_enter Tryz.func44,Tryz.ntmps44
 go_wp2_with fail
 rw [← HW0.out]
 refine wp_region_ext (by kernel_rfl) (by kernel_rfl) ?_
 repeat (go_big_quiet_step ((fail)))
 refine Ext.end_ fun X hX => ?_
 clear e14 eb elk
 have HS1 := Lib.hid (HS0.out.below hX (fun h => h) (fun h => h))
 have HE1 : Hid (X.heap[w.heap.size+1]? = some evBox) := Lib.hid ((hX.block _ (blk_lt HE0.out)).trans HE0.out)
 have HEv1 : Hid (X.heap[w.heap.size]? = some (.cells #[.int .i64 et,.int .u8 12,.int .i64 en,.int .i64 es,.int .i64 ec,.int .i64 em] 51 (0,0))) := Lib.hid ((hX.block _ (blk_lt HEv0.out)).trans HEv0.out)
 have HWt1 : Hid (X.heap[w.heap.size+1+1]? = some (.cells #[.int .i64 0,.int .u8 0,.int .i64 et,.int .i64 0,.int .i64 0,.int .i64 0] 51 (0,0))) := Lib.hid ((hX.block _ (blk_lt HWt0.out)).trans HWt0.out)
 have HB1 : Hid (Below Bo w X) := Lib.hid (HB0.out.trans (hX.mono HS0.out.lo))
 have HX3 : Hid (w.heap.size+3≤X.heap.size) := Lib.hid (by have := hX.size; rw [HZ0.out] at this; exact this)
 clear hX
 have hpx := HS1.out.cw et p v Hmx.out Hm.out (fun h => h)
 have HPl : Hid (φ0 p = 101+2 * (-et).toNat∧Bo≤p) := Lib.hid hpx.2
 have HP1 : Hid (X.heap[p]? = some (.cells #[.int .i64 v.1,.bool v.2] 133 (0,0))) := Lib.hid hpx.1
 have hpn : ∀ b,w.heap.size≤b→b < w.heap.size+3→p≠b := fun b h1 h2 e => by have h3 := HPl.out.1; rw [e,Hφ2.out b h1 h2] at h3; omega
 have Hpn := Lib.hid hpn
 clear hpx hpn
 have p1 : X.cell? ⟨p,1,none⟩ = some (.bool v.2) := blk_cell HP1.out 1
 rw [hv2] at p1
 have b1 : X.cell? ⟨w.heap.size,1,none⟩ = some (.int .u8 12) := blk_cell HEv1.out 1
 clear hv2
 have pf : X.frozen? ⟨p,1,none⟩ = false := blk_frozen HP1.out 1
 obtain ⟨W3,hW3⟩ : ∃ W3,W3 = X.setCell ⟨p,1,none⟩ (.bool true) := ⟨_,rfl⟩
 have hk3 : Kept X W3 (fun q => q = p) := hW3 ▸ (Kept.refl X (fun q => q = p)).setCell (p := ⟨p,1,none⟩) (Or.inl rfl) _
 have HS3 := Lib.hid (HS1.out.setCalled (fun t v h => (HI.out.cw t v h).1) (v' := (v.1,true)) Hmx.out Hm.out hk3 (by rw [hW3]; exact blk_set HP1.out 1 _))
 have HP3 : Hid (W3.heap[p]? = some (.cells #[.int .i64 v.1,.bool true] 133 (0,0))) := Lib.hid (by rw [hW3]; exact blk_set HP1.out 1 _)
 have HE3 : Hid (W3.heap[w.heap.size+1]? = some evBox) := Lib.hid (hk3.blk HE1.out (blk_lt HE1.out) (fun e => Hpn.out _ (by omega) (by omega) e.symm))
 have HEv3 : Hid (W3.heap[w.heap.size]? = some (.cells #[.int .i64 et,.int .u8 12,.int .i64 en,.int .i64 es,.int .i64 ec,.int .i64 em] 51 (0,0))) := Lib.hid (hk3.blk HEv1.out (blk_lt HEv1.out) (fun e => Hpn.out _ (by omega) (by omega) e.symm))
 have HWt3 : Hid (W3.heap[w.heap.size+1+1]? = some (.cells #[.int .i64 0,.int .u8 0,.int .i64 et,.int .i64 0,.int .i64 0,.int .i64 0] 51 (0,0))) := Lib.hid (hk3.blk HWt1.out (blk_lt HWt1.out) (fun e => Hpn.out _ (by omega) (by omega) e.symm))
 have HB3 : Hid (Below Bo w W3) := Lib.hid (HB1.out.trans (hk3.below HS1.out.lo (fun q e => by rw [e]; exact HPl.out.2)))
 clear hk3
 go_wp2_with fail
 rw [← hW3]
 clear hW3 p1 pf b1
 have y0 : ∀ n : KX W3 (fun q => q = w.heap.size+1),n.X.cell? ⟨p,0,none⟩ = some (.int .i64 v.1) := fun n => blk_cell (n.h.blk HP3.out (blk_lt HP3.out) (Hpn.out _ (by omega) (by omega))) 0
 have y1 : ∀ n : KX W3 (fun q => q = w.heap.size+1),n.X.cell? ⟨w.heap.size,1,none⟩ = some (.int .u8 12) := fun n => blk_cell (n.h.blk HEv3.out (blk_lt HEv3.out) (by omega)) 1
 obtain ⟨bo,hbo⟩ : ∃ bo,bo = (v.1 == 0) := ⟨_,rfl⟩
 have HZlt : Hid (w.heap.size+1+1≠w.heap.size+1) := Lib.hid (by omega)
 have z0 : ∀ n : KX W3 (fun q => q = w.heap.size+1),n.X.cell? ⟨w.heap.size+1+1,0,none⟩ = some (.int .i64 0) := fun n => blk_cell (n.h.blk HWt3.out (blk_lt HWt3.out) HZlt.out) 0
 have z1 : ∀ n : KX W3 (fun q => q = w.heap.size+1),n.X.cell? ⟨w.heap.size+1+1,1,none⟩ = some (.int .u8 0) := fun n => blk_cell (n.h.blk HWt3.out (blk_lt HWt3.out) HZlt.out) 1
 have z2 : ∀ n : KX W3 (fun q => q = w.heap.size+1),n.X.cell? ⟨w.heap.size+1+1,2,none⟩ = some (.int .i64 et) := fun n => blk_cell (n.h.blk HWt3.out (blk_lt HWt3.out) HZlt.out) 2
 have z3 : ∀ n : KX W3 (fun q => q = w.heap.size+1),n.X.cell? ⟨w.heap.size+1+1,3,none⟩ = some (.int .i64 0) := fun n => blk_cell (n.h.blk HWt3.out (blk_lt HWt3.out) HZlt.out) 3
 have z4 : ∀ n : KX W3 (fun q => q = w.heap.size+1),n.X.cell? ⟨w.heap.size+1+1,4,none⟩ = some (.int .i64 0) := fun n => blk_cell (n.h.blk HWt3.out (blk_lt HWt3.out) HZlt.out) 4
 have z5 : ∀ n : KX W3 (fun q => q = w.heap.size+1),n.X.cell? ⟨w.heap.size+1+1,5,none⟩ = some (.int .i64 0) := fun n => blk_cell (n.h.blk HWt3.out (blk_lt HWt3.out) HZlt.out) 5
 refine wp_region_reads_tail 8 (fun q => q = w.heap.size+1) (by kernel_rfl) (by kernel_rfl) (fun _ _ d _ _ h => by cases d <;> exact h) ?_
 simp only [List.take_succ_cons,List.take_zero,List.drop_succ_cons,List.drop_zero]
 repeat (go_big_quiet_step (fail))
 refine wpQuiet_nil ?_
 clear y0 y1 z0 z1 z2 z3 z4 z5
 have HKd : Hid (Kept W3 W3.drew (fun q => q = w.heap.size+1)) := Lib.hid (Kept.of_below (bel_drew (Below.refl _ _)))
 refine tailC_one rfl ?_
 go_wp2_with fail
 refine QT.normal ⟨by first | exact fun _ => KX.in_ HKd.out | exact KX.in_ HKd.out,?_⟩
 obtain ⟨X1,hX1⟩ : ∃ X1,X1 = W3.drew.setRow (w.heap.size+1) #[.int .i64 0,.int .u8 0,.int .i64 et,.int .i64 0,.int .i64 0,.int .i64 0] := ⟨_,rfl⟩
 have hXh : X1.heap[w.heap.size+1]? = some (.cells #[.int .i64 0,.int .u8 0,.int .i64 et,.int .i64 0,.int .i64 0,.int .i64 0] 51 (0,0)) := hX1 ▸ setRow_heap _ _ _ _ _ _ HE3.out
 have hXk : Kept W3 X1 (fun q => q = w.heap.size+1) := hX1 ▸ HKd.out.trans ⟨rfl,rfl,rfl,by simp [World.setRow],fun k _ hk => setRow_other _ _ _ _ hk⟩
 refine tailC_one rfl ?_
 refine wpList_store_row rfl 51 _ _ rfl (w.heap.size+1) #[.int .i64 0,.int .u8 0,.int .i64 et,.int .i64 0,.int .i64 0,.int .i64 0] rfl rfl 51 _ HE3.out (by kernel_rfl) rfl (ev_one _ _ _) ?_
 rw [← hX1]
 have HXk := Lib.hid hXk
 have HXh := Lib.hid hXh
 clear hX1 hXh hXk
 refine QT.normal ⟨by first | exact fun _ => KX.in_ HXk.out | exact KX.in_ HXk.out,?_⟩
 refine tailC_one rfl ?_
 go_wp2_with fail
 refine QT.normal ⟨by simp,?_⟩
 refine tailC_nil ?_
 have r0 : X1.cell? ⟨w.heap.size+1,0,none⟩ = some (.int .i64 0) := blk_cell HXh.out 0
 have r1 : X1.cell? ⟨w.heap.size+1,1,none⟩ = some (.int .u8 0) := blk_cell HXh.out 1
 have r2 : X1.cell? ⟨w.heap.size+1,2,none⟩ = some (.int .i64 et) := blk_cell HXh.out 2
 have r3 : X1.cell? ⟨w.heap.size+1,3,none⟩ = some (.int .i64 0) := blk_cell HXh.out 3
 have r4 : X1.cell? ⟨w.heap.size+1,4,none⟩ = some (.int .i64 0) := blk_cell HXh.out 4
 have r5 : X1.cell? ⟨w.heap.size+1,5,none⟩ = some (.int .i64 0) := blk_cell HXh.out 5
 have hBX : Below Bo w X1 := HB3.out.trans (HXk.out.below HS3.out.lo (fun q e => by rw [e]; have := H.out.lo; omega))
 have hSX := HS3.out.junk (HXk.out.mono fun q e => by rw [e]; exact Hφ2.out _ (by omega) (by omega))
 go_wp2_with fail
 refine bodyPost_ret (v := .tuple #[.int .u8 12,.agg #[.int .i64 0,.int .u8 0,.int .i64 et,.int .i64 0,.int .i64 0,.int .i64 0],.bool (v.1 == 0)]) (by simp [results,Tryz.results44,go_sem,r0,r1,r2,r3,r4,r5]) rfl ⟨φ0,_,by rw [HR.out]; simp [Ev.v]; rfl,Hφ1.out,by rw [HR.out]; exact hSX,hBX⟩
set_option maxHeartbeats 4000000 in
theorem callD_any (φ : Nat→Nat) (Bo : Nat) (c : Cfg) (rs rs' : List RTx) (by_ : List Int) (M k : Nat) (a : SA) (x : SG) (s : TS) (w : World) (et ek en es ec em : Int) (h0 : StAt w φ Bo c rs rs' by_ a x s) (hi : SInv c rs rs' M k s) (hc : c.ok = true) (hk : k≤4398046511104) (ht : et < 0) {v : Int × Bool} (hm : mget s.calls et = some v) (hv2 : v.2 = false) (h11 : ek = 11) :
    Calls Tryz.prog 44 #[ptrV a.g,.agg #[.int .i64 et,.int .u8 ek,.int .i64 en,.int .i64 es,.int .i64 ec,.int .i64 em]] w (TaskEnd w φ Bo c rs rs' by_ a (s.call c ⟨et,ek,en,es,ec,em⟩)) := by
 subst h11
 obtain ⟨R,hR⟩ : ∃ R,R = s.call c ⟨et,11,en,es,ec,em⟩ := ⟨_,rfl⟩
 rw [← hR]
 unfold TS.call at hR
 simp only at hR
 rw [hm] at hR
 have HR0 := Lib.hid hR
 obtain ⟨p,hp⟩ : ∃ p,mget x.m et = some p := by
  have := (h0.cb (fun h => h)).2 et
  cases hmx : mget x.m et with
  | none => rw [(this.2 hmx)] at hm; cases hm
  | some p => exact ⟨p,rfl⟩
 have Hmx := Lib.hid hp
 have Hm := Lib.hid hm
 have hvb := hi.cw et v hm
 unfold ptrV
 clear hR hm hp
 have HR : Hid (R = ((11,⟨0,0,et,0,ec,0⟩,decide (0≤ec) && decide (v.1 = 0)),s)) := Lib.hid (by have := HR0.out; simp only [hv2,Bool.false_eq_true,if_false,if_true] at this; simpa using this)
 clear HR0
 obtain ⟨φ0,hφ0⟩ : ∃ φ0 : Nat→Nat,φ0 = fun b => if b < w.heap.size then φ b else if b < w.heap.size+3 then 50 else 50 := ⟨_,rfl⟩
 have hφ1 : ∀ b,b < w.heap.size→φ0 b = φ b := fun b hb => by rw [hφ0]; simp only [if_pos hb]
 have h : StAt w φ0 Bo c rs rs' by_ a x s := h0.relabel hφ1
 have Hφ1 := Lib.hid hφ1
 have hφ2 : ∀ b,w.heap.size≤b→b < w.heap.size+3→φ0 b = 50 := fun b hb hb2 => by rw [hφ0]; simp only [if_neg (show ¬ b < w.heap.size by omega),if_pos hb2]
 have hφ3 : ∀ b,w.heap.size+3≤b→φ0 b = 50 := fun b hb => by rw [hφ0]; simp only [if_neg (show ¬ b < w.heap.size by omega),if_neg (show ¬ b < w.heap.size+3 by omega)]
 have Hφ2 := Lib.hid hφ2
 have Hφ3 := Lib.hid hφ3
 clear hφ2 hφ3 hφ0 hφ1 h0
 have H := Lib.hid h
 have HI := Lib.hid hi
 obtain ⟨W0,hW0⟩ : ∃ W0,W0 = ((w.alloc (.cells #[.int .i64 et,.int .u8 11,.int .i64 en,.int .i64 es,.int .i64 ec,.int .i64 em] 51)).alloc (.cells #[.int .i64 0,.int .u8 0,.int .i64 0,.int .i64 0,.int .i64 0,.int .i64 0] 51)).alloc (.cells #[.int .i64 0,.int .u8 0,.int .i64 et,.int .i64 0,.int .i64 0,.int .i64 0] 51) := ⟨_,rfl⟩
 have hb0 : Below w.heap.size w W0 := hW0 ▸ bel_alloc (bel_alloc (bel_alloc (Below.refl _ _) _) _) _
 have hz0 : W0.heap.size = w.heap.size+3 := by rw [hW0]; simp
 have HEv0 : Hid (W0.heap[w.heap.size]? = some (.cells #[.int .i64 et,.int .u8 11,.int .i64 en,.int .i64 es,.int .i64 ec,.int .i64 em] 51 (0,0))) := Lib.hid (by rw [hW0,Below.heap_alloc _ _ _ (by simp; omega),Below.heap_alloc _ _ _ (by simp)]; exact blk_new _ _)
 have HE0 : Hid (W0.heap[w.heap.size+1]? = some evBox) := Lib.hid (by rw [hW0,Below.heap_alloc _ _ _ (by simp)]; have := blk_new (w.alloc (.cells #[.int .i64 et,.int .u8 11,.int .i64 en,.int .i64 es,.int .i64 ec,.int .i64 em] 51)) (.cells #[.int .i64 0,.int .u8 0,.int .i64 0,.int .i64 0,.int .i64 0,.int .i64 0] 51); simpa [evBox] using this)
 have HWt0 : Hid (W0.heap[w.heap.size+1+1]? = some (.cells #[.int .i64 0,.int .u8 0,.int .i64 et,.int .i64 0,.int .i64 0,.int .i64 0] 51 (0,0))) := Lib.hid (by rw [hW0]; have := blk_new ((w.alloc (.cells #[.int .i64 et,.int .u8 11,.int .i64 en,.int .i64 es,.int .i64 ec,.int .i64 em] 51)).alloc (.cells #[.int .i64 0,.int .u8 0,.int .i64 0,.int .i64 0,.int .i64 0,.int .i64 0] 51)) (.cells #[.int .i64 0,.int .u8 0,.int .i64 et,.int .i64 0,.int .i64 0,.int .i64 0] 51); simpa using this)
 have HS0 := Lib.hid (h.below hb0 (fun h => h) (fun h => h))
 have HB0 : Hid (Below Bo w W0) := Lib.hid (hb0.mono h.lo)
 have HZ0 := Lib.hid hz0
 clear h hi hb0 hz0
 have HE_ : Hid (v.2 = false) := Lib.hid hv2
 have d14 : W0.cell? ⟨a.g,14,none⟩ = some (.map (some a.cb)) := blk_cell (HS0.out.st (fun h => h)) 14
 have e14 : ∀ q : Ext W0,q.X.cell? ⟨a.g,14,none⟩ = some (.map (some a.cb)) := fun q => (q.h.cell (p := ⟨a.g,14,none⟩) HS0.out.fst.2.2).trans d14
 have eb : ∀ q : Ext W0,q.X.cell? ⟨w.heap.size,0,none⟩ = some (.int .i64 et) := fun q => (q.h.cell (p := ⟨w.heap.size,0,none⟩) (blk_lt HEv0.out)).trans (blk_cell HEv0.out 0)
 have elk : ∀ q : Ext W0,(Instr.lookup 63 (.map (some a.cb)) (.int .i64 et) true).run Tryz.prog q.X = .ok (.tuple #[.pointer (some ⟨p,0,none⟩),.bool true]) q.X := fun q => by
  have := ((HS0.out.cb (fun h => h)).1.of_block (q.h.block _ (HS0.out.fcb.2.2))).run_lookup kint Tryz.underlying63 (zcalled _) et true
  rw [Hmx.out] at this
  exact this
 have HW0 := Lib.hid hW0
 clear hW0 d14
 go_enter Tryz.func44,Tryz.ntmps44
 go_wp2_with fail
 rw [← HW0.out]
 refine wp_region_ext (by kernel_rfl) (by kernel_rfl) ?_
 repeat (go_big_quiet_step ((fail)))
 refine Ext.end_ fun X hX => ?_
 clear e14 eb elk
 have HS1 := Lib.hid (HS0.out.below hX (fun h => h) (fun h => h))
 have HE1 : Hid (X.heap[w.heap.size+1]? = some evBox) := Lib.hid ((hX.block _ (blk_lt HE0.out)).trans HE0.out)
 have HEv1 : Hid (X.heap[w.heap.size]? = some (.cells #[.int .i64 et,.int .u8 11,.int .i64 en,.int .i64 es,.int .i64 ec,.int .i64 em] 51 (0,0))) := Lib.hid ((hX.block _ (blk_lt HEv0.out)).trans HEv0.out)
 have HWt1 : Hid (X.heap[w.heap.size+1+1]? = some (.cells #[.int .i64 0,.int .u8 0,.int .i64 et,.int .i64 0,.int .i64 0,.int .i64 0] 51 (0,0))) := Lib.hid ((hX.block _ (blk_lt HWt0.out)).trans HWt0.out)
 have HB1 : Hid (Below Bo w X) := Lib.hid (HB0.out.trans (hX.mono HS0.out.lo))
 have HX3 : Hid (w.heap.size+3≤X.heap.size) := Lib.hid (by have := hX.size; rw [HZ0.out] at this; exact this)
 clear hX
 have hpx := HS1.out.cw et p v Hmx.out Hm.out (fun h => h)
 have HPl : Hid (φ0 p = 101+2 * (-et).toNat∧Bo≤p) := Lib.hid hpx.2
 have HP1 : Hid (X.heap[p]? = some (.cells #[.int .i64 v.1,.bool v.2] 133 (0,0))) := Lib.hid hpx.1
 have hpn : ∀ b,w.heap.size≤b→b < w.heap.size+3→p≠b := fun b h1 h2 e => by have h3 := HPl.out.1; rw [e,Hφ2.out b h1 h2] at h3; omega
 have Hpn := Lib.hid hpn
 clear hpx hpn
 have p1 : X.cell? ⟨p,1,none⟩ = some (.bool v.2) := blk_cell HP1.out 1
 rw [hv2] at p1
 have b1 : X.cell? ⟨w.heap.size,1,none⟩ = some (.int .u8 11) := blk_cell HEv1.out 1
 clear hv2
 have t4 : X.cell? ⟨w.heap.size,4,none⟩ = some (.int .i64 ec) := blk_cell HEv1.out 4
 have w4 : X.cell? ⟨w.heap.size+1+1,4,none⟩ = some (.int .i64 0) := blk_cell HWt1.out 4
 have wf : X.frozen? ⟨w.heap.size+1+1,4,none⟩ = false := blk_frozen HWt1.out 4
 obtain ⟨W3,hW3⟩ : ∃ W3,W3 = X.setCell ⟨w.heap.size+1+1,4,none⟩ (.int .i64 ec) := ⟨_,rfl⟩
 have hk3 : Kept X W3 (fun q => q = w.heap.size+1+1) := hW3 ▸ (Kept.refl X (fun q => q = w.heap.size+1+1)).setCell (p := ⟨w.heap.size+1+1,4,none⟩) (Or.inl rfl) _
 have HS3 := Lib.hid (HS1.out.junk (hk3.mono fun q e => by rw [e]; exact Hφ2.out _ (by omega) (by omega)))
 have HE3 : Hid (W3.heap[w.heap.size+1]? = some evBox) := Lib.hid (hk3.blk HE1.out (blk_lt HE1.out) (by omega))
 have HEv3 : Hid (W3.heap[w.heap.size]? = some (.cells #[.int .i64 et,.int .u8 11,.int .i64 en,.int .i64 es,.int .i64 ec,.int .i64 em] 51 (0,0))) := Lib.hid (hk3.blk HEv1.out (blk_lt HEv1.out) (by omega))
 have HP3 : Hid (W3.heap[p]? = some (.cells #[.int .i64 v.1,.bool v.2] 133 (0,0))) := Lib.hid (hk3.blk HP1.out (blk_lt HP1.out) (fun e => Hpn.out _ (by omega) (by omega) e))
 have HWt3 : Hid (W3.heap[w.heap.size+1+1]? = some (.cells #[.int .i64 0,.int .u8 0,.int .i64 et,.int .i64 0,.int .i64 ec,.int .i64 0] 51 (0,0))) := Lib.hid (by rw [hW3]; exact blk_set HWt1.out 4 _)
 have HB3 : Hid (Below Bo w W3) := Lib.hid (HB1.out.trans (hk3.below HS1.out.lo (fun q e => by rw [e]; have := H.out.lo; omega)))
 clear hk3
 go_wp2_with fail
 rw [← hW3]
 clear hW3 p1 b1 t4 w4 wf
 have y0 : ∀ n : KX W3 (fun q => q = w.heap.size+1),n.X.cell? ⟨p,0,none⟩ = some (.int .i64 v.1) := fun n => blk_cell (n.h.blk HP3.out (blk_lt HP3.out) (Hpn.out _ (by omega) (by omega))) 0
 have y1 : ∀ n : KX W3 (fun q => q = w.heap.size+1),n.X.cell? ⟨w.heap.size,1,none⟩ = some (.int .u8 11) := fun n => blk_cell (n.h.blk HEv3.out (blk_lt HEv3.out) (by omega)) 1
 have y4 : ∀ n : KX W3 (fun q => q = w.heap.size+1),n.X.cell? ⟨w.heap.size,4,none⟩ = some (.int .i64 ec) := fun n => blk_cell (n.h.blk HEv3.out (blk_lt HEv3.out) (by omega)) 4
 by_cases hec : 0≤ec
 · have hd0 : decide (0≤ec) = true := decide_eq_true hec
   as_aux_lemma =>
   skip
   have HZlt : Hid (w.heap.size+1+1≠w.heap.size+1) := Lib.hid (by omega)
   have z0 : ∀ n : KX W3 (fun q => q = w.heap.size+1),n.X.cell? ⟨w.heap.size+1+1,0,none⟩ = some (.int .i64 0) := fun n => blk_cell (n.h.blk HWt3.out (blk_lt HWt3.out) HZlt.out) 0
   have z1 : ∀ n : KX W3 (fun q => q = w.heap.size+1),n.X.cell? ⟨w.heap.size+1+1,1,none⟩ = some (.int .u8 0) := fun n => blk_cell (n.h.blk HWt3.out (blk_lt HWt3.out) HZlt.out) 1
   have z2 : ∀ n : KX W3 (fun q => q = w.heap.size+1),n.X.cell? ⟨w.heap.size+1+1,2,none⟩ = some (.int .i64 et) := fun n => blk_cell (n.h.blk HWt3.out (blk_lt HWt3.out) HZlt.out) 2
   have z3 : ∀ n : KX W3 (fun q => q = w.heap.size+1),n.X.cell? ⟨w.heap.size+1+1,3,none⟩ = some (.int .i64 0) := fun n => blk_cell (n.h.blk HWt3.out (blk_lt HWt3.out) HZlt.out) 3
   have z4 : ∀ n : KX W3 (fun q => q = w.heap.size+1),n.X.cell? ⟨w.heap.size+1+1,4,none⟩ = some (.int .i64 ec) := fun n => blk_cell (n.h.blk HWt3.out (blk_lt HWt3.out) HZlt.out) 4
   have z5 : ∀ n : KX W3 (fun q => q = w.heap.size+1),n.X.cell? ⟨w.heap.size+1+1,5,none⟩ = some (.int .i64 0) := fun n => blk_cell (n.h.blk HWt3.out (blk_lt HWt3.out) HZlt.out) 5
   refine wp_region_reads_tail 13 (fun q => q = w.heap.size+1) (by kernel_rfl) (by kernel_rfl) (fun _ _ d _ _ h => by cases d <;> exact h) ?_
   simp only [List.take_succ_cons,List.take_zero,List.drop_succ_cons,List.drop_zero]
   repeat (go_big_quiet_step (fail))
   refine wpQuiet_nil ?_
   clear y0 y1 y4 z0 z1 z2 z3 z4 z5
   have HKd : Hid (Kept W3 W3.drew (fun q => q = w.heap.size+1)) := Lib.hid (Kept.of_below (bel_drew (Below.refl _ _)))
   refine tailC_one rfl ?_
   go_wp2_with fail
   refine QT.normal ⟨by first | exact fun _ => KX.in_ HKd.out | exact KX.in_ HKd.out,?_⟩
   obtain ⟨X1,hX1⟩ : ∃ X1,X1 = W3.drew.setRow (w.heap.size+1) #[.int .i64 0,.int .u8 0,.int .i64 et,.int .i64 0,.int .i64 ec,.int .i64 0] := ⟨_,rfl⟩
   have hXh : X1.heap[w.heap.size+1]? = some (.cells #[.int .i64 0,.int .u8 0,.int .i64 et,.int .i64 0,.int .i64 ec,.int .i64 0] 51 (0,0)) := hX1 ▸ setRow_heap _ _ _ _ _ _ HE3.out
   have hXk : Kept W3 X1 (fun q => q = w.heap.size+1) := hX1 ▸ HKd.out.trans ⟨rfl,rfl,rfl,by simp [World.setRow],fun k _ hk => setRow_other _ _ _ _ hk⟩
   refine tailC_one rfl ?_
   refine wpList_store_row rfl 51 _ _ rfl (w.heap.size+1) #[.int .i64 0,.int .u8 0,.int .i64 et,.int .i64 0,.int .i64 ec,.int .i64 0] rfl rfl 51 _ HE3.out (by kernel_rfl) rfl (ev_one _ _ _) ?_
   rw [← hX1]
   have HXk := Lib.hid hXk
   have HXh := Lib.hid hXh
   clear hX1 hXh hXk
   refine QT.normal ⟨by first | exact fun _ => KX.in_ HXk.out | exact KX.in_ HXk.out,?_⟩
   refine tailC_one rfl ?_
   go_wp2_with fail
   refine QT.normal ⟨by simp,?_⟩
   refine tailC_nil ?_
   have r0 : X1.cell? ⟨w.heap.size+1,0,none⟩ = some (.int .i64 0) := blk_cell HXh.out 0
   have r1 : X1.cell? ⟨w.heap.size+1,1,none⟩ = some (.int .u8 0) := blk_cell HXh.out 1
   have r2 : X1.cell? ⟨w.heap.size+1,2,none⟩ = some (.int .i64 et) := blk_cell HXh.out 2
   have r3 : X1.cell? ⟨w.heap.size+1,3,none⟩ = some (.int .i64 0) := blk_cell HXh.out 3
   have r4 : X1.cell? ⟨w.heap.size+1,4,none⟩ = some (.int .i64 ec) := blk_cell HXh.out 4
   have r5 : X1.cell? ⟨w.heap.size+1,5,none⟩ = some (.int .i64 0) := blk_cell HXh.out 5
   have hBX : Below Bo w X1 := HB3.out.trans (HXk.out.below HS3.out.lo (fun q e => by rw [e]; have := H.out.lo; omega))
   have hSX := HS3.out.junk (HXk.out.mono fun q e => by rw [e]; exact Hφ2.out _ (by omega) (by omega))
   go_wp2_with fail
   refine bodyPost_ret (v := .tuple #[.int .u8 11,.agg #[.int .i64 0,.int .u8 0,.int .i64 et,.int .i64 0,.int .i64 ec,.int .i64 0],.bool (v.1 == 0)]) (by simp [results,Tryz.results44,go_sem,r0,r1,r2,r3,r4,r5]) rfl ⟨φ0,_,by rw [HR.out]; simp [Ev.v,hec]; rfl,Hφ1.out,by rw [HR.out]; exact hSX,hBX⟩
 · have hd0 : decide (0≤ec) = false := decide_eq_false hec
   as_aux_lemma =>
   skip
   have HZlt : Hid (w.heap.size+1+1≠w.heap.size+1) := Lib.hid (by omega)
   have z0 : ∀ n : KX W3 (fun q => q = w.heap.size+1),n.X.cell? ⟨w.heap.size+1+1,0,none⟩ = some (.int .i64 0) := fun n => blk_cell (n.h.blk HWt3.out (blk_lt HWt3.out) HZlt.out) 0
   have z1 : ∀ n : KX W3 (fun q => q = w.heap.size+1),n.X.cell? ⟨w.heap.size+1+1,1,none⟩ = some (.int .u8 0) := fun n => blk_cell (n.h.blk HWt3.out (blk_lt HWt3.out) HZlt.out) 1
   have z2 : ∀ n : KX W3 (fun q => q = w.heap.size+1),n.X.cell? ⟨w.heap.size+1+1,2,none⟩ = some (.int .i64 et) := fun n => blk_cell (n.h.blk HWt3.out (blk_lt HWt3.out) HZlt.out) 2
   have z3 : ∀ n : KX W3 (fun q => q = w.heap.size+1),n.X.cell? ⟨w.heap.size+1+1,3,none⟩ = some (.int .i64 0) := fun n => blk_cell (n.h.blk HWt3.out (blk_lt HWt3.out) HZlt.out) 3
   have z4 : ∀ n : KX W3 (fun q => q = w.heap.size+1),n.X.cell? ⟨w.heap.size+1+1,4,none⟩ = some (.int .i64 ec) := fun n => blk_cell (n.h.blk HWt3.out (blk_lt HWt3.out) HZlt.out) 4
   have z5 : ∀ n : KX W3 (fun q => q = w.heap.size+1),n.X.cell? ⟨w.heap.size+1+1,5,none⟩ = some (.int .i64 0) := fun n => blk_cell (n.h.blk HWt3.out (blk_lt HWt3.out) HZlt.out) 5
   refine wp_region_reads_tail 13 (fun q => q = w.heap.size+1) (by kernel_rfl) (by kernel_rfl) (fun _ _ d _ _ h => by cases d <;> exact h) ?_
   simp only [List.take_succ_cons,List.take_zero,List.drop_succ_cons,List.drop_zero]
   repeat (go_big_quiet_step (fail))
   refine wpQuiet_nil ?_
   clear y0 y1 y4 z0 z1 z2 z3 z4 z5
   have HKd : Hid (Kept W3 W3.drew (fun q => q = w.heap.size+1)) := Lib.hid (Kept.of_below (bel_drew (Below.refl _ _)))
   refine tailC_one rfl ?_
   go_wp2_with fail
   refine QT.normal ⟨by first | exact fun _ => KX.in_ HKd.out | exact KX.in_ HKd.out,?_⟩
   obtain ⟨X1,hX1⟩ : ∃ X1,X1 = W3.drew.setRow (w.heap.size+1) #[.int .i64 0,.int .u8 0,.int .i64 et,.int .i64 0,.int .i64 ec,.int .i64 0] := ⟨_,rfl⟩
   have hXh : X1.heap[w.heap.size+1]? = some (.cells #[.int .i64 0,.int .u8 0,.int .i64 et,.int .i64 0,.int .i64 ec,.int .i64 0] 51 (0,0)) := hX1 ▸ setRow_heap _ _ _ _ _ _ HE3.out
   have hXk : Kept W3 X1 (fun q => q = w.heap.size+1) := hX1 ▸ HKd.out.trans ⟨rfl,rfl,rfl,by simp [World.setRow],fun k _ hk => setRow_other _ _ _ _ hk⟩
   refine tailC_one rfl ?_
   refine wpList_store_row rfl 51 _ _ rfl (w.heap.size+1) #[.int .i64 0,.int .u8 0,.int .i64 et,.int .i64 0,.int .i64 ec,.int .i64 0] rfl rfl 51 _ HE3.out (by kernel_rfl) rfl (ev_one _ _ _) ?_
   rw [← hX1]
   have HXk := Lib.hid hXk
   have HXh := Lib.hid hXh
   clear hX1 hXh hXk
   refine QT.normal ⟨by first | exact fun _ => KX.in_ HXk.out | exact KX.in_ HXk.out,?_⟩
   refine tailC_one rfl ?_
   go_wp2_with fail
   refine QT.normal ⟨by simp,?_⟩
   refine tailC_nil ?_
   have r0 : X1.cell? ⟨w.heap.size+1,0,none⟩ = some (.int .i64 0) := blk_cell HXh.out 0
   have r1 : X1.cell? ⟨w.heap.size+1,1,none⟩ = some (.int .u8 0) := blk_cell HXh.out 1
   have r2 : X1.cell? ⟨w.heap.size+1,2,none⟩ = some (.int .i64 et) := blk_cell HXh.out 2
   have r3 : X1.cell? ⟨w.heap.size+1,3,none⟩ = some (.int .i64 0) := blk_cell HXh.out 3
   have r4 : X1.cell? ⟨w.heap.size+1,4,none⟩ = some (.int .i64 ec) := blk_cell HXh.out 4
   have r5 : X1.cell? ⟨w.heap.size+1,5,none⟩ = some (.int .i64 0) := blk_cell HXh.out 5
   have hBX : Below Bo w X1 := HB3.out.trans (HXk.out.below HS3.out.lo (fun q e => by rw [e]; have := H.out.lo; omega))
   have hSX := HS3.out.junk (HXk.out.mono fun q e => by rw [e]; exact Hφ2.out _ (by omega) (by omega))
   go_wp2_with fail
   refine bodyPost_ret (v := .tuple #[.int .u8 11,.agg #[.int .i64 0,.int .u8 0,.int .i64 et,.int .i64 0,.int .i64 ec,.int .i64 0],.bool false]) (by simp [results,Tryz.results44,go_sem,r0,r1,r2,r3,r4,r5]) rfl ⟨φ0,_,by rw [HR.out,hd0]; rfl,Hφ1.out,by rw [HR.out]; exact hSX,hBX⟩
set_option maxHeartbeats 4000000 in
theorem callC0_any (φ : Nat→Nat) (Bo : Nat) (c : Cfg) (rs rs' : List RTx) (by_ : List Int) (M k : Nat) (a : SA) (x : SG) (s : TS) (w : World) (et ek en es ec em : Int) (h0 : StAt w φ Bo c rs rs' by_ a x s) (hi : SInv c rs rs' M k s) (hc : c.ok = true) (hk : k≤4398046511104) (ht : et < 0) {v : Int × Bool} (hm : mget s.calls et = some v) (hv2 : v.2 = false) (h10 : ek = 10) (hs : es < 0∨c.shards≤es) :
    Calls Tryz.prog 44 #[ptrV a.g,.agg #[.int .i64 et,.int .u8 ek,.int .i64 en,.int .i64 es,.int .i64 ec,.int .i64 em]] w (TaskEnd w φ Bo c rs rs' by_ a (s.call c ⟨et,ek,en,es,ec,em⟩)) := by
 subst h10
 obtain ⟨R,hR⟩ : ∃ R,R = s.call c ⟨et,10,en,es,ec,em⟩ := ⟨_,rfl⟩
 rw [← hR]
 unfold TS.call at hR
 simp only at hR
 rw [hm] at hR
 have HR0 := Lib.hid hR
 obtain ⟨p,hp⟩ : ∃ p,mget x.m et = some p := by
  have := (h0.cb (fun h => h)).2 et
  cases hmx : mget x.m et with
  | none => rw [(this.2 hmx)] at hm; cases hm
  | some p => exact ⟨p,rfl⟩
 have Hmx := Lib.hid hp
 have Hm := Lib.hid hm
 have hvb := hi.cw et v hm
 unfold ptrV
 clear hR hm hp
 have HR : Hid (R = ((0,⟨0,0,et,0,0,0⟩,false),s)) := Lib.hid (by
  have := HR0.out
  simp only [hv2,Bool.false_eq_true,if_false,if_true] at this
  rw [if_pos (by rcases hs with h | h; exact Or.inl h; exact Or.inr (Or.inl h))] at this
  exact this)
 clear HR0
 obtain ⟨φ0,hφ0⟩ : ∃ φ0 : Nat→Nat,φ0 = fun b => if b < w.heap.size then φ b else if b < w.heap.size+3 then 50 else 50 := ⟨_,rfl⟩
 have hφ1 : ∀ b,b < w.heap.size→φ0 b = φ b := fun b hb => by rw [hφ0]; simp only [if_pos hb]
 have h : StAt w φ0 Bo c rs rs' by_ a x s := h0.relabel hφ1
 have Hφ1 := Lib.hid hφ1
 have hφ2 : ∀ b,w.heap.size≤b→b < w.heap.size+3→φ0 b = 50 := fun b hb hb2 => by rw [hφ0]; simp only [if_neg (show ¬ b < w.heap.size by omega),if_pos hb2]
 have hφ3 : ∀ b,w.heap.size+3≤b→φ0 b = 50 := fun b hb => by rw [hφ0]; simp only [if_neg (show ¬ b < w.heap.size by omega),if_neg (show ¬ b < w.heap.size+3 by omega)]
 have Hφ2 := Lib.hid hφ2
 have Hφ3 := Lib.hid hφ3
 clear hφ2 hφ3 hφ0 hφ1 h0
 have H := Lib.hid h
 have HI := Lib.hid hi
 obtain ⟨W0,hW0⟩ : ∃ W0,W0 = ((w.alloc (.cells #[.int .i64 et,.int .u8 10,.int .i64 en,.int .i64 es,.int .i64 ec,.int .i64 em] 51)).alloc (.cells #[.int .i64 0,.int .u8 0,.int .i64 0,.int .i64 0,.int .i64 0,.int .i64 0] 51)).alloc (.cells #[.int .i64 0,.int .u8 0,.int .i64 et,.int .i64 0,.int .i64 0,.int .i64 0] 51) := ⟨_,rfl⟩
 have hb0 : Below w.heap.size w W0 := hW0 ▸ bel_alloc (bel_alloc (bel_alloc (Below.refl _ _) _) _) _
 have hz0 : W0.heap.size = w.heap.size+3 := by rw [hW0]; simp
 have HEv0 : Hid (W0.heap[w.heap.size]? = some (.cells #[.int .i64 et,.int .u8 10,.int .i64 en,.int .i64 es,.int .i64 ec,.int .i64 em] 51 (0,0))) := Lib.hid (by rw [hW0,Below.heap_alloc _ _ _ (by simp; omega),Below.heap_alloc _ _ _ (by simp)]; exact blk_new _ _)
 have HE0 : Hid (W0.heap[w.heap.size+1]? = some evBox) := Lib.hid (by rw [hW0,Below.heap_alloc _ _ _ (by simp)]; have := blk_new (w.alloc (.cells #[.int .i64 et,.int .u8 10,.int .i64 en,.int .i64 es,.int .i64 ec,.int .i64 em] 51)) (.cells #[.int .i64 0,.int .u8 0,.int .i64 0,.int .i64 0,.int .i64 0,.int .i64 0] 51); simpa [evBox] using this)
 have HWt0 : Hid (W0.heap[w.heap.size+1+1]? = some (.cells #[.int .i64 0,.int .u8 0,.int .i64 et,.int .i64 0,.int .i64 0,.int .i64 0] 51 (0,0))) := Lib.hid (by rw [hW0]; have := blk_new ((w.alloc (.cells #[.int .i64 et,.int .u8 10,.int .i64 en,.int .i64 es,.int .i64 ec,.int .i64 em] 51)).alloc (.cells #[.int .i64 0,.int .u8 0,.int .i64 0,.int .i64 0,.int .i64 0,.int .i64 0] 51)) (.cells #[.int .i64 0,.int .u8 0,.int .i64 et,.int .i64 0,.int .i64 0,.int .i64 0] 51); simpa using this)
 have HS0 := Lib.hid (h.below hb0 (fun h => h) (fun h => h))
 have HB0 : Hid (Below Bo w W0) := Lib.hid (hb0.mono h.lo)
 have HZ0 := Lib.hid hz0
 clear h hi hb0 hz0
 have HE_ : Hid (v.2 = false) := Lib.hid hv2
 have d14 : W0.cell? ⟨a.g,14,none⟩ = some (.map (some a.cb)) := blk_cell (HS0.out.st (fun h => h)) 14
 have e14 : ∀ q : Ext W0,q.X.cell? ⟨a.g,14,none⟩ = some (.map (some a.cb)) := fun q => (q.h.cell (p := ⟨a.g,14,none⟩) HS0.out.fst.2.2).trans d14
 have eb : ∀ q : Ext W0,q.X.cell? ⟨w.heap.size,0,none⟩ = some (.int .i64 et) := fun q => (q.h.cell (p := ⟨w.heap.size,0,none⟩) (blk_lt HEv0.out)).trans (blk_cell HEv0.out 0)
 have elk : ∀ q : Ext W0,(Instr.lookup 63 (.map (some a.cb)) (.int .i64 et) true).run Tryz.prog q.X = .ok (.tuple #[.pointer (some ⟨p,0,none⟩),.bool true]) q.X := fun q => by
  have := ((HS0.out.cb (fun h => h)).1.of_block (q.h.block _ (HS0.out.fcb.2.2))).run_lookup kint Tryz.underlying63 (zcalled _) et true
  rw [Hmx.out] at this
  exact this
 have HW0 := Lib.hid hW0
 clear hW0 d14
 go_enter Tryz.func44,Tryz.ntmps44
 go_wp2_with fail
 rw [← HW0.out]
 refine wp_region_ext (by kernel_rfl) (by kernel_rfl) ?_
 repeat (go_big_quiet_step ((fail)))
 refine Ext.end_ fun X hX => ?_
 clear e14 eb elk
 have HS1 := Lib.hid (HS0.out.below hX (fun h => h) (fun h => h))
 have HE1 : Hid (X.heap[w.heap.size+1]? = some evBox) := Lib.hid ((hX.block _ (blk_lt HE0.out)).trans HE0.out)
 have HEv1 : Hid (X.heap[w.heap.size]? = some (.cells #[.int .i64 et,.int .u8 10,.int .i64 en,.int .i64 es,.int .i64 ec,.int .i64 em] 51 (0,0))) := Lib.hid ((hX.block _ (blk_lt HEv0.out)).trans HEv0.out)
 have HWt1 : Hid (X.heap[w.heap.size+1+1]? = some (.cells #[.int .i64 0,.int .u8 0,.int .i64 et,.int .i64 0,.int .i64 0,.int .i64 0] 51 (0,0))) := Lib.hid ((hX.block _ (blk_lt HWt0.out)).trans HWt0.out)
 have HB1 : Hid (Below Bo w X) := Lib.hid (HB0.out.trans (hX.mono HS0.out.lo))
 have HX3 : Hid (w.heap.size+3≤X.heap.size) := Lib.hid (by have := hX.size; rw [HZ0.out] at this; exact this)
 clear hX
 have hpx := HS1.out.cw et p v Hmx.out Hm.out (fun h => h)
 have HPl : Hid (φ0 p = 101+2 * (-et).toNat∧Bo≤p) := Lib.hid hpx.2
 have HP1 : Hid (X.heap[p]? = some (.cells #[.int .i64 v.1,.bool v.2] 133 (0,0))) := Lib.hid hpx.1
 have hpn : ∀ b,w.heap.size≤b→b < w.heap.size+3→p≠b := fun b h1 h2 e => by have h3 := HPl.out.1; rw [e,Hφ2.out b h1 h2] at h3; omega
 have Hpn := Lib.hid hpn
 clear hpx hpn
 have p1 : X.cell? ⟨p,1,none⟩ = some (.bool v.2) := blk_cell HP1.out 1
 rw [hv2] at p1
 have b1 : X.cell? ⟨w.heap.size,1,none⟩ = some (.int .u8 10) := blk_cell HEv1.out 1
 clear hv2
 go_wp2_with fail
 have d1 : ∀ q : Ext X,q.X.cell? ⟨a.g,1,none⟩ = some (.int .i64 c.shards) := fun q => (q.h.cell (p := ⟨a.g,1,none⟩) HS1.out.fst.2.2).trans (blk_cell (HS1.out.st (fun h => h)) 1)
 have t3 : ∀ q : Ext X,q.X.cell? ⟨w.heap.size,3,none⟩ = some (.int .i64 es) := fun q => (q.h.cell (p := ⟨w.heap.size,3,none⟩) (blk_lt HEv1.out)).trans (blk_cell HEv1.out 3)
 clear p1 b1
 have hdd : (decide (es < 0) = true∧es < 0)∨(decide (es < 0) = false∧¬ es < 0∧c.shards≤es∧decide (c.shards≤es) = true) := by
  by_cases h : es < 0
  · exact Or.inl ⟨decide_eq_true h,h⟩
  · have h2 : c.shards≤es := by rcases hs with h3 | h3; exact absurd h3 h; exact h3
    exact Or.inr ⟨decide_eq_false h,h,h2,decide_eq_true h2⟩
 clear hs
 rcases hdd with ⟨hd1,hd2⟩ | ⟨hd1,hd2,hd3,hd4⟩
 · refine wp_region_ext (by kernel_rfl) (by kernel_rfl) ?_
   repeat (go_big_quiet_step ((fail)))
   refine Ext.end_ fun Y hY => ?_
   clear d1 t3
   have HS2 := Lib.hid (HS1.out.below hY (fun h => h) (fun h => h))
   have HE2 : Hid (Y.heap[w.heap.size+1]? = some evBox) := Lib.hid ((hY.block _ (blk_lt HE1.out)).trans HE1.out)
   have HEv2 : Hid (Y.heap[w.heap.size]? = some (.cells #[.int .i64 et,.int .u8 10,.int .i64 en,.int .i64 es,.int .i64 ec,.int .i64 em] 51 (0,0))) := Lib.hid ((hY.block _ (blk_lt HEv1.out)).trans HEv1.out)
   have HWt2 : Hid (Y.heap[w.heap.size+1+1]? = some (.cells #[.int .i64 0,.int .u8 0,.int .i64 et,.int .i64 0,.int .i64 0,.int .i64 0] 51 (0,0))) := Lib.hid ((hY.block _ (blk_lt HWt1.out)).trans HWt1.out)
   have HB2 : Hid (Below Bo w Y) := Lib.hid (HB1.out.trans (hY.mono HS1.out.lo))
   clear hY
   go_wp2_with fail
   have HZlt : Hid (w.heap.size+1+1≠w.heap.size+1) := Lib.hid (by omega)
   have z0 : ∀ n : KX Y (fun q => q = w.heap.size+1),n.X.cell? ⟨w.heap.size+1+1,0,none⟩ = some (.int .i64 0) := fun n => blk_cell (n.h.blk HWt2.out (blk_lt HWt2.out) HZlt.out) 0
   have z1 : ∀ n : KX Y (fun q => q = w.heap.size+1),n.X.cell? ⟨w.heap.size+1+1,1,none⟩ = some (.int .u8 0) := fun n => blk_cell (n.h.blk HWt2.out (blk_lt HWt2.out) HZlt.out) 1
   have z2 : ∀ n : KX Y (fun q => q = w.heap.size+1),n.X.cell? ⟨w.heap.size+1+1,2,none⟩ = some (.int .i64 et) := fun n => blk_cell (n.h.blk HWt2.out (blk_lt HWt2.out) HZlt.out) 2
   have z3 : ∀ n : KX Y (fun q => q = w.heap.size+1),n.X.cell? ⟨w.heap.size+1+1,3,none⟩ = some (.int .i64 0) := fun n => blk_cell (n.h.blk HWt2.out (blk_lt HWt2.out) HZlt.out) 3
   have z4 : ∀ n : KX Y (fun q => q = w.heap.size+1),n.X.cell? ⟨w.heap.size+1+1,4,none⟩ = some (.int .i64 0) := fun n => blk_cell (n.h.blk HWt2.out (blk_lt HWt2.out) HZlt.out) 4
   have z5 : ∀ n : KX Y (fun q => q = w.heap.size+1),n.X.cell? ⟨w.heap.size+1+1,5,none⟩ = some (.int .i64 0) := fun n => blk_cell (n.h.blk HWt2.out (blk_lt HWt2.out) HZlt.out) 5
   refine wp_region_reads_tail 1 (fun q => q = w.heap.size+1) (by kernel_rfl) (by kernel_rfl) (fun _ _ d _ _ h => by cases d <;> exact h) ?_
   simp only [List.take_succ_cons,List.take_zero,List.drop_succ_cons,List.drop_zero]
   repeat (go_big_quiet_step (fail))
   refine wpQuiet_nil ?_
   clear z0 z1 z2 z3 z4 z5
   have HKd : Hid (Kept Y Y.drew (fun q => q = w.heap.size+1)) := Lib.hid (Kept.of_below (bel_drew (Below.refl _ _)))
   refine tailC_one rfl ?_
   go_wp2_with fail
   refine QT.normal ⟨by first | exact fun _ => KX.in_ HKd.out | exact KX.in_ HKd.out,?_⟩
   obtain ⟨X1,hX1⟩ : ∃ X1,X1 = Y.drew.setRow (w.heap.size+1) #[.int .i64 0,.int .u8 0,.int .i64 et,.int .i64 0,.int .i64 0,.int .i64 0] := ⟨_,rfl⟩
   have hXh : X1.heap[w.heap.size+1]? = some (.cells #[.int .i64 0,.int .u8 0,.int .i64 et,.int .i64 0,.int .i64 0,.int .i64 0] 51 (0,0)) := hX1 ▸ setRow_heap _ _ _ _ _ _ HE2.out
   have hXk : Kept Y X1 (fun q => q = w.heap.size+1) := hX1 ▸ HKd.out.trans ⟨rfl,rfl,rfl,by simp [World.setRow],fun k _ hk => setRow_other _ _ _ _ hk⟩
   refine tailC_one rfl ?_
   refine wpList_store_row rfl 51 _ _ rfl (w.heap.size+1) #[.int .i64 0,.int .u8 0,.int .i64 et,.int .i64 0,.int .i64 0,.int .i64 0] rfl rfl 51 _ HE2.out (by kernel_rfl) rfl (ev_one _ _ _) ?_
   rw [← hX1]
   have HXk := Lib.hid hXk
   have HXh := Lib.hid hXh
   clear hX1 hXh hXk
   refine QT.normal ⟨by first | exact fun _ => KX.in_ HXk.out | exact KX.in_ HXk.out,?_⟩
   refine tailC_one rfl ?_
   go_wp2_with fail
   refine QT.normal ⟨by simp,?_⟩
   refine tailC_nil ?_
   have r0 : X1.cell? ⟨w.heap.size+1,0,none⟩ = some (.int .i64 0) := blk_cell HXh.out 0
   have r1 : X1.cell? ⟨w.heap.size+1,1,none⟩ = some (.int .u8 0) := blk_cell HXh.out 1
   have r2 : X1.cell? ⟨w.heap.size+1,2,none⟩ = some (.int .i64 et) := blk_cell HXh.out 2
   have r3 : X1.cell? ⟨w.heap.size+1,3,none⟩ = some (.int .i64 0) := blk_cell HXh.out 3
   have r4 : X1.cell? ⟨w.heap.size+1,4,none⟩ = some (.int .i64 0) := blk_cell HXh.out 4
   have r5 : X1.cell? ⟨w.heap.size+1,5,none⟩ = some (.int .i64 0) := blk_cell HXh.out 5
   have hBX : Below Bo w X1 := HB2.out.trans (HXk.out.below HS2.out.lo (fun q e => by rw [e]; have := H.out.lo; omega))
   have hSX := HS2.out.junk (HXk.out.mono fun q e => by rw [e]; exact Hφ2.out _ (by omega) (by omega))
   go_wp2_with fail
   refine bodyPost_ret (v := .tuple #[.int .u8 0,.agg #[.int .i64 0,.int .u8 0,.int .i64 et,.int .i64 0,.int .i64 0,.int .i64 0],.bool false]) (by simp [results,Tryz.results44,go_sem,r0,r1,r2,r3,r4,r5]) rfl ⟨φ0,_,by rw [HR.out]; rfl,Hφ1.out,by rw [HR.out]; exact hSX,hBX⟩
 · refine wp_region_ext (by kernel_rfl) (by kernel_rfl) ?_
   repeat (go_big_quiet_step ((fail)))
   refine Ext.end_ fun Y hY => ?_
   clear d1 t3
   have HS2 := Lib.hid (HS1.out.below hY (fun h => h) (fun h => h))
   have HE2 : Hid (Y.heap[w.heap.size+1]? = some evBox) := Lib.hid ((hY.block _ (blk_lt HE1.out)).trans HE1.out)
   have HEv2 : Hid (Y.heap[w.heap.size]? = some (.cells #[.int .i64 et,.int .u8 10,.int .i64 en,.int .i64 es,.int .i64 ec,.int .i64 em] 51 (0,0))) := Lib.hid ((hY.block _ (blk_lt HEv1.out)).trans HEv1.out)
   have HWt2 : Hid (Y.heap[w.heap.size+1+1]? = some (.cells #[.int .i64 0,.int .u8 0,.int .i64 et,.int .i64 0,.int .i64 0,.int .i64 0] 51 (0,0))) := Lib.hid ((hY.block _ (blk_lt HWt1.out)).trans HWt1.out)
   have HB2 : Hid (Below Bo w Y) := Lib.hid (HB1.out.trans (hY.mono HS1.out.lo))
   clear hY
   go_wp2_with fail
   have HZlt : Hid (w.heap.size+1+1≠w.heap.size+1) := Lib.hid (by omega)
   have z0 : ∀ n : KX Y (fun q => q = w.heap.size+1),n.X.cell? ⟨w.heap.size+1+1,0,none⟩ = some (.int .i64 0) := fun n => blk_cell (n.h.blk HWt2.out (blk_lt HWt2.out) HZlt.out) 0
   have z1 : ∀ n : KX Y (fun q => q = w.heap.size+1),n.X.cell? ⟨w.heap.size+1+1,1,none⟩ = some (.int .u8 0) := fun n => blk_cell (n.h.blk HWt2.out (blk_lt HWt2.out) HZlt.out) 1
   have z2 : ∀ n : KX Y (fun q => q = w.heap.size+1),n.X.cell? ⟨w.heap.size+1+1,2,none⟩ = some (.int .i64 et) := fun n => blk_cell (n.h.blk HWt2.out (blk_lt HWt2.out) HZlt.out) 2
   have z3 : ∀ n : KX Y (fun q => q = w.heap.size+1),n.X.cell? ⟨w.heap.size+1+1,3,none⟩ = some (.int .i64 0) := fun n => blk_cell (n.h.blk HWt2.out (blk_lt HWt2.out) HZlt.out) 3
   have z4 : ∀ n : KX Y (fun q => q = w.heap.size+1),n.X.cell? ⟨w.heap.size+1+1,4,none⟩ = some (.int .i64 0) := fun n => blk_cell (n.h.blk HWt2.out (blk_lt HWt2.out) HZlt.out) 4
   have z5 : ∀ n : KX Y (fun q => q = w.heap.size+1),n.X.cell? ⟨w.heap.size+1+1,5,none⟩ = some (.int .i64 0) := fun n => blk_cell (n.h.blk HWt2.out (blk_lt HWt2.out) HZlt.out) 5
   refine wp_region_reads_tail 1 (fun q => q = w.heap.size+1) (by kernel_rfl) (by kernel_rfl) (fun _ _ d _ _ h => by cases d <;> exact h) ?_
   simp only [List.take_succ_cons,List.take_zero,List.drop_succ_cons,List.drop_zero]
   repeat (go_big_quiet_step (fail))
   refine wpQuiet_nil ?_
   clear z0 z1 z2 z3 z4 z5
   have HKd : Hid (Kept Y Y.drew (fun q => q = w.heap.size+1)) := Lib.hid (Kept.of_below (bel_drew (Below.refl _ _)))
   refine tailC_one rfl ?_
   go_wp2_with fail
   refine QT.normal ⟨by first | exact fun _ => KX.in_ HKd.out | exact KX.in_ HKd.out,?_⟩
   obtain ⟨X1,hX1⟩ : ∃ X1,X1 = Y.drew.setRow (w.heap.size+1) #[.int .i64 0,.int .u8 0,.int .i64 et,.int .i64 0,.int .i64 0,.int .i64 0] := ⟨_,rfl⟩
   have hXh : X1.heap[w.heap.size+1]? = some (.cells #[.int .i64 0,.int .u8 0,.int .i64 et,.int .i64 0,.int .i64 0,.int .i64 0] 51 (0,0)) := hX1 ▸ setRow_heap _ _ _ _ _ _ HE2.out
   have hXk : Kept Y X1 (fun q => q = w.heap.size+1) := hX1 ▸ HKd.out.trans ⟨rfl,rfl,rfl,by simp [World.setRow],fun k _ hk => setRow_other _ _ _ _ hk⟩
   refine tailC_one rfl ?_
   refine wpList_store_row rfl 51 _ _ rfl (w.heap.size+1) #[.int .i64 0,.int .u8 0,.int .i64 et,.int .i64 0,.int .i64 0,.int .i64 0] rfl rfl 51 _ HE2.out (by kernel_rfl) rfl (ev_one _ _ _) ?_
   rw [← hX1]
   have HXk := Lib.hid hXk
   have HXh := Lib.hid hXh
   clear hX1 hXh hXk
   refine QT.normal ⟨by first | exact fun _ => KX.in_ HXk.out | exact KX.in_ HXk.out,?_⟩
   refine tailC_one rfl ?_
   go_wp2_with fail
   refine QT.normal ⟨by simp,?_⟩
   refine tailC_nil ?_
   have r0 : X1.cell? ⟨w.heap.size+1,0,none⟩ = some (.int .i64 0) := blk_cell HXh.out 0
   have r1 : X1.cell? ⟨w.heap.size+1,1,none⟩ = some (.int .u8 0) := blk_cell HXh.out 1
   have r2 : X1.cell? ⟨w.heap.size+1,2,none⟩ = some (.int .i64 et) := blk_cell HXh.out 2
   have r3 : X1.cell? ⟨w.heap.size+1,3,none⟩ = some (.int .i64 0) := blk_cell HXh.out 3
   have r4 : X1.cell? ⟨w.heap.size+1,4,none⟩ = some (.int .i64 0) := blk_cell HXh.out 4
   have r5 : X1.cell? ⟨w.heap.size+1,5,none⟩ = some (.int .i64 0) := blk_cell HXh.out 5
   have hBX : Below Bo w X1 := HB2.out.trans (HXk.out.below HS2.out.lo (fun q e => by rw [e]; have := H.out.lo; omega))
   have hSX := HS2.out.junk (HXk.out.mono fun q e => by rw [e]; exact Hφ2.out _ (by omega) (by omega))
   go_wp2_with fail
   refine bodyPost_ret (v := .tuple #[.int .u8 0,.agg #[.int .i64 0,.int .u8 0,.int .i64 et,.int .i64 0,.int .i64 0,.int .i64 0],.bool false]) (by simp [results,Tryz.results44,go_sem,r0,r1,r2,r3,r4,r5]) rfl ⟨φ0,_,by rw [HR.out]; rfl,Hφ1.out,by rw [HR.out]; exact hSX,hBX⟩
set_option maxHeartbeats 4000000 in
theorem callC1_any (φ : Nat→Nat) (Bo : Nat) (c : Cfg) (rs rs' : List RTx) (by_ : List Int) (M k : Nat) (a : SA) (x : SG) (s : TS) (w : World) (et ek en es ec em : Int) (h0 : StAt w φ Bo c rs rs' by_ a x s) (hi : SInv c rs rs' M k s) (hc : c.ok = true) (hk : k≤4398046511104) (ht : et < 0) {v : Int × Bool} (hm : mget s.calls et = some v) (hv2 : v.2 = false) (h10 : ek = 10) (hs0 : 0≤es) (hs1 : es < c.shards) (hfull : ((s.qs[es.toNat]?).getD []).length = c.queue.toNat) :
    Calls Tryz.prog 44 #[ptrV a.g,.agg #[.int .i64 et,.int .u8 ek,.int .i64 en,.int .i64 es,.int .i64 ec,.int .i64 em]] w (TaskEnd w φ Bo c rs rs' by_ a (s.call c ⟨et,ek,en,es,ec,em⟩)) := by
 subst h10
 obtain ⟨K,rfl⟩ : ∃ K : Nat,es = K := ⟨es.toNat,by omega⟩
 obtain ⟨S,hS1⟩ : ∃ S : Nat,c.shards = S := ⟨c.shards.toNat,by omega⟩
 have hKlt : K < S := by omega
 have hql := hi.ql
 rw [hS1] at hql
 obtain ⟨q,hq⟩ : ∃ q,s.qs[K]? = some q := ⟨_,List.getElem?_eq_getElem (by omega)⟩
 obtain ⟨lq,hlq⟩ : ∃ l,x.QA[K]? = some l := ⟨_,List.getElem?_eq_getElem (by have := (h0.qb (fun h => h)).2; omega)⟩
 have hcq : 1≤c.queue∧c.queue≤16 := by simp [Cfg.ok,inB] at hc; omega
 have hsn : ¬ (K : Int) < 0 := by omega
 have hsc : ¬ c.shards≤(K : Int) := by omega
 obtain ⟨R,hR⟩ : ∃ R,R = s.call c ⟨et,10,en,K,ec,em⟩ := ⟨_,rfl⟩
 rw [← hR]
 unfold TS.call at hR
 simp only at hR
 rw [hm] at hR
 have HR0 := Lib.hid hR
 obtain ⟨p,hp⟩ : ∃ p,mget x.m et = some p := by
  have := (h0.cb (fun h => h)).2 et
  cases hmx : mget x.m et with
  | none => rw [(this.2 hmx)] at hm; cases hm
  | some p => exact ⟨p,rfl⟩
 have Hmx := Lib.hid hp
 have Hm := Lib.hid hm
 have hvb := hi.cw et v hm
 unfold ptrV
 clear hR hm hp
 have HR : Hid (R = ((0,⟨0,0,et,0,0,0⟩,false),s)) := Lib.hid (by
  have := HR0.out
  simp only [hv2,Bool.false_eq_true,if_false,if_true] at this
  rw [if_pos (Or.inr (Or.inr hfull))] at this
  exact this)
 rw [Int.toNat_natCast,hq,Option.getD_some] at hfull
 clear HR0 hsn hsc
 have HS := Lib.hid hS1
 have Hq := Lib.hid hq
 have Hlq := Lib.hid hlq
 have hKi : (K : Int) < (S : Int) := by omega
 have hKi0 : (0 : Int)≤(K : Int) := by omega
 have hlqn : lq.n = q.length := ((h0.qw K q lq hq hlq (fun h => h)).1.len).symm
 clear hq hlq hql
 have hqe : (lq.n : Int) = c.queue := by omega
 clear hfull hlqn hs0 hs1
 obtain ⟨φ0,hφ0⟩ : ∃ φ0 : Nat→Nat,φ0 = fun b => if b < w.heap.size then φ b else if b < w.heap.size+3 then 50 else 50 := ⟨_,rfl⟩
 have hφ1 : ∀ b,b < w.heap.size→φ0 b = φ b := fun b hb => by rw [hφ0]; simp only [if_pos hb]
 have h : StAt w φ0 Bo c rs rs' by_ a x s := h0.relabel hφ1
 have Hφ1 := Lib.hid hφ1
 have hφ2 : ∀ b,w.heap.size≤b→b < w.heap.size+3→φ0 b = 50 := fun b hb hb2 => by rw [hφ0]; simp only [if_neg (show ¬ b < w.heap.size by omega),if_pos hb2]
 have hφ3 : ∀ b,w.heap.size+3≤b→φ0 b = 50 := fun b hb => by rw [hφ0]; simp only [if_neg (show ¬ b < w.heap.size by omega),if_neg (show ¬ b < w.heap.size+3 by omega)]
 have Hφ2 := Lib.hid hφ2
 have Hφ3 := Lib.hid hφ3
 clear hφ2 hφ3 hφ0 hφ1 h0
 have H := Lib.hid h
 have HI := Lib.hid hi
 obtain ⟨W0,hW0⟩ : ∃ W0,W0 = ((w.alloc (.cells #[.int .i64 et,.int .u8 10,.int .i64 en,.int .i64 K,.int .i64 ec,.int .i64 em] 51)).alloc (.cells #[.int .i64 0,.int .u8 0,.int .i64 0,.int .i64 0,.int .i64 0,.int .i64 0] 51)).alloc (.cells #[.int .i64 0,.int .u8 0,.int .i64 et,.int .i64 0,.int .i64 0,.int .i64 0] 51) := ⟨_,rfl⟩
 have hb0 : Below w.heap.size w W0 := hW0 ▸ bel_alloc (bel_alloc (bel_alloc (Below.refl _ _) _) _) _
 have hz0 : W0.heap.size = w.heap.size+3 := by rw [hW0]; simp
 have HEv0 : Hid (W0.heap[w.heap.size]? = some (.cells #[.int .i64 et,.int .u8 10,.int .i64 en,.int .i64 K,.int .i64 ec,.int .i64 em] 51 (0,0))) := Lib.hid (by rw [hW0,Below.heap_alloc _ _ _ (by simp; omega),Below.heap_alloc _ _ _ (by simp)]; exact blk_new _ _)
 have HE0 : Hid (W0.heap[w.heap.size+1]? = some evBox) := Lib.hid (by rw [hW0,Below.heap_alloc _ _ _ (by simp)]; have := blk_new (w.alloc (.cells #[.int .i64 et,.int .u8 10,.int .i64 en,.int .i64 K,.int .i64 ec,.int .i64 em] 51)) (.cells #[.int .i64 0,.int .u8 0,.int .i64 0,.int .i64 0,.int .i64 0,.int .i64 0] 51); simpa [evBox] using this)
 have HWt0 : Hid (W0.heap[w.heap.size+1+1]? = some (.cells #[.int .i64 0,.int .u8 0,.int .i64 et,.int .i64 0,.int .i64 0,.int .i64 0] 51 (0,0))) := Lib.hid (by rw [hW0]; have := blk_new ((w.alloc (.cells #[.int .i64 et,.int .u8 10,.int .i64 en,.int .i64 K,.int .i64 ec,.int .i64 em] 51)).alloc (.cells #[.int .i64 0,.int .u8 0,.int .i64 0,.int .i64 0,.int .i64 0,.int .i64 0] 51)) (.cells #[.int .i64 0,.int .u8 0,.int .i64 et,.int .i64 0,.int .i64 0,.int .i64 0] 51); simpa using this)
 have HS0 := Lib.hid (h.below hb0 (fun h => h) (fun h => h))
 have HB0 : Hid (Below Bo w W0) := Lib.hid (hb0.mono h.lo)
 have HZ0 := Lib.hid hz0
 clear h hi hb0 hz0
 have HE_ : Hid (v.2 = false) := Lib.hid hv2
 have d14 : W0.cell? ⟨a.g,14,none⟩ = some (.map (some a.cb)) := blk_cell (HS0.out.st (fun h => h)) 14
 have e14 : ∀ q : Ext W0,q.X.cell? ⟨a.g,14,none⟩ = some (.map (some a.cb)) := fun q => (q.h.cell (p := ⟨a.g,14,none⟩) HS0.out.fst.2.2).trans d14
 have eb : ∀ q : Ext W0,q.X.cell? ⟨w.heap.size,0,none⟩ = some (.int .i64 et) := fun q => (q.h.cell (p := ⟨w.heap.size,0,none⟩) (blk_lt HEv0.out)).trans (blk_cell HEv0.out 0)
 have elk : ∀ q : Ext W0,(Instr.lookup 63 (.map (some a.cb)) (.int .i64 et) true).run Tryz.prog q.X = .ok (.tuple #[.pointer (some ⟨p,0,none⟩),.bool true]) q.X := fun q => by
  have := ((HS0.out.cb (fun h => h)).1.of_block (q.h.block _ (HS0.out.fcb.2.2))).run_lookup kint Tryz.underlying63 (zcalled _) et true
  rw [Hmx.out] at this
  exact this
 have HW0 := Lib.hid hW0
 clear hW0 d14
 go_enter Tryz.func44,Tryz.ntmps44
 go_wp2_with fail
 rw [← HW0.out]
 refine wp_region_ext (by kernel_rfl) (by kernel_rfl) ?_
 repeat (go_big_quiet_step ((fail)))
 refine Ext.end_ fun X hX => ?_
 clear e14 eb elk
 have HS1 := Lib.hid (HS0.out.below hX (fun h => h) (fun h => h))
 have HE1 : Hid (X.heap[w.heap.size+1]? = some evBox) := Lib.hid ((hX.block _ (blk_lt HE0.out)).trans HE0.out)
 have HEv1 : Hid (X.heap[w.heap.size]? = some (.cells #[.int .i64 et,.int .u8 10,.int .i64 en,.int .i64 K,.int .i64 ec,.int .i64 em] 51 (0,0))) := Lib.hid ((hX.block _ (blk_lt HEv0.out)).trans HEv0.out)
 have HWt1 : Hid (X.heap[w.heap.size+1+1]? = some (.cells #[.int .i64 0,.int .u8 0,.int .i64 et,.int .i64 0,.int .i64 0,.int .i64 0] 51 (0,0))) := Lib.hid ((hX.block _ (blk_lt HWt0.out)).trans HWt0.out)
 have HB1 : Hid (Below Bo w X) := Lib.hid (HB0.out.trans (hX.mono HS0.out.lo))
 have HX3 : Hid (w.heap.size+3≤X.heap.size) := Lib.hid (by have := hX.size; rw [HZ0.out] at this; exact this)
 clear hX
 have hpx := HS1.out.cw et p v Hmx.out Hm.out (fun h => h)
 have HPl : Hid (φ0 p = 101+2 * (-et).toNat∧Bo≤p) := Lib.hid hpx.2
 have HP1 : Hid (X.heap[p]? = some (.cells #[.int .i64 v.1,.bool v.2] 133 (0,0))) := Lib.hid hpx.1
 have hpn : ∀ b,w.heap.size≤b→b < w.heap.size+3→p≠b := fun b h1 h2 e => by have h3 := HPl.out.1; rw [e,Hφ2.out b h1 h2] at h3; omega
 have Hpn := Lib.hid hpn
 clear hpx hpn
 have p1 : X.cell? ⟨p,1,none⟩ = some (.bool v.2) := blk_cell HP1.out 1
 rw [hv2] at p1
 have b1 : X.cell? ⟨w.heap.size,1,none⟩ = some (.int .u8 10) := blk_cell HEv1.out 1
 clear hv2
 go_wp2_with fail
 have u13 : X.cell? ⟨a.g,13,none⟩ = some (.slice (some ⟨a.qb,0,none⟩) S S) := (blk_cell (HS1.out.st (fun h => h)) 13).trans (by simp [storyC,HS.out])
 have uq : X.cell? ⟨a.qb,K,none⟩ = some (.slice lq.A lq.n lq.c) := (blk_cell (HS1.out.qb (fun h => h)).1 K).trans (by simp [Hlq.out,SL.v])
 have d1 : ∀ q : Ext X,q.X.cell? ⟨a.g,1,none⟩ = some (.int .i64 S) := fun q => (q.h.cell (p := ⟨a.g,1,none⟩) HS1.out.fst.2.2).trans ((blk_cell (HS1.out.st (fun h => h)) 1).trans (by simp [storyC,HS.out]))
 have d3 : ∀ q : Ext X,q.X.cell? ⟨a.g,3,none⟩ = some (.int .i64 c.queue) := fun q => (q.h.cell (p := ⟨a.g,3,none⟩) HS1.out.fst.2.2).trans (blk_cell (HS1.out.st (fun h => h)) 3)
 have d13 : ∀ q : Ext X,q.X.cell? ⟨a.g,13,none⟩ = some (.slice (some ⟨a.qb,0,none⟩) S S) := fun q => (q.h.cell (p := ⟨a.g,13,none⟩) HS1.out.fst.2.2).trans u13
 have dq : ∀ q : Ext X,q.X.cell? ⟨a.qb,K,none⟩ = some (.slice lq.A lq.n lq.c) := fun q => (q.h.cell (p := ⟨a.qb,K,none⟩) HS1.out.fqb.2.2).trans uq
 have t3 : ∀ q : Ext X,q.X.cell? ⟨w.heap.size,3,none⟩ = some (.int .i64 K) := fun q => (q.h.cell (p := ⟨w.heap.size,3,none⟩) (blk_lt HEv1.out)).trans (blk_cell HEv1.out 3)
 have hdk1 : decide ((K : Int) < 0) = false := decide_eq_false (by omega)
 have hdk2 : decide ((S : Int)≤(K : Int)) = false := decide_eq_false (by omega)
 have hnn : ¬ (K : Int) < 0 := by omega
 have hnS : ¬ (S : Int)≤(K : Int) := by omega
 clear p1 b1 u13 uq
 refine wp_region_ext (by kernel_rfl) (by kernel_rfl) ?_
 repeat (go_big_quiet_step ((fail)))
 refine Ext.end_ fun Y hY => ?_
 clear d1 t3 d3 d13 dq hdk1 hdk2 hnn hnS
 have HS2 := Lib.hid (HS1.out.below hY (fun h => h) (fun h => h))
 have HE2 : Hid (Y.heap[w.heap.size+1]? = some evBox) := Lib.hid ((hY.block _ (blk_lt HE1.out)).trans HE1.out)
 have HEv2 : Hid (Y.heap[w.heap.size]? = some (.cells #[.int .i64 et,.int .u8 10,.int .i64 en,.int .i64 K,.int .i64 ec,.int .i64 em] 51 (0,0))) := Lib.hid ((hY.block _ (blk_lt HEv1.out)).trans HEv1.out)
 have HWt2 : Hid (Y.heap[w.heap.size+1+1]? = some (.cells #[.int .i64 0,.int .u8 0,.int .i64 et,.int .i64 0,.int .i64 0,.int .i64 0] 51 (0,0))) := Lib.hid ((hY.block _ (blk_lt HWt1.out)).trans HWt1.out)
 have HB2 : Hid (Below Bo w Y) := Lib.hid (HB1.out.trans (hY.mono HS1.out.lo))
 have HP2 : Hid (Y.heap[p]? = some (.cells #[.int .i64 v.1,.bool v.2] 133 (0,0))) := Lib.hid ((hY.block _ (blk_lt HP1.out)).trans HP1.out)
 have HX4 : Hid (w.heap.size+3≤Y.heap.size) := Lib.hid (Nat.le_trans HX3.out hY.size)
 clear hY
 go_wp2_with fail
 have HZlt : Hid (w.heap.size+1+1≠w.heap.size+1) := Lib.hid (by omega)
 have z0 : ∀ n : KX Y (fun q => q = w.heap.size+1),n.X.cell? ⟨w.heap.size+1+1,0,none⟩ = some (.int .i64 0) := fun n => blk_cell (n.h.blk HWt2.out (blk_lt HWt2.out) HZlt.out) 0
 have z1 : ∀ n : KX Y (fun q => q = w.heap.size+1),n.X.cell? ⟨w.heap.size+1+1,1,none⟩ = some (.int .u8 0) := fun n => blk_cell (n.h.blk HWt2.out (blk_lt HWt2.out) HZlt.out) 1
 have z2 : ∀ n : KX Y (fun q => q = w.heap.size+1),n.X.cell? ⟨w.heap.size+1+1,2,none⟩ = some (.int .i64 et) := fun n => blk_cell (n.h.blk HWt2.out (blk_lt HWt2.out) HZlt.out) 2
 have z3 : ∀ n : KX Y (fun q => q = w.heap.size+1),n.X.cell? ⟨w.heap.size+1+1,3,none⟩ = some (.int .i64 0) := fun n => blk_cell (n.h.blk HWt2.out (blk_lt HWt2.out) HZlt.out) 3
 have z4 : ∀ n : KX Y (fun q => q = w.heap.size+1),n.X.cell? ⟨w.heap.size+1+1,4,none⟩ = some (.int .i64 0) := fun n => blk_cell (n.h.blk HWt2.out (blk_lt HWt2.out) HZlt.out) 4
 have z5 : ∀ n : KX Y (fun q => q = w.heap.size+1),n.X.cell? ⟨w.heap.size+1+1,5,none⟩ = some (.int .i64 0) := fun n => blk_cell (n.h.blk HWt2.out (blk_lt HWt2.out) HZlt.out) 5
 refine wp_region_reads_tail 1 (fun q => q = w.heap.size+1) (by kernel_rfl) (by kernel_rfl) (fun _ _ d _ _ h => by cases d <;> exact h) ?_
 simp only [List.take_succ_cons,List.take_zero,List.drop_succ_cons,List.drop_zero]
 repeat (go_big_quiet_step (fail))
 refine wpQuiet_nil ?_
 clear z0 z1 z2 z3 z4 z5
 have HKd : Hid (Kept Y Y.drew (fun q => q = w.heap.size+1)) := Lib.hid (Kept.of_below (bel_drew (Below.refl _ _)))
 refine tailC_one rfl ?_
 go_wp2_with fail
 refine QT.normal ⟨by first | exact fun _ => KX.in_ HKd.out | exact KX.in_ HKd.out,?_⟩
 obtain ⟨X1,hX1⟩ : ∃ X1,X1 = Y.drew.setRow (w.heap.size+1) #[.int .i64 0,.int .u8 0,.int .i64 et,.int .i64 0,.int .i64 0,.int .i64 0] := ⟨_,rfl⟩
 have hXh : X1.heap[w.heap.size+1]? = some (.cells #[.int .i64 0,.int .u8 0,.int .i64 et,.int .i64 0,.int .i64 0,.int .i64 0] 51 (0,0)) := hX1 ▸ setRow_heap _ _ _ _ _ _ HE2.out
 have hXk : Kept Y X1 (fun q => q = w.heap.size+1) := hX1 ▸ HKd.out.trans ⟨rfl,rfl,rfl,by simp [World.setRow],fun k _ hk => setRow_other _ _ _ _ hk⟩
 refine tailC_one rfl ?_
 refine wpList_store_row rfl 51 _ _ rfl (w.heap.size+1) #[.int .i64 0,.int .u8 0,.int .i64 et,.int .i64 0,.int .i64 0,.int .i64 0] rfl rfl 51 _ HE2.out (by kernel_rfl) rfl (ev_one _ _ _) ?_
 rw [← hX1]
 have HXk := Lib.hid hXk
 have HXh := Lib.hid hXh
 clear hX1 hXh hXk
 refine QT.normal ⟨by first | exact fun _ => KX.in_ HXk.out | exact KX.in_ HXk.out,?_⟩
 refine tailC_one rfl ?_
 go_wp2_with fail
 refine QT.normal ⟨by simp,?_⟩
 refine tailC_nil ?_
 have r0 : X1.cell? ⟨w.heap.size+1,0,none⟩ = some (.int .i64 0) := blk_cell HXh.out 0
 have r1 : X1.cell? ⟨w.heap.size+1,1,none⟩ = some (.int .u8 0) := blk_cell HXh.out 1
 have r2 : X1.cell? ⟨w.heap.size+1,2,none⟩ = some (.int .i64 et) := blk_cell HXh.out 2
 have r3 : X1.cell? ⟨w.heap.size+1,3,none⟩ = some (.int .i64 0) := blk_cell HXh.out 3
 have r4 : X1.cell? ⟨w.heap.size+1,4,none⟩ = some (.int .i64 0) := blk_cell HXh.out 4
 have r5 : X1.cell? ⟨w.heap.size+1,5,none⟩ = some (.int .i64 0) := blk_cell HXh.out 5
 have hBX : Below Bo w X1 := HB2.out.trans (HXk.out.below HS2.out.lo (fun q e => by rw [e]; have := H.out.lo; omega))
 have hSX := HS2.out.junk (HXk.out.mono fun q e => by rw [e]; exact Hφ2.out _ (by omega) (by omega))
 go_wp2_with fail
 refine bodyPost_ret (v := .tuple #[.int .u8 0,.agg #[.int .i64 0,.int .u8 0,.int .i64 et,.int .i64 0,.int .i64 0,.int .i64 0],.bool false]) (by simp [results,Tryz.results44,go_sem,r0,r1,r2,r3,r4,r5]) rfl ⟨φ0,_,by rw [HR.out]; rfl,Hφ1.out,by rw [HR.out]; exact hSX,hBX⟩
set_option maxHeartbeats 4000000 in
theorem callC2_any (φ : Nat→Nat) (Bo : Nat) (c : Cfg) (rs rs' : List RTx) (by_ : List Int) (M k : Nat) (a : SA) (x : SG) (s : TS) (w : World) (et ek en es ec em : Int) (h0 : StAt w φ Bo c rs rs' by_ a x s) (hi : SInv c rs rs' M k s) (hc : c.ok = true) (hk : k≤4398046511104) (ht : et < 0) {v : Int × Bool} (hm : mget s.calls et = some v) (hv2 : v.2 = false) (h10 : ek = 10) (hs0 : 0≤es) (hs1 : es < c.shards) (hfull : ¬ ((s.qs[es.toNat]?).getD []).length = c.queue.toNat) :
    Calls Tryz.prog 44 #[ptrV a.g,.agg #[.int .i64 et,.int .u8 ek,.int .i64 en,.int .i64 es,.int .i64 ec,.int .i64 em]] w (TaskEnd w φ Bo c rs rs' by_ a (s.call c ⟨et,ek,en,es,ec,em⟩)) := by
 subst h10
 obtain ⟨K,rfl⟩ : ∃ K : Nat,es = K := ⟨es.toNat,by omega⟩
 obtain ⟨S,hS1⟩ : ∃ S : Nat,c.shards = S := ⟨c.shards.toNat,by omega⟩
 have hKlt : K < S := by omega
 have hql := hi.ql
 rw [hS1] at hql
 obtain ⟨q,hq⟩ : ∃ q,s.qs[K]? = some q := ⟨_,List.getElem?_eq_getElem (by omega)⟩
 obtain ⟨lq,hlq⟩ : ∃ l,x.QA[K]? = some l := ⟨_,List.getElem?_eq_getElem (by have := (h0.qb (fun h => h)).2; omega)⟩
 have hcq : 1≤c.queue∧c.queue≤16 := by simp [Cfg.ok,inB] at hc; omega
 have hsn : ¬ (K : Int) < 0 := by omega
 have hsc : ¬ c.shards≤(K : Int) := by omega
 obtain ⟨R,hR⟩ : ∃ R,R = s.call c ⟨et,10,en,K,ec,em⟩ := ⟨_,rfl⟩
 rw [← hR]
 unfold TS.call at hR
 simp only at hR
 rw [hm] at hR
 have HR0 := Lib.hid hR
 obtain ⟨p,hp⟩ : ∃ p,mget x.m et = some p := by
  have := (h0.cb (fun h => h)).2 et
  cases hmx : mget x.m et with
  | none => rw [(this.2 hmx)] at hm; cases hm
  | some p => exact ⟨p,rfl⟩
 have Hmx := Lib.hid hp
 have Hm := Lib.hid hm
 have hvb := hi.cw et v hm
 unfold ptrV
 clear hR hm hp
 rw [Int.toNat_natCast,hq,Option.getD_some] at hfull
 have HR : Hid (R = ((10,⟨0,0,et,K,0,0⟩,true),{ s with qs := s.qs.set K (q ++ [(et,et)]),calls := mput s.calls et (v.1+1,v.2) })) := Lib.hid (by
  have := HR0.out
  simp only [hv2,Bool.false_eq_true,if_false,if_true] at this
  rw [if_neg (by rintro (h | h | h); exact hsn h; exact hsc h; exact hfull (by rw [Int.toNat_natCast,hq,Option.getD_some] at h; exact h)),Int.toNat_natCast,modify_set hq] at this
  rw [hv2]; exact this)
 have hqw2 := (hi.qw q (List.mem_of_getElem? hq)).1
 clear HR0 hsn hsc
 have HS := Lib.hid hS1
 have Hq := Lib.hid hq
 have Hlq := Lib.hid hlq
 have hKi : (K : Int) < (S : Int) := by omega
 have hKi0 : (0 : Int)≤(K : Int) := by omega
 have hlqn : lq.n = q.length := ((h0.qw K q lq hq hlq (fun h => h)).1.len).symm
 clear hq hlq hql
 have hqe : ¬ (lq.n : Int) = c.queue := by omega
 have hqn : lq.n≤16 := by omega
 clear hfull hlqn hs0 hs1 hqw2
 obtain ⟨φ0,hφ0⟩ : ∃ φ0 : Nat→Nat,φ0 = fun b => if b < w.heap.size then φ b else if b < w.heap.size+3 then 50 else 100+2 * K := ⟨_,rfl⟩
 have hφ1 : ∀ b,b < w.heap.size→φ0 b = φ b := fun b hb => by rw [hφ0]; simp only [if_pos hb]
 have h : StAt w φ0 Bo c rs rs' by_ a x s := h0.relabel hφ1
 have Hφ1 := Lib.hid hφ1
 have hφ2 : ∀ b,w.heap.size≤b→b < w.heap.size+3→φ0 b = 50 := fun b hb hb2 => by rw [hφ0]; simp only [if_neg (show ¬ b < w.heap.size by omega),if_pos hb2]
 have hφ3 : ∀ b,w.heap.size+3≤b→φ0 b = 100+2 * K := fun b hb => by rw [hφ0]; simp only [if_neg (show ¬ b < w.heap.size by omega),if_neg (show ¬ b < w.heap.size+3 by omega)]
 have Hφ2 := Lib.hid hφ2
 have Hφ3 := Lib.hid hφ3
 clear hφ2 hφ3 hφ0 hφ1 h0
 have H := Lib.hid h
 have HI := Lib.hid hi
 obtain ⟨W0,hW0⟩ : ∃ W0,W0 = ((w.alloc (.cells #[.int .i64 et,.int .u8 10,.int .i64 en,.int .i64 K,.int .i64 ec,.int .i64 em] 51)).alloc (.cells #[.int .i64 0,.int .u8 0,.int .i64 0,.int .i64 0,.int .i64 0,.int .i64 0] 51)).alloc (.cells #[.int .i64 0,.int .u8 0,.int .i64 et,.int .i64 0,.int .i64 0,.int .i64 0] 51) := ⟨_,rfl⟩
 have hb0 : Below w.heap.size w W0 := hW0 ▸ bel_alloc (bel_alloc (bel_alloc (Below.refl _ _) _) _) _
 have hz0 : W0.heap.size = w.heap.size+3 := by rw [hW0]; simp
 have HEv0 : Hid (W0.heap[w.heap.size]? = some (.cells #[.int .i64 et,.int .u8 10,.int .i64 en,.int .i64 K,.int .i64 ec,.int .i64 em] 51 (0,0))) := Lib.hid (by rw [hW0,Below.heap_alloc _ _ _ (by simp; omega),Below.heap_alloc _ _ _ (by simp)]; exact blk_new _ _)
 have HE0 : Hid (W0.heap[w.heap.size+1]? = some evBox) := Lib.hid (by rw [hW0,Below.heap_alloc _ _ _ (by simp)]; have := blk_new (w.alloc (.cells #[.int .i64 et,.int .u8 10,.int .i64 en,.int .i64 K,.int .i64 ec,.int .i64 em] 51)) (.cells #[.int .i64 0,.int .u8 0,.int .i64 0,.int .i64 0,.int .i64 0,.int .i64 0] 51); simpa [evBox] using this)
 have HWt0 : Hid (W0.heap[w.heap.size+1+1]? = some (.cells #[.int .i64 0,.int .u8 0,.int .i64 et,.int .i64 0,.int .i64 0,.int .i64 0] 51 (0,0))) := Lib.hid (by rw [hW0]; have := blk_new ((w.alloc (.cells #[.int .i64 et,.int .u8 10,.int .i64 en,.int .i64 K,.int .i64 ec,.int .i64 em] 51)).alloc (.cells #[.int .i64 0,.int .u8 0,.int .i64 0,.int .i64 0,.int .i64 0,.int .i64 0] 51)) (.cells #[.int .i64 0,.int .u8 0,.int .i64 et,.int .i64 0,.int .i64 0,.int .i64 0] 51); simpa using this)
 have HS0 := Lib.hid (h.below hb0 (fun h => h) (fun h => h))
 have HB0 : Hid (Below Bo w W0) := Lib.hid (hb0.mono h.lo)
 have HZ0 := Lib.hid hz0
 clear h hi hb0 hz0
 have HE_ : Hid (v.2 = false) := Lib.hid hv2
 have d14 : W0.cell? ⟨a.g,14,none⟩ = some (.map (some a.cb)) := blk_cell (HS0.out.st (fun h => h)) 14
 have e14 : ∀ q : Ext W0,q.X.cell? ⟨a.g,14,none⟩ = some (.map (some a.cb)) := fun q => (q.h.cell (p := ⟨a.g,14,none⟩) HS0.out.fst.2.2).trans d14
 have eb : ∀ q : Ext W0,q.X.cell? ⟨w.heap.size,0,none⟩ = some (.int .i64 et) := fun q => (q.h.cell (p := ⟨w.heap.size,0,none⟩) (blk_lt HEv0.out)).trans (blk_cell HEv0.out 0)
 have elk : ∀ q : Ext W0,(Instr.lookup 63 (.map (some a.cb)) (.int .i64 et) true).run Tryz.prog q.X = .ok (.tuple #[.pointer (some ⟨p,0,none⟩),.bool true]) q.X := fun q => by
  have := ((HS0.out.cb (fun h => h)).1.of_block (q.h.block _ (HS0.out.fcb.2.2))).run_lookup kint Tryz.underlying63 (zcalled _) et true
  rw [Hmx.out] at this
  exact this
 have HW0 := Lib.hid hW0
 clear hW0 d14
 go_enter Tryz.func44,Tryz.ntmps44
 go_wp2_with fail
 rw [← HW0.out]
 refine wp_region_ext (by kernel_rfl) (by kernel_rfl) ?_
 repeat (go_big_quiet_step ((fail)))
 refine Ext.end_ fun X hX => ?_
 clear e14 eb elk
 have HS1 := Lib.hid (HS0.out.below hX (fun h => h) (fun h => h))
 have HE1 : Hid (X.heap[w.heap.size+1]? = some evBox) := Lib.hid ((hX.block _ (blk_lt HE0.out)).trans HE0.out)
 have HEv1 : Hid (X.heap[w.heap.size]? = some (.cells #[.int .i64 et,.int .u8 10,.int .i64 en,.int .i64 K,.int .i64 ec,.int .i64 em] 51 (0,0))) := Lib.hid ((hX.block _ (blk_lt HEv0.out)).trans HEv0.out)
 have HWt1 : Hid (X.heap[w.heap.size+1+1]? = some (.cells #[.int .i64 0,.int .u8 0,.int .i64 et,.int .i64 0,.int .i64 0,.int .i64 0] 51 (0,0))) := Lib.hid ((hX.block _ (blk_lt HWt0.out)).trans HWt0.out)
 have HB1 : Hid (Below Bo w X) := Lib.hid (HB0.out.trans (hX.mono HS0.out.lo))
 have HX3 : Hid (w.heap.size+3≤X.heap.size) := Lib.hid (by have := hX.size; rw [HZ0.out] at this; exact this)
 clear hX
 have hpx := HS1.out.cw et p v Hmx.out Hm.out (fun h => h)
 have HPl : Hid (φ0 p = 101+2 * (-et).toNat∧Bo≤p) := Lib.hid hpx.2
 have HP1 : Hid (X.heap[p]? = some (.cells #[.int .i64 v.1,.bool v.2] 133 (0,0))) := Lib.hid hpx.1
 have hpn : ∀ b,w.heap.size≤b→b < w.heap.size+3→p≠b := fun b h1 h2 e => by have h3 := HPl.out.1; rw [e,Hφ2.out b h1 h2] at h3; omega
 have Hpn := Lib.hid hpn
 clear hpx hpn
 have p1 : X.cell? ⟨p,1,none⟩ = some (.bool v.2) := blk_cell HP1.out 1
 rw [hv2] at p1
 have b1 : X.cell? ⟨w.heap.size,1,none⟩ = some (.int .u8 10) := blk_cell HEv1.out 1
 clear hv2
 go_wp2_with fail
 have u13 : X.cell? ⟨a.g,13,none⟩ = some (.slice (some ⟨a.qb,0,none⟩) S S) := (blk_cell (HS1.out.st (fun h => h)) 13).trans (by simp [storyC,HS.out])
 have uq : X.cell? ⟨a.qb,K,none⟩ = some (.slice lq.A lq.n lq.c) := (blk_cell (HS1.out.qb (fun h => h)).1 K).trans (by simp [Hlq.out,SL.v])
 have d1 : ∀ q : Ext X,q.X.cell? ⟨a.g,1,none⟩ = some (.int .i64 S) := fun q => (q.h.cell (p := ⟨a.g,1,none⟩) HS1.out.fst.2.2).trans ((blk_cell (HS1.out.st (fun h => h)) 1).trans (by simp [storyC,HS.out]))
 have d3 : ∀ q : Ext X,q.X.cell? ⟨a.g,3,none⟩ = some (.int .i64 c.queue) := fun q => (q.h.cell (p := ⟨a.g,3,none⟩) HS1.out.fst.2.2).trans (blk_cell (HS1.out.st (fun h => h)) 3)
 have d13 : ∀ q : Ext X,q.X.cell? ⟨a.g,13,none⟩ = some (.slice (some ⟨a.qb,0,none⟩) S S) := fun q => (q.h.cell (p := ⟨a.g,13,none⟩) HS1.out.fst.2.2).trans u13
 have dq : ∀ q : Ext X,q.X.cell? ⟨a.qb,K,none⟩ = some (.slice lq.A lq.n lq.c) := fun q => (q.h.cell (p := ⟨a.qb,K,none⟩) HS1.out.fqb.2.2).trans uq
 have t3 : ∀ q : Ext X,q.X.cell? ⟨w.heap.size,3,none⟩ = some (.int .i64 K) := fun q => (q.h.cell (p := ⟨w.heap.size,3,none⟩) (blk_lt HEv1.out)).trans (blk_cell HEv1.out 3)
 have hdk1 : decide ((K : Int) < 0) = false := decide_eq_false (by omega)
 have hdk2 : decide ((S : Int)≤(K : Int)) = false := decide_eq_false (by omega)
 have hnn : ¬ (K : Int) < 0 := by omega
 have hnS : ¬ (S : Int)≤(K : Int) := by omega
 clear p1 b1 u13 uq
 refine wp_region_ext (by kernel_rfl) (by kernel_rfl) ?_
 repeat (go_big_quiet_step ((fail)))
 refine Ext.end_ fun Y hY => ?_
 clear d1 t3 d3 d13 dq hdk1 hdk2 hnn hnS
 have HS2 := Lib.hid (HS1.out.below hY (fun h => h) (fun h => h))
 have HE2 : Hid (Y.heap[w.heap.size+1]? = some evBox) := Lib.hid ((hY.block _ (blk_lt HE1.out)).trans HE1.out)
 have HEv2 : Hid (Y.heap[w.heap.size]? = some (.cells #[.int .i64 et,.int .u8 10,.int .i64 en,.int .i64 K,.int .i64 ec,.int .i64 em] 51 (0,0))) := Lib.hid ((hY.block _ (blk_lt HEv1.out)).trans HEv1.out)
 have HWt2 : Hid (Y.heap[w.heap.size+1+1]? = some (.cells #[.int .i64 0,.int .u8 0,.int .i64 et,.int .i64 0,.int .i64 0,.int .i64 0] 51 (0,0))) := Lib.hid ((hY.block _ (blk_lt HWt1.out)).trans HWt1.out)
 have HB2 : Hid (Below Bo w Y) := Lib.hid (HB1.out.trans (hY.mono HS1.out.lo))
 have HP2 : Hid (Y.heap[p]? = some (.cells #[.int .i64 v.1,.bool v.2] 133 (0,0))) := Lib.hid ((hY.block _ (blk_lt HP1.out)).trans HP1.out)
 have HX4 : Hid (w.heap.size+3≤Y.heap.size) := Lib.hid (Nat.le_trans HX3.out hY.size)
 clear hY
 go_wp2_with fail
 obtain ⟨hTq,hAq⟩ := HS2.out.qw K q lq Hq.out Hlq.out (fun h => h)
 obtain ⟨i0,hi0',hz0,hz1,hz2⟩ := info_parts info_ask
 obtain ⟨I,hI⟩ : ∃ I : Nat→Prop,I = fun b => ∃ a,lq.A = some a∧b = a.block := ⟨_,rfl⟩
 have hIn : ∀ b,φ0 b≠100+2 * K→¬ I b := fun b hb => by
  rw [hI]; rintro ⟨ad,e,e2⟩; exact hb (by rw [e2]; exact hAq ad e)
 have HIn := Lib.hid hIn
 have HH0 : Hid (∀ X,Kept Y X I→StH X φ0 Bo (fun j => j = 100+2 * K) c rs rs' by_ a x s) := Lib.hid (fun X k => HS2.out.holeQ Hq.out Hlq.out (hI ▸ k))
 have u13 : ∀ n : KX Y I,n.X.cell? ⟨a.g,13,none⟩ = some (.slice (some ⟨a.qb,0,none⟩) S S) := fun n => (blk_cell ((HH0.out _ n.h).st (by omega)) 13).trans (by simp [storyC,HS.out])
 have uq : ∀ n : KX Y I,n.X.cell? ⟨a.qb,K,none⟩ = some (.slice lq.A lq.n lq.c) := fun n => (blk_cell ((HH0.out _ n.h).qb (by omega)).1 K).trans (by simp [Hlq.out,SL.v])
 have u3 : ∀ n : KX Y I,n.X.cell? ⟨w.heap.size,3,none⟩ = some (.int .i64 K) := fun n => blk_cell (n.h.blk HEv2.out (blk_lt HEv2.out) (HIn.out _ (by rw [Hφ2.out _ (Nat.le_refl _) (by omega)]; omega))) 3
 have u0 : ∀ n : KX Y I,n.X.cell? ⟨w.heap.size,0,none⟩ = some (.int .i64 et) := fun n => blk_cell (n.h.blk HEv2.out (blk_lt HEv2.out) (HIn.out _ (by rw [Hφ2.out _ (Nat.le_refl _) (by omega)]; omega))) 0
 have HAl := Lib.hid hAq
 have HI2 := Lib.hid hI
 clear hTq hAq hI hIn
 refine wp_region_reads_tail 19 I (by kernel_rfl) (by kernel_rfl) (fun _ _ d _ _ h => by cases d <;> exact h) ?_
 simp only [List.take_succ_cons,List.take_zero,List.drop_succ_cons,List.drop_zero]
 repeat (go_big_quiet_step (fail))
 refine wpQuiet_nil ?_
 clear u13 uq u3 u0
 refine tailC_one rfl ?_
 go_wp2_with fail
 obtain ⟨V1,hV1⟩ : ∃ V1,V1 = (Y.alloc (.cells #[.int .i64 et,.int .i64 et] 131)).drew := ⟨_,rfl⟩
 have hb1 : Below Y.heap.size Y V1 := hV1 ▸ bel_drew (bel_alloc (Below.refl _ _) _)
 have HS3 := Lib.hid (HS2.out.below hb1 (fun h => h) (fun h => h))
 have HE3 : Hid (V1.heap[w.heap.size+1]? = some evBox) := Lib.hid ((hb1.block _ (blk_lt HE2.out)).trans HE2.out)
 have HEv3 : Hid (V1.heap[w.heap.size]? = some (.cells #[.int .i64 et,.int .u8 10,.int .i64 en,.int .i64 K,.int .i64 ec,.int .i64 em] 51 (0,0))) := Lib.hid ((hb1.block _ (blk_lt HEv2.out)).trans HEv2.out)
 have HWt3 : Hid (V1.heap[w.heap.size+1+1]? = some (.cells #[.int .i64 0,.int .u8 0,.int .i64 et,.int .i64 0,.int .i64 0,.int .i64 0] 51 (0,0))) := Lib.hid ((hb1.block _ (blk_lt HWt2.out)).trans HWt2.out)
 have HP3 : Hid (V1.heap[p]? = some (.cells #[.int .i64 v.1,.bool v.2] 133 (0,0))) := Lib.hid ((hb1.block _ (blk_lt HP2.out)).trans HP2.out)
 have HB3 : Hid (Below Bo w V1) := Lib.hid (HB2.out.trans (hb1.mono HS2.out.lo))
 have hcells : ∀ (j : Nat) (u : Value),(askC (et,et))[j]? = some u→V1.cell? ((⟨Y.heap.size,0,none⟩ : Addr).add j) = some u := fun j u hu => by
  rw [hV1]
  exact cells_new Y [.int .i64 et,.int .i64 et] 131 j u hu
 have HT1 : Hid (TkAt askC 2 131 V1 Bo lq.A lq.n lq.c q) := Lib.hid (HS3.out.qw K q lq Hq.out Hlq.out (fun h => h)).1
 have HLo1 : Hid (Bo≤V1.heap.size) := Lib.hid HS3.out.lo
 have HK1 : Hid (Kept Y V1 I) := Lib.hid (Kept.of_below hb1)
 have HVs : Hid (Y.heap.size≤V1.heap.size) := Lib.hid hb1.size
 have Hcells := Lib.hid hcells
 rw [← hV1]
 clear hV1 hb1 hcells
 refine QT.normal ⟨by first | exact fun _ => KX.in_ HK1.out | exact KX.in_ HK1.out,?_⟩
 refine tailC_one rfl ?_
 go_wp2_with (at_builtin; refine wpList_push rfl _ _ 129 rfl 131 i0 _ 2 16 Tryz.underlying129 hi0' hz0 hz1 hz2 rfl (by decide) (fun _ => rfl) one_askC Bo lq.A lq.n lq.c q rfl HT1.out HLo1.out (et,et) ⟨Y.heap.size,0,none⟩ 1 rfl Hcells.out (by simp only [maxLen]; omega) (by omega) ?_)
 intro A3 c3 w4 h1 h2 h3
 have HK4 : Hid (Kept Y w4 I) := Lib.hid (HK1.out.trans (HI2.out ▸ h2))
 have h2I : Kept V1 w4 I := HI2.out ▸ h2
 have hA3 : At φ0 (100+2 * K) A3 := fun q e => by
  rcases h3 q e with ⟨c',e1,e2⟩ | h4
  · rw [e2]; exact HAl.out c' e1
  · exact Hφ3.out _ (by have := HX4.out; have := HVs.out; omega)
 have HH := Lib.hid (HS3.out.holeQ Hq.out Hlq.out h2)
 have HE4 : Hid (w4.heap[w.heap.size+1]? = some evBox) := Lib.hid (h2I.blk HE3.out (blk_lt HE3.out) (HIn.out _ (by rw [Hφ2.out _ (by omega) (by omega)]; omega)))
 have HEv4 : Hid (w4.heap[w.heap.size]? = some (.cells #[.int .i64 et,.int .u8 10,.int .i64 en,.int .i64 K,.int .i64 ec,.int .i64 em] 51 (0,0))) := Lib.hid (h2I.blk HEv3.out (blk_lt HEv3.out) (HIn.out _ (by rw [Hφ2.out _ (by omega) (by omega)]; omega)))
 have HWt4 : Hid (w4.heap[w.heap.size+1+1]? = some (.cells #[.int .i64 0,.int .u8 0,.int .i64 et,.int .i64 0,.int .i64 0,.int .i64 0] 51 (0,0))) := Lib.hid (h2I.blk HWt3.out (blk_lt HWt3.out) (HIn.out _ (by rw [Hφ2.out _ (by omega) (by omega)]; omega)))
 have HP4 : Hid (w4.heap[p]? = some (.cells #[.int .i64 v.1,.bool v.2] 133 (0,0))) := Lib.hid (h2I.blk HP3.out (blk_lt HP3.out) (HIn.out _ (by have := HPl.out.1; omega)))
 have HB4 : Hid (Below Bo w w4) := Lib.hid (HB3.out.trans (h2.below HS3.out.lo (fun q ⟨ad',e,e2⟩ => by rw [e2]; exact ((HS3.out.qw K _ lq Hq.out Hlq.out (fun h => h)).1.lt e).1)))
 obtain ⟨n3,hn3⟩ : ∃ n3,n3 = lq.n+1 := ⟨_,rfl⟩
 rw [← hn3] at h1 ⊢
 obtain ⟨W5,hW5⟩ : ∃ W5,W5 = w4.setCell ⟨a.qb,K,none⟩ (.slice A3 n3 c3) := ⟨_,rfl⟩
 have HS5 := Lib.hid (hW5 ▸ HH.out.setQ (fun i h => h) h1 hA3)
 have hk5 : Kept w4 W5 (fun q => q = a.qb) := hW5 ▸ (Kept.refl w4 (fun q => q = a.qb)).setCell (p := ⟨a.qb,K,none⟩) (Or.inl rfl) _
 have HB5 : Hid (Below Bo w W5) := Lib.hid (HB4.out.trans (hk5.below HH.out.lo (fun q e => by rw [e]; exact H.out.fqb.2.1)))
 have HE5 : Hid (W5.heap[w.heap.size+1]? = some evBox) := Lib.hid (hk5.blk HE4.out (blk_lt HE4.out) (by have := H.out.fqb.2.2; omega))
 have HEv5 : Hid (W5.heap[w.heap.size]? = some (.cells #[.int .i64 et,.int .u8 10,.int .i64 en,.int .i64 K,.int .i64 ec,.int .i64 em] 51 (0,0))) := Lib.hid (hk5.blk HEv4.out (blk_lt HEv4.out) (by have := H.out.fqb.2.2; omega))
 have HWt5 : Hid (W5.heap[w.heap.size+1+1]? = some (.cells #[.int .i64 0,.int .u8 0,.int .i64 et,.int .i64 0,.int .i64 0,.int .i64 0] 51 (0,0))) := Lib.hid (hk5.blk HWt4.out (blk_lt HWt4.out) (by have := H.out.fqb.2.2; omega))
 have HP5 : Hid (W5.heap[p]? = some (.cells #[.int .i64 v.1,.bool v.2] 133 (0,0))) := Lib.hid (hk5.blk HP4.out (blk_lt HP4.out) (fun e => by have h1 := HPl.out.1; rw [e,H.out.fqb.1] at h1; omega))
 have dq : w4.cell? ⟨a.qb,K,none⟩ = some (.slice lq.A lq.n lq.c) := (blk_cell (HH.out.qb (by omega)).1 K).trans (by simp [Hlq.out,SL.v])
 have fq : w4.frozen? ⟨a.qb,K,none⟩ = false := blk_frozen (HH.out.qb (by omega)).1 K
 clear h1 h2 h3 h2I hk5 hn3
 refine QT.normal ⟨by first | exact fun _ => KX.in_ HK4.out | exact KX.in_ HK4.out,?_⟩
 refine tailC_one rfl ?_
 go_wp2_with fail
 refine QT.normal ⟨by first | exact fun _ => KX.in_ HK4.out | exact KX.in_ HK4.out,?_⟩
 refine tailC_one rfl ?_
 go_wp2_with fail
 refine QT.normal ⟨by simp,?_⟩
 refine tailC_nil ?_
 rw [← hW5]
 clear hW5 dq fq
 have hw6 : IntKind.i64.wrap (v.1+1) = v.1+1 := by rw [IntKind.wrap_i64]; omega
 have p0 : W5.cell? ⟨p,0,none⟩ = some (.int .i64 v.1) := blk_cell HP5.out 0
 have pf : W5.frozen? ⟨p,0,none⟩ = false := blk_frozen HP5.out 0
 have b3 : ∀ u,(W5.setCell ⟨p,0,none⟩ u).cell? ⟨w.heap.size,3,none⟩ = some (.int .i64 K) := fun u => by
  rw [World.cell?_setCell_other _ _ _ _ (by intro e; injection e with e; exact Hpn.out _ (Nat.le_refl _) (by omega) e)]; exact blk_cell HEv5.out 3
 have w3 : ∀ u,(W5.setCell ⟨p,0,none⟩ u).cell? ⟨w.heap.size+1+1,3,none⟩ = some (.int .i64 0) := fun u => by
  rw [World.cell?_setCell_other _ _ _ _ (by intro e; injection e with e; exact Hpn.out _ (by omega) (by omega) e)]; exact blk_cell HWt5.out 3
 obtain ⟨W6,hW6⟩ : ∃ W6,W6 = W5.setCell ⟨p,0,none⟩ (.int .i64 (v.1+1)) := ⟨_,rfl⟩
 have hk6 : Kept W5 W6 (fun q => q = p) := hW6 ▸ (Kept.refl W5 (fun q => q = p)).setCell (p := ⟨p,0,none⟩) (Or.inl rfl) _
 have HS6 := Lib.hid (HS5.out.setCalled (fun t v h => (HI.out.cw t v h).1) (v' := (v.1+1,v.2)) Hmx.out Hm.out hk6 (by rw [hW6]; exact blk_set HP5.out 0 _))
 have HE6 : Hid (W6.heap[w.heap.size+1]? = some evBox) := Lib.hid (hk6.blk HE5.out (blk_lt HE5.out) (fun e => Hpn.out _ (by omega) (by omega) e.symm))
 have HEv6 : Hid (W6.heap[w.heap.size]? = some (.cells #[.int .i64 et,.int .u8 10,.int .i64 en,.int .i64 K,.int .i64 ec,.int .i64 em] 51 (0,0))) := Lib.hid (hk6.blk HEv5.out (blk_lt HEv5.out) (fun e => Hpn.out _ (by omega) (by omega) e.symm))
 have HWt6 : Hid (W6.heap[w.heap.size+1+1]? = some (.cells #[.int .i64 0,.int .u8 0,.int .i64 et,.int .i64 0,.int .i64 0,.int .i64 0] 51 (0,0))) := Lib.hid (hk6.blk HWt5.out (blk_lt HWt5.out) (fun e => Hpn.out _ (by omega) (by omega) e.symm))
 have HB6 : Hid (Below Bo w W6) := Lib.hid (HB5.out.trans (hk6.below HS5.out.lo (fun q e => by rw [e]; exact HPl.out.2)))
 have wf3 : W6.frozen? ⟨w.heap.size+1+1,3,none⟩ = false := blk_frozen HWt6.out 3
 obtain ⟨W7,hW7⟩ : ∃ W7,W7 = W6.setCell ⟨w.heap.size+1+1,3,none⟩ (.int .i64 K) := ⟨_,rfl⟩
 have hk7 : Kept W6 W7 (fun q => q = w.heap.size+1+1) := hW7 ▸ (Kept.refl W6 (fun q => q = w.heap.size+1+1)).setCell (p := ⟨w.heap.size+1+1,3,none⟩) (Or.inl rfl) _
 have HS7 := Lib.hid (HS6.out.junk (hk7.mono fun q e => by rw [e]; exact Hφ2.out _ (by omega) (by omega)))
 have HE7 : Hid (W7.heap[w.heap.size+1]? = some evBox) := Lib.hid (hk7.blk HE6.out (blk_lt HE6.out) (by omega))
 have HEv7 : Hid (W7.heap[w.heap.size]? = some (.cells #[.int .i64 et,.int .u8 10,.int .i64 en,.int .i64 K,.int .i64 ec,.int .i64 em] 51 (0,0))) := Lib.hid (hk7.blk HEv6.out (blk_lt HEv6.out) (by omega))
 have HWt7 : Hid (W7.heap[w.heap.size+1+1]? = some (.cells #[.int .i64 0,.int .u8 0,.int .i64 et,.int .i64 K,.int .i64 0,.int .i64 0] 51 (0,0))) := Lib.hid (by rw [hW7]; exact blk_set HWt6.out 3 _)
 have HB7 : Hid (Below Bo w W7) := Lib.hid (HB6.out.trans (hk7.below HS6.out.lo (fun q e => by rw [e]; have := H.out.lo; omega)))
 rw [hW6] at wf3
 clear hk6 hk7
 rw [hW6] at hW7
 go_wp2_with fail
 rw [← hW7]
 clear hW7 hW6 p0 pf b3 w3 wf3 hw6
 have y1 : ∀ n : KX W7 (fun q => q = w.heap.size+1),n.X.cell? ⟨w.heap.size,1,none⟩ = some (.int .u8 10) := fun n => blk_cell (n.h.blk HEv7.out (blk_lt HEv7.out) (by omega)) 1
 have HZlt : Hid (w.heap.size+1+1≠w.heap.size+1) := Lib.hid (by omega)
 have z0 : ∀ n : KX W7 (fun q => q = w.heap.size+1),n.X.cell? ⟨w.heap.size+1+1,0,none⟩ = some (.int .i64 0) := fun n => blk_cell (n.h.blk HWt7.out (blk_lt HWt7.out) HZlt.out) 0
 have z1 : ∀ n : KX W7 (fun q => q = w.heap.size+1),n.X.cell? ⟨w.heap.size+1+1,1,none⟩ = some (.int .u8 0) := fun n => blk_cell (n.h.blk HWt7.out (blk_lt HWt7.out) HZlt.out) 1
 have z2 : ∀ n : KX W7 (fun q => q = w.heap.size+1),n.X.cell? ⟨w.heap.size+1+1,2,none⟩ = some (.int .i64 et) := fun n => blk_cell (n.h.blk HWt7.out (blk_lt HWt7.out) HZlt.out) 2
 have z3 : ∀ n : KX W7 (fun q => q = w.heap.size+1),n.X.cell? ⟨w.heap.size+1+1,3,none⟩ = some (.int .i64 K) := fun n => blk_cell (n.h.blk HWt7.out (blk_lt HWt7.out) HZlt.out) 3
 have z4 : ∀ n : KX W7 (fun q => q = w.heap.size+1),n.X.cell? ⟨w.heap.size+1+1,4,none⟩ = some (.int .i64 0) := fun n => blk_cell (n.h.blk HWt7.out (blk_lt HWt7.out) HZlt.out) 4
 have z5 : ∀ n : KX W7 (fun q => q = w.heap.size+1),n.X.cell? ⟨w.heap.size+1+1,5,none⟩ = some (.int .i64 0) := fun n => blk_cell (n.h.blk HWt7.out (blk_lt HWt7.out) HZlt.out) 5
 refine wp_region_reads_tail 3 (fun q => q = w.heap.size+1) (by kernel_rfl) (by kernel_rfl) (fun _ _ d _ _ h => by cases d <;> exact h) ?_
 simp only [List.take_succ_cons,List.take_zero,List.drop_succ_cons,List.drop_zero]
 repeat (go_big_quiet_step (fail))
 refine wpQuiet_nil ?_
 clear y1 z0 z1 z2 z3 z4 z5
 have HKd : Hid (Kept W7 W7.drew (fun q => q = w.heap.size+1)) := Lib.hid (Kept.of_below (bel_drew (Below.refl _ _)))
 refine tailC_one rfl ?_
 go_wp2_with fail
 refine QT.normal ⟨by first | exact fun _ => KX.in_ HKd.out | exact KX.in_ HKd.out,?_⟩
 obtain ⟨X1,hX1⟩ : ∃ X1,X1 = W7.drew.setRow (w.heap.size+1) #[.int .i64 0,.int .u8 0,.int .i64 et,.int .i64 K,.int .i64 0,.int .i64 0] := ⟨_,rfl⟩
 have hXh : X1.heap[w.heap.size+1]? = some (.cells #[.int .i64 0,.int .u8 0,.int .i64 et,.int .i64 K,.int .i64 0,.int .i64 0] 51 (0,0)) := hX1 ▸ setRow_heap _ _ _ _ _ _ HE7.out
 have hXk : Kept W7 X1 (fun q => q = w.heap.size+1) := hX1 ▸ HKd.out.trans ⟨rfl,rfl,rfl,by simp [World.setRow],fun k _ hk => setRow_other _ _ _ _ hk⟩
 refine tailC_one rfl ?_
 refine wpList_store_row rfl 51 _ _ rfl (w.heap.size+1) #[.int .i64 0,.int .u8 0,.int .i64 et,.int .i64 K,.int .i64 0,.int .i64 0] rfl rfl 51 _ HE7.out (by kernel_rfl) rfl (ev_one _ _ _) ?_
 rw [← hX1]
 have HXk := Lib.hid hXk
 have HXh := Lib.hid hXh
 clear hX1 hXh hXk
 refine QT.normal ⟨by first | exact fun _ => KX.in_ HXk.out | exact KX.in_ HXk.out,?_⟩
 refine tailC_one rfl ?_
 go_wp2_with fail
 refine QT.normal ⟨by simp,?_⟩
 refine tailC_nil ?_
 have r0 : X1.cell? ⟨w.heap.size+1,0,none⟩ = some (.int .i64 0) := blk_cell HXh.out 0
 have r1 : X1.cell? ⟨w.heap.size+1,1,none⟩ = some (.int .u8 0) := blk_cell HXh.out 1
 have r2 : X1.cell? ⟨w.heap.size+1,2,none⟩ = some (.int .i64 et) := blk_cell HXh.out 2
 have r3 : X1.cell? ⟨w.heap.size+1,3,none⟩ = some (.int .i64 K) := blk_cell HXh.out 3
 have r4 : X1.cell? ⟨w.heap.size+1,4,none⟩ = some (.int .i64 0) := blk_cell HXh.out 4
 have r5 : X1.cell? ⟨w.heap.size+1,5,none⟩ = some (.int .i64 0) := blk_cell HXh.out 5
 have hBX : Below Bo w X1 := HB7.out.trans (HXk.out.below HS7.out.lo (fun q e => by rw [e]; have := H.out.lo; omega))
 have hSX := HS7.out.junk (HXk.out.mono fun q e => by rw [e]; exact Hφ2.out _ (by omega) (by omega))
 go_wp2_with fail
 refine bodyPost_ret (v := .tuple #[.int .u8 10,.agg #[.int .i64 0,.int .u8 0,.int .i64 et,.int .i64 K,.int .i64 0,.int .i64 0],.bool true]) (by simp [results,Tryz.results44,go_sem,r0,r1,r2,r3,r4,r5]) rfl ⟨φ0,_,by rw [HR.out]; rfl,Hφ1.out,by rw [HR.out]; exact hSX,hBX⟩
theorem call_any (φ : Nat→Nat) (Bo : Nat) (c : Cfg) (rs rs' : List RTx) (by_ : List Int) (M k : Nat) (a : SA) (x : SG) (s : TS) (w : World) (e : Ev) (h0 : StAt w φ Bo c rs rs' by_ a x s) (hi : SInv c rs rs' M k s) (hc : c.ok = true) (hk : k≤4398046511104) (ht : e.task < 0) :
    Calls Tryz.prog 44 #[ptrV a.g,e.v] w (TaskEnd w φ Bo c rs rs' by_ a (s.call c e)) := by
 obtain ⟨et,ek,en,es,ec,em⟩ := e
 cases hm : mget s.calls et with
 | none => exact callA_any φ Bo c rs rs' by_ M k a x s w et ek en es ec em h0 hi hc hk ht hm
 | some v =>
   cases hv : v.2 with
   | true => exact callB_any φ Bo c rs rs' by_ M k a x s w et ek en es ec em h0 hi hc hk ht hm hv
   | false =>
     by_cases h10 : ek = 10
     · by_cases hs : es < 0∨c.shards≤es
       · exact callC0_any φ Bo c rs rs' by_ M k a x s w et ek en es ec em h0 hi hc hk ht hm hv h10 hs
       · by_cases hf : ((s.qs[es.toNat]?).getD []).length = c.queue.toNat
         · exact callC1_any φ Bo c rs rs' by_ M k a x s w et ek en es ec em h0 hi hc hk ht hm hv h10 (by omega) (by omega) hf
         · exact callC2_any φ Bo c rs rs' by_ M k a x s w et ek en es ec em h0 hi hc hk ht hm hv h10 (by omega) (by omega) hf
     · by_cases h11 : ek = 11
       · exact callD_any φ Bo c rs rs' by_ M k a x s w et ek en es ec em h0 hi hc hk ht hm hv h11
       · by_cases h12 : ek = 12
         · exact callE_any φ Bo c rs rs' by_ M k a x s w et ek en es ec em h0 hi hc hk ht hm hv h12
         · exact callF_any φ Bo c rs rs' by_ M k a x s w et ek en es ec em h0 hi hc hk ht hm hv h10 h11 h12
end Go.Proofs.YtcjmppjppmiggaaGreat

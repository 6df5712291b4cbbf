/- A trace's step. -/
import Derived.Test.YtcjmppjppmiggaaGreatSt7
namespace Go.Proofs.YtcjmppjppmiggaaGreat
open Go.RowKit
set_option linter.unusedVariables false
set_option linter.unusedSimpArgs false

open Go.Maps
set_option maxRecDepth 100000
theorem one_fn (f1 f2 f3 f4 f5 : FuncId) (a1 a2 a3 a4 a5 : Array Value) : (#[.func (.func f1) a1 #[],.func (.func f2) #[] a2,.func (.func f3) #[] a3,.func (.func f4) a4 #[],.func (.func f5) #[] a5] : Array Value).all (·.oneCell') = true := by simp [Value.oneCell']
set_option maxHeartbeats 2000000 in
theorem stepA_any (φ : Nat→Nat) (Bo : Nat) (c : Cfg) (rs rs' : List RTx) (by_ : List Int) (M k : Nat) (a : SA) (x : SG) (s : TS) (w : World) (et ek en es ec em : Int) (h : StAt w φ Bo c rs rs' by_ a x s) (hi : SInv c rs rs' M k s) (hc : c.ok = true) (hrl : rs.length≤65536) (hk : k≤4398046511104)
    (hlog : ∀ (i : Nat) (r : RTx),rs[i]? = some r→txB r.number r.ws = true∧r.number = (i : Int)+1) (hcap : ∀ r ∈ rs,r.len≤r.cap) (hmask : rs' = maskL M by_ rs) (hbl : a.B.n≤65536) (ht : et < 0) :
    Calls Tryz.prog 22 #[ptrV a.g,.agg #[.int .i64 et,.int .u8 ek,.int .i64 en,.int .i64 es,.int .i64 ec,.int .i64 em]] w (TaskEnd w φ Bo c rs rs' by_ a (s.step c rs rs' by_ ⟨et,ek,en,es,ec,em⟩)) := by
 have Hmask := Lib.hid hmask
 clear hmask
 obtain ⟨R,hR⟩ : ∃ R,R = s.step c rs rs' by_ ⟨et,ek,en,es,ec,em⟩ := ⟨_,rfl⟩
 rw [← hR]
 unfold TS.step at hR
 simp only at hR
 rw [if_pos ht] at hR
 unfold ptrV
 obtain ⟨W3,hW3⟩ : ∃ W3,W3 = ((w.alloc (.cells #[.pointer (some ⟨a.g,0,none⟩)] 58)).alloc (.cells #[.int .i64 et,.int .u8 ek,.int .i64 en,.int .i64 es,.int .i64 ec,.int .i64 em] 51)).alloc (.cells #[.int .i64 0,.int .u8 0,.int .i64 0,.int .i64 0,.int .i64 0,.int .i64 0] 51) := ⟨_,rfl⟩
 have hb3 : Below w.heap.size w W3 := hW3 ▸ bel_alloc (bel_alloc (bel_alloc (Below.refl _ _) _) _) _
 have hz3 : W3.heap.size = w.heap.size+1+1+1 := by rw [hW3]; simp
 have HZ : Hid ((W3.alloc (.cells #[.nilFunc,.nilFunc,.nilFunc,.nilFunc,.nilFunc] 107)).heap[w.heap.size+1+1+1]? = some (.cells #[.nilFunc,.nilFunc,.nilFunc,.nilFunc,.nilFunc] 107 (0,0))) := Lib.hid (by rw [← hz3]; exact blk_new _ _)
 obtain ⟨W1,hW1⟩ : ∃ W1,W1 = (W3.alloc (.cells #[.nilFunc,.nilFunc,.nilFunc,.nilFunc,.nilFunc] 107)).setRow (w.heap.size+1+1+1) #[.func (.func 37) #[.pointer (some ⟨a.g,0,none⟩)] #[],.func (.func 38) #[] #[.pointer (some ⟨w.heap.size,0,none⟩),.pointer (some ⟨w.heap.size+1,0,none⟩)],.func (.func 40) #[] #[.pointer (some ⟨w.heap.size,0,none⟩),.pointer (some ⟨w.heap.size+1,0,none⟩)],.func (.func 42) #[.pointer (some ⟨a.g,0,none⟩)] #[],.func (.func 43) #[] #[.pointer (some ⟨w.heap.size,0,none⟩),.pointer (some ⟨w.heap.size+1,0,none⟩)]] := ⟨_,rfl⟩
 have HF1 : Hid (W1.heap[w.heap.size+1+1+1]? = some (.cells #[.func (.func 37) #[.pointer (some ⟨a.g,0,none⟩)] #[],.func (.func 38) #[] #[.pointer (some ⟨w.heap.size,0,none⟩),.pointer (some ⟨w.heap.size+1,0,none⟩)],.func (.func 40) #[] #[.pointer (some ⟨w.heap.size,0,none⟩),.pointer (some ⟨w.heap.size+1,0,none⟩)],.func (.func 42) #[.pointer (some ⟨a.g,0,none⟩)] #[],.func (.func 43) #[] #[.pointer (some ⟨w.heap.size,0,none⟩),.pointer (some ⟨w.heap.size+1,0,none⟩)]] 107 (0,0))) := Lib.hid (hW1 ▸ setRow_heap _ _ _ _ _ _ HZ.out)
 have hb : Below w.heap.size w W1 := hW1 ▸ (bel_alloc hb3 _).trans ⟨rfl,rfl,rfl,by simp [World.setRow],fun k hk => setRow_other _ _ k _ (by omega)⟩
 have hz : W1.heap.size = w.heap.size+4 := by rw [hW1]; simp [World.setRow,hz3]
 have hlow : ∀ b,b < w.heap.size+3→W1.heap[b]? = W3.heap[b]? := fun b hb2 => by
  rw [hW1,setRow_other _ _ _ _ (by omega),Below.heap_alloc _ _ _ (by omega)]
 have HB1 : Hid (W1.heap[w.heap.size]? = some (.cells #[ptrV a.g] 58 (0,0))) := Lib.hid (by rw [hlow _ (by omega),hW3,Below.heap_alloc _ _ _ (by simp; omega),Below.heap_alloc _ _ _ (by simp)]; exact blk_new _ _)
 have HB2 : Hid (W1.heap[w.heap.size+1]? = some (.cells #[.int .i64 et,.int .u8 ek,.int .i64 en,.int .i64 es,.int .i64 ec,.int .i64 em] 51 (0,0))) := Lib.hid (by rw [hlow _ (by omega),hW3,Below.heap_alloc _ _ _ (by simp)]; have := blk_new (w.alloc (.cells #[.pointer (some ⟨a.g,0,none⟩)] 58)) (.cells #[.int .i64 et,.int .u8 ek,.int .i64 en,.int .i64 es,.int .i64 ec,.int .i64 em] 51); simpa using this)
 have HB3 : Hid (W1.heap[w.heap.size+1+1]? = some (.cells #[.int .i64 0,.int .u8 0,.int .i64 0,.int .i64 0,.int .i64 0,.int .i64 0] 51 (0,0))) := Lib.hid (by rw [hlow _ (by omega),hW3]; have := blk_new ((w.alloc (.cells #[.pointer (some ⟨a.g,0,none⟩)] 58)).alloc (.cells #[.int .i64 et,.int .u8 ek,.int .i64 en,.int .i64 es,.int .i64 ec,.int .i64 em] 51)) (.cells #[.int .i64 0,.int .u8 0,.int .i64 0,.int .i64 0,.int .i64 0,.int .i64 0] 51); simpa using this)
 have H := Lib.hid h
 have HBl := Lib.hid hb
 have Hz := Lib.hid hz
 have HW1 := Lib.hid hW1
 have HW3 := Lib.hid hW3
 have s0 : W1.cell? ⟨w.heap.size,0,none⟩ = some (.pointer (some ⟨a.g,0,none⟩)) := blk_cell HB1.out 0
 have cg0 : W1.cell? ⟨a.g,0,none⟩ = some (.int .i64 c.lanes) := (hb.cell (p := ⟨a.g,0,none⟩) h.fst.2.2).trans (blk_cell (h.st (fun h => h)) 0)
 have cg1 : W1.cell? ⟨a.g,1,none⟩ = some (.int .i64 c.shards) := (hb.cell (p := ⟨a.g,1,none⟩) h.fst.2.2).trans (blk_cell (h.st (fun h => h)) 1)
 have hgW : a.g < W1.heap.size := Nat.lt_of_lt_of_le h.fst.2.2 hb.size
 have hfun := HF1.out
 have t0 : W1.cell? ⟨w.heap.size+1,0,none⟩ = some (.int .i64 et) := blk_cell HB2.out 0
 rw [hW3] at HZ hW1
 clear hb3 hz3 hb hz hlow hW3 h
 go_enter Tryz.func22,Tryz.ntmps22
 go_upto_region 2 with (with_reducible refine wpList_store_row rfl 107 _ _ rfl (w.heap.size+1+1+1) #[.func (.func 37) #[.pointer (some ⟨a.g,0,none⟩)] #[],.func (.func 38) #[] #[.pointer (some ⟨w.heap.size,0,none⟩),.pointer (some ⟨w.heap.size+1,0,none⟩)],.func (.func 40) #[] #[.pointer (some ⟨w.heap.size,0,none⟩),.pointer (some ⟨w.heap.size+1,0,none⟩)],.func (.func 42) #[.pointer (some ⟨a.g,0,none⟩)] #[],.func (.func 43) #[] #[.pointer (some ⟨w.heap.size,0,none⟩),.pointer (some ⟨w.heap.size+1,0,none⟩)]] rfl rfl 107 _ HZ.out (by kernel_rfl) rfl (one_fn _ _ _ _ _ _ _ _ _ _) ?_)
 rw [← hW1]
 clear hW1 HZ
 clear hfun cg0 cg1
 have HBx := HBl
 have HFx := HF1
 have HB1x := HB1
 have HB2x := HB2
 have HB3x := HB3
 have f4 : W1.cell? ⟨w.heap.size+1+1+1,4,none⟩ = some (.func (.func 43) #[] #[.pointer (some ⟨w.heap.size,0,none⟩),.pointer (some ⟨w.heap.size+1,0,none⟩)]) := blk_cell HFx.out 4
 obtain ⟨⟨rk,⟨r0,r1,r2,r3,r4,r5⟩,rb⟩,rs2⟩ := R
 have HSx := Lib.hid (H.out.boxed HBx.out)
 have HR0 := Lib.hid hR
 clear hR
 have HIn := Lib.hid (clos3_any _ Bo c rs rs' by_ _ x s W1 ⟨et,ek,en,es,ec,em⟩ (w.heap.size) (w.heap.size+1) _ HSx.out HB1x.out HB2x.out (fun W ψ N F x2 hs => call_any ψ Bo c rs rs' by_ M k _ x2 s W ⟨et,ek,en,es,ec,em⟩ hs hi hc hk ht))
 rw [← HR0.out] at HIn
 go_wp2_with fail
 refine HIn.out.mono ?_
 rintro e1 w2 hte
 have HT := Lib.hid hte
 obtain ⟨φ',x',rfl,-⟩ := hte
 have HE2 : Hid (w2.heap[w.heap.size+1+1]? = some (.cells #[.int .i64 0,.int .u8 0,.int .i64 0,.int .i64 0,.int .i64 0,.int .i64 0] 51 (0,0))) := Lib.hid ((HT.out.box (by omega) (blk_lt HB3x.out)).trans HB3x.out)
 simp only [Ev.v]
 have g0 := blk_cell HE2.out 0
 have g1 := blk_cell HE2.out 1
 have g2 := blk_cell HE2.out 2
 have g3 := blk_cell HE2.out 3
 have g4 := blk_cell HE2.out 4
 have g5 := blk_cell HE2.out 5
 have k0 := blk_frozen HE2.out 0
 have k1 := blk_frozen HE2.out 1
 have k2 := blk_frozen HE2.out 2
 have k3 := blk_frozen HE2.out 3
 have k4 := blk_frozen HE2.out 4
 have k5 := blk_frozen HE2.out 5
 go_wp2_with fail
 obtain ⟨X0,hX0⟩ : ∃ X0,X0 = ((((((w2.setCell ⟨w.heap.size+1+1,0,none⟩ (.int .i64 r0)).setCell ⟨w.heap.size+1+1,1,none⟩ (.int .u8 r1)).setCell ⟨w.heap.size+1+1,2,none⟩ (.int .i64 r2)).setCell ⟨w.heap.size+1+1,3,none⟩ (.int .i64 r3)).setCell ⟨w.heap.size+1+1,4,none⟩ (.int .i64 r4)).setCell ⟨w.heap.size+1+1,5,none⟩ (.int .i64 r5)) := ⟨_,rfl⟩
 rw [← hX0]
 obtain ⟨hXk,y0,y1,y2,y3,y4,y5⟩ := ev_box HE2.out rfl _ _ _ _ _ _ hX0
 clear hX0
 refine bodyPost_ret (v := .tuple #[.int .u8 rk,.agg #[.int .i64 r0,.int .u8 r1,.int .i64 r2,.int .i64 r3,.int .i64 r4,.int .i64 r5],.bool rb]) (by simp [results,Tryz.results22,go_sem,y0,y1,y2,y3,y4,y5]) rfl (TaskEnd.lift H.out HBx.out HT.out (by omega) (blk_lt HB3x.out) hXk)
set_option maxHeartbeats 2000000 in
theorem stepB_any (φ : Nat→Nat) (Bo : Nat) (c : Cfg) (rs rs' : List RTx) (by_ : List Int) (M k : Nat) (a : SA) (x : SG) (s : TS) (w : World) (et ek en es ec em : Int) (h : StAt w φ Bo c rs rs' by_ a x s) (hi : SInv c rs rs' M k s) (hc : c.ok = true) (hrl : rs.length≤65536) (hk : k≤4398046511104)
    (hlog : ∀ (i : Nat) (r : RTx),rs[i]? = some r→txB r.number r.ws = true∧r.number = (i : Int)+1) (hcap : ∀ r ∈ rs,r.len≤r.cap) (hmask : rs' = maskL M by_ rs) (hbl : a.B.n≤65536) (ht : et = 0) :
    Calls Tryz.prog 22 #[ptrV a.g,.agg #[.int .i64 et,.int .u8 ek,.int .i64 en,.int .i64 es,.int .i64 ec,.int .i64 em]] w (TaskEnd w φ Bo c rs rs' by_ a (s.step c rs rs' by_ ⟨et,ek,en,es,ec,em⟩)) := by
 subst ht
 have Hmask := Lib.hid hmask
 clear hmask
 obtain ⟨R,hR⟩ : ∃ R,R = s.step c rs rs' by_ ⟨0,ek,en,es,ec,em⟩ := ⟨_,rfl⟩
 rw [← hR]
 unfold TS.step at hR
 simp only at hR
 rw [if_neg (by omega),if_pos trivial] at hR
 unfold ptrV
 obtain ⟨W3,hW3⟩ : ∃ W3,W3 = ((w.alloc (.cells #[.pointer (some ⟨a.g,0,none⟩)] 58)).alloc (.cells #[.int .i64 0,.int .u8 ek,.int .i64 en,.int .i64 es,.int .i64 ec,.int .i64 em] 51)).alloc (.cells #[.int .i64 0,.int .u8 0,.int .i64 0,.int .i64 0,.int .i64 0,.int .i64 0] 51) := ⟨_,rfl⟩
 have hb3 : Below w.heap.size w W3 := hW3 ▸ bel_alloc (bel_alloc (bel_alloc (Below.refl _ _) _) _) _
 have hz3 : W3.heap.size = w.heap.size+1+1+1 := by rw [hW3]; simp
 have HZ : Hid ((W3.alloc (.cells #[.nilFunc,.nilFunc,.nilFunc,.nilFunc,.nilFunc] 107)).heap[w.heap.size+1+1+1]? = some (.cells #[.nilFunc,.nilFunc,.nilFunc,.nilFunc,.nilFunc] 107 (0,0))) := Lib.hid (by rw [← hz3]; exact blk_new _ _)
 obtain ⟨W1,hW1⟩ : ∃ W1,W1 = (W3.alloc (.cells #[.nilFunc,.nilFunc,.nilFunc,.nilFunc,.nilFunc] 107)).setRow (w.heap.size+1+1+1) #[.func (.func 37) #[.pointer (some ⟨a.g,0,none⟩)] #[],.func (.func 38) #[] #[.pointer (some ⟨w.heap.size,0,none⟩),.pointer (some ⟨w.heap.size+1,0,none⟩)],.func (.func 40) #[] #[.pointer (some ⟨w.heap.size,0,none⟩),.pointer (some ⟨w.heap.size+1,0,none⟩)],.func (.func 42) #[.pointer (some ⟨a.g,0,none⟩)] #[],.func (.func 43) #[] #[.pointer (some ⟨w.heap.size,0,none⟩),.pointer (some ⟨w.heap.size+1,0,none⟩)]] := ⟨_,rfl⟩
 have HF1 : Hid (W1.heap[w.heap.size+1+1+1]? = some (.cells #[.func (.func 37) #[.pointer (some ⟨a.g,0,none⟩)] #[],.func (.func 38) #[] #[.pointer (some ⟨w.heap.size,0,none⟩),.pointer (some ⟨w.heap.size+1,0,none⟩)],.func (.func 40) #[] #[.pointer (some ⟨w.heap.size,0,none⟩),.pointer (some ⟨w.heap.size+1,0,none⟩)],.func (.func 42) #[.pointer (some ⟨a.g,0,none⟩)] #[],.func (.func 43) #[] #[.pointer (some ⟨w.heap.size,0,none⟩),.pointer (some ⟨w.heap.size+1,0,none⟩)]] 107 (0,0))) := Lib.hid (hW1 ▸ setRow_heap _ _ _ _ _ _ HZ.out)
 have hb : Below w.heap.size w W1 := hW1 ▸ (bel_alloc hb3 _).trans ⟨rfl,rfl,rfl,by simp [World.setRow],fun k hk => setRow_other _ _ k _ (by omega)⟩
 have hz : W1.heap.size = w.heap.size+4 := by rw [hW1]; simp [World.setRow,hz3]
 have hlow : ∀ b,b < w.heap.size+3→W1.heap[b]? = W3.heap[b]? := fun b hb2 => by
  rw [hW1,setRow_other _ _ _ _ (by omega),Below.heap_alloc _ _ _ (by omega)]
 have HB1 : Hid (W1.heap[w.heap.size]? = some (.cells #[ptrV a.g] 58 (0,0))) := Lib.hid (by rw [hlow _ (by omega),hW3,Below.heap_alloc _ _ _ (by simp; omega),Below.heap_alloc _ _ _ (by simp)]; exact blk_new _ _)
 have HB2 : Hid (W1.heap[w.heap.size+1]? = some (.cells #[.int .i64 0,.int .u8 ek,.int .i64 en,.int .i64 es,.int .i64 ec,.int .i64 em] 51 (0,0))) := Lib.hid (by rw [hlow _ (by omega),hW3,Below.heap_alloc _ _ _ (by simp)]; have := blk_new (w.alloc (.cells #[.pointer (some ⟨a.g,0,none⟩)] 58)) (.cells #[.int .i64 0,.int .u8 ek,.int .i64 en,.int .i64 es,.int .i64 ec,.int .i64 em] 51); simpa using this)
 have HB3 : Hid (W1.heap[w.heap.size+1+1]? = some (.cells #[.int .i64 0,.int .u8 0,.int .i64 0,.int .i64 0,.int .i64 0,.int .i64 0] 51 (0,0))) := Lib.hid (by rw [hlow _ (by omega),hW3]; have := blk_new ((w.alloc (.cells #[.pointer (some ⟨a.g,0,none⟩)] 58)).alloc (.cells #[.int .i64 0,.int .u8 ek,.int .i64 en,.int .i64 es,.int .i64 ec,.int .i64 em] 51)) (.cells #[.int .i64 0,.int .u8 0,.int .i64 0,.int .i64 0,.int .i64 0,.int .i64 0] 51); simpa using this)
 have H := Lib.hid h
 have HBl := Lib.hid hb
 have Hz := Lib.hid hz
 have HW1 := Lib.hid hW1
 have HW3 := Lib.hid hW3
 have s0 : W1.cell? ⟨w.heap.size,0,none⟩ = some (.pointer (some ⟨a.g,0,none⟩)) := blk_cell HB1.out 0
 have cg0 : W1.cell? ⟨a.g,0,none⟩ = some (.int .i64 c.lanes) := (hb.cell (p := ⟨a.g,0,none⟩) h.fst.2.2).trans (blk_cell (h.st (fun h => h)) 0)
 have cg1 : W1.cell? ⟨a.g,1,none⟩ = some (.int .i64 c.shards) := (hb.cell (p := ⟨a.g,1,none⟩) h.fst.2.2).trans (blk_cell (h.st (fun h => h)) 1)
 have hgW : a.g < W1.heap.size := Nat.lt_of_lt_of_le h.fst.2.2 hb.size
 have hfun := HF1.out
 have t0 : W1.cell? ⟨w.heap.size+1,0,none⟩ = some (.int .i64 0) := blk_cell HB2.out 0
 rw [hW3] at HZ hW1
 clear hb3 hz3 hb hz hlow hW3 h
 go_enter Tryz.func22,Tryz.ntmps22
 go_upto_region 2 with (with_reducible refine wpList_store_row rfl 107 _ _ rfl (w.heap.size+1+1+1) #[.func (.func 37) #[.pointer (some ⟨a.g,0,none⟩)] #[],.func (.func 38) #[] #[.pointer (some ⟨w.heap.size,0,none⟩),.pointer (some ⟨w.heap.size+1,0,none⟩)],.func (.func 40) #[] #[.pointer (some ⟨w.heap.size,0,none⟩),.pointer (some ⟨w.heap.size+1,0,none⟩)],.func (.func 42) #[.pointer (some ⟨a.g,0,none⟩)] #[],.func (.func 43) #[] #[.pointer (some ⟨w.heap.size,0,none⟩),.pointer (some ⟨w.heap.size+1,0,none⟩)]] rfl rfl 107 _ HZ.out (by kernel_rfl) rfl (one_fn _ _ _ _ _ _ _ _ _ _) ?_)
 rw [← hW1]
 clear hW1 HZ
 clear hfun cg0 cg1
 have HBx := HBl
 have HFx := HF1
 have HB1x := HB1
 have HB2x := HB2
 have HB3x := HB3
 have f0 : W1.cell? ⟨w.heap.size+1+1+1,0,none⟩ = some (.func (.func 37) #[.pointer (some ⟨a.g,0,none⟩)] #[]) := blk_cell HFx.out 0
 obtain ⟨⟨rk,⟨r0,r1,r2,r3,r4,r5⟩,rb⟩,rs2⟩ := R
 have HSx := Lib.hid (H.out.boxed HBx.out)
 have HR0 := Lib.hid hR
 clear hR
 have HIn := Lib.hid (feed_any _ Bo c rs rs' by_ M k _ x s W1 HSx.out hi hc hrl hlog Hmask.out hbl)
 rw [← HR0.out] at HIn
 go_wp2_with fail
 refine HIn.out.mono ?_
 rintro e1 w2 hte
 have HT := Lib.hid hte
 obtain ⟨φ',x',rfl,-⟩ := hte
 have HE2 : Hid (w2.heap[w.heap.size+1+1]? = some (.cells #[.int .i64 0,.int .u8 0,.int .i64 0,.int .i64 0,.int .i64 0,.int .i64 0] 51 (0,0))) := Lib.hid ((HT.out.box (by omega) (blk_lt HB3x.out)).trans HB3x.out)
 simp only [Ev.v]
 have g0 := blk_cell HE2.out 0
 have g1 := blk_cell HE2.out 1
 have g2 := blk_cell HE2.out 2
 have g3 := blk_cell HE2.out 3
 have g4 := blk_cell HE2.out 4
 have g5 := blk_cell HE2.out 5
 have k0 := blk_frozen HE2.out 0
 have k1 := blk_frozen HE2.out 1
 have k2 := blk_frozen HE2.out 2
 have k3 := blk_frozen HE2.out 3
 have k4 := blk_frozen HE2.out 4
 have k5 := blk_frozen HE2.out 5
 go_wp2_with fail
 obtain ⟨X0,hX0⟩ : ∃ X0,X0 = ((((((w2.setCell ⟨w.heap.size+1+1,0,none⟩ (.int .i64 r0)).setCell ⟨w.heap.size+1+1,1,none⟩ (.int .u8 r1)).setCell ⟨w.heap.size+1+1,2,none⟩ (.int .i64 r2)).setCell ⟨w.heap.size+1+1,3,none⟩ (.int .i64 r3)).setCell ⟨w.heap.size+1+1,4,none⟩ (.int .i64 r4)).setCell ⟨w.heap.size+1+1,5,none⟩ (.int .i64 r5)) := ⟨_,rfl⟩
 rw [← hX0]
 obtain ⟨hXk,y0,y1,y2,y3,y4,y5⟩ := ev_box HE2.out rfl _ _ _ _ _ _ hX0
 clear hX0
 refine bodyPost_ret (v := .tuple #[.int .u8 rk,.agg #[.int .i64 r0,.int .u8 r1,.int .i64 r2,.int .i64 r3,.int .i64 r4,.int .i64 r5],.bool rb]) (by simp [results,Tryz.results22,go_sem,y0,y1,y2,y3,y4,y5]) rfl (TaskEnd.lift H.out HBx.out HT.out (by omega) (blk_lt HB3x.out) hXk)
set_option maxHeartbeats 2000000 in
theorem stepE_any (φ : Nat→Nat) (Bo : Nat) (c : Cfg) (rs rs' : List RTx) (by_ : List Int) (M k : Nat) (a : SA) (x : SG) (s : TS) (w : World) (et ek en es ec em : Int) (h : StAt w φ Bo c rs rs' by_ a x s) (hi : SInv c rs rs' M k s) (hc : c.ok = true) (hrl : rs.length≤65536) (hk : k≤4398046511104)
    (hlog : ∀ (i : Nat) (r : RTx),rs[i]? = some r→txB r.number r.ws = true∧r.number = (i : Int)+1) (hcap : ∀ r ∈ rs,r.len≤r.cap) (hmask : rs' = maskL M by_ rs) (hbl : a.B.n≤65536) (ht : et = c.lanes+c.shards+1) :
    Calls Tryz.prog 22 #[ptrV a.g,.agg #[.int .i64 et,.int .u8 ek,.int .i64 en,.int .i64 es,.int .i64 ec,.int .i64 em]] w (TaskEnd w φ Bo c rs rs' by_ a (s.step c rs rs' by_ ⟨et,ek,en,es,ec,em⟩)) := by
 have Hmask := Lib.hid hmask
 clear hmask
 obtain ⟨R,hR⟩ : ∃ R,R = s.step c rs rs' by_ ⟨et,ek,en,es,ec,em⟩ := ⟨_,rfl⟩
 rw [← hR]
 unfold TS.step at hR
 simp only at hR
 have hcl : 1≤c.lanes∧c.lanes≤16∧1≤c.shards∧c.shards≤16 := by simp [Cfg.ok,inB] at hc; omega
 rw [if_neg (by omega),if_neg (by omega),if_neg (by omega),if_neg (by omega),if_pos ht] at hR
 have hn0 : ¬ et < 0 := by omega
 have hn1 : ¬ et = 0 := by omega
 have hn2 : ¬ et≤c.lanes := by omega
 have hn3 : ¬ et≤c.lanes+c.shards := by omega
 have hn4 : et = c.lanes+c.shards+1 := ht
 have hw1 : IntKind.i64.wrap (c.lanes+c.shards) = c.lanes+c.shards := by rw [IntKind.wrap_i64]; omega
 have hw2 : IntKind.i64.wrap (c.lanes+c.shards+1) = c.lanes+c.shards+1 := by rw [IntKind.wrap_i64]; omega
 have Hn4 := Lib.hid hn4
 have hbe : (et == c.lanes+c.shards+1) = true := by simpa using ht
 unfold ptrV
 clear ht hn4
 obtain ⟨W3,hW3⟩ : ∃ W3,W3 = ((w.alloc (.cells #[.pointer (some ⟨a.g,0,none⟩)] 58)).alloc (.cells #[.int .i64 et,.int .u8 ek,.int .i64 en,.int .i64 es,.int .i64 ec,.int .i64 em] 51)).alloc (.cells #[.int .i64 0,.int .u8 0,.int .i64 0,.int .i64 0,.int .i64 0,.int .i64 0] 51) := ⟨_,rfl⟩
 have hb3 : Below w.heap.size w W3 := hW3 ▸ bel_alloc (bel_alloc (bel_alloc (Below.refl _ _) _) _) _
 have hz3 : W3.heap.size = w.heap.size+1+1+1 := by rw [hW3]; simp
 have HZ : Hid ((W3.alloc (.cells #[.nilFunc,.nilFunc,.nilFunc,.nilFunc,.nilFunc] 107)).heap[w.heap.size+1+1+1]? = some (.cells #[.nilFunc,.nilFunc,.nilFunc,.nilFunc,.nilFunc] 107 (0,0))) := Lib.hid (by rw [← hz3]; exact blk_new _ _)
 obtain ⟨W1,hW1⟩ : ∃ W1,W1 = (W3.alloc (.cells #[.nilFunc,.nilFunc,.nilFunc,.nilFunc,.nilFunc] 107)).setRow (w.heap.size+1+1+1) #[.func (.func 37) #[.pointer (some ⟨a.g,0,none⟩)] #[],.func (.func 38) #[] #[.pointer (some ⟨w.heap.size,0,none⟩),.pointer (some ⟨w.heap.size+1,0,none⟩)],.func (.func 40) #[] #[.pointer (some ⟨w.heap.size,0,none⟩),.pointer (some ⟨w.heap.size+1,0,none⟩)],.func (.func 42) #[.pointer (some ⟨a.g,0,none⟩)] #[],.func (.func 43) #[] #[.pointer (some ⟨w.heap.size,0,none⟩),.pointer (some ⟨w.heap.size+1,0,none⟩)]] := ⟨_,rfl⟩
 have HF1 : Hid (W1.heap[w.heap.size+1+1+1]? = some (.cells #[.func (.func 37) #[.pointer (some ⟨a.g,0,none⟩)] #[],.func (.func 38) #[] #[.pointer (some ⟨w.heap.size,0,none⟩),.pointer (some ⟨w.heap.size+1,0,none⟩)],.func (.func 40) #[] #[.pointer (some ⟨w.heap.size,0,none⟩),.pointer (some ⟨w.heap.size+1,0,none⟩)],.func (.func 42) #[.pointer (some ⟨a.g,0,none⟩)] #[],.func (.func 43) #[] #[.pointer (some ⟨w.heap.size,0,none⟩),.pointer (some ⟨w.heap.size+1,0,none⟩)]] 107 (0,0))) := Lib.hid (hW1 ▸ setRow_heap _ _ _ _ _ _ HZ.out)
 have hb : Below w.heap.size w W1 := hW1 ▸ (bel_alloc hb3 _).trans ⟨rfl,rfl,rfl,by simp [World.setRow],fun k hk => setRow_other _ _ k _ (by omega)⟩
 have hz : W1.heap.size = w.heap.size+4 := by rw [hW1]; simp [World.setRow,hz3]
 have hlow : ∀ b,b < w.heap.size+3→W1.heap[b]? = W3.heap[b]? := fun b hb2 => by
  rw [hW1,setRow_other _ _ _ _ (by omega),Below.heap_alloc _ _ _ (by omega)]
 have HB1 : Hid (W1.heap[w.heap.size]? = some (.cells #[ptrV a.g] 58 (0,0))) := Lib.hid (by rw [hlow _ (by omega),hW3,Below.heap_alloc _ _ _ (by simp; omega),Below.heap_alloc _ _ _ (by simp)]; exact blk_new _ _)
 have HB2 : Hid (W1.heap[w.heap.size+1]? = some (.cells #[.int .i64 et,.int .u8 ek,.int .i64 en,.int .i64 es,.int .i64 ec,.int .i64 em] 51 (0,0))) := Lib.hid (by rw [hlow _ (by omega),hW3,Below.heap_alloc _ _ _ (by simp)]; have := blk_new (w.alloc (.cells #[.pointer (some ⟨a.g,0,none⟩)] 58)) (.cells #[.int .i64 et,.int .u8 ek,.int .i64 en,.int .i64 es,.int .i64 ec,.int .i64 em] 51); simpa using this)
 have HB3 : Hid (W1.heap[w.heap.size+1+1]? = some (.cells #[.int .i64 0,.int .u8 0,.int .i64 0,.int .i64 0,.int .i64 0,.int .i64 0] 51 (0,0))) := Lib.hid (by rw [hlow _ (by omega),hW3]; have := blk_new ((w.alloc (.cells #[.pointer (some ⟨a.g,0,none⟩)] 58)).alloc (.cells #[.int .i64 et,.int .u8 ek,.int .i64 en,.int .i64 es,.int .i64 ec,.int .i64 em] 51)) (.cells #[.int .i64 0,.int .u8 0,.int .i64 0,.int .i64 0,.int .i64 0,.int .i64 0] 51); simpa using this)
 have H := Lib.hid h
 have HBl := Lib.hid hb
 have Hz := Lib.hid hz
 have HW1 := Lib.hid hW1
 have HW3 := Lib.hid hW3
 have s0 : W1.cell? ⟨w.heap.size,0,none⟩ = some (.pointer (some ⟨a.g,0,none⟩)) := blk_cell HB1.out 0
 have cg0 : W1.cell? ⟨a.g,0,none⟩ = some (.int .i64 c.lanes) := (hb.cell (p := ⟨a.g,0,none⟩) h.fst.2.2).trans (blk_cell (h.st (fun h => h)) 0)
 have cg1 : W1.cell? ⟨a.g,1,none⟩ = some (.int .i64 c.shards) := (hb.cell (p := ⟨a.g,1,none⟩) h.fst.2.2).trans (blk_cell (h.st (fun h => h)) 1)
 have hgW : a.g < W1.heap.size := Nat.lt_of_lt_of_le h.fst.2.2 hb.size
 have hfun := HF1.out
 have t0 : W1.cell? ⟨w.heap.size+1,0,none⟩ = some (.int .i64 et) := blk_cell HB2.out 0
 rw [hW3] at HZ hW1
 clear hb3 hz3 hb hz hlow hW3 h
 go_enter Tryz.func22,Tryz.ntmps22
 go_upto_region 2 with (with_reducible refine wpList_store_row rfl 107 _ _ rfl (w.heap.size+1+1+1) #[.func (.func 37) #[.pointer (some ⟨a.g,0,none⟩)] #[],.func (.func 38) #[] #[.pointer (some ⟨w.heap.size,0,none⟩),.pointer (some ⟨w.heap.size+1,0,none⟩)],.func (.func 40) #[] #[.pointer (some ⟨w.heap.size,0,none⟩),.pointer (some ⟨w.heap.size+1,0,none⟩)],.func (.func 42) #[.pointer (some ⟨a.g,0,none⟩)] #[],.func (.func 43) #[] #[.pointer (some ⟨w.heap.size,0,none⟩),.pointer (some ⟨w.heap.size+1,0,none⟩)]] rfl rfl 107 _ HZ.out (by kernel_rfl) rfl (one_fn _ _ _ _ _ _ _ _ _ _) ?_)
 rw [← hW1]
 clear hW1 HZ
 clear hfun
 go_wp2_with fail
 have n0 : ∀ q : Ext W1,q.X.cell? ⟨w.heap.size,0,none⟩ = some (.pointer (some ⟨a.g,0,none⟩)) := fun q => blk_cell ((q.h.block _ (blk_lt HB1.out)).trans HB1.out) 0
 have n1 : ∀ q : Ext W1,q.X.cell? ⟨a.g,0,none⟩ = some (.int .i64 c.lanes) := fun q => (q.h.cell (p := ⟨a.g,0,none⟩) (Nat.lt_of_lt_of_le H.out.fst.2.2 HBl.out.size)).trans (((HBl.out).cell (p := ⟨a.g,0,none⟩) H.out.fst.2.2).trans (blk_cell (H.out.st (fun h => h)) 0))
 have n2 : ∀ q : Ext W1,q.X.cell? ⟨a.g,1,none⟩ = some (.int .i64 c.shards) := fun q => (q.h.cell (p := ⟨a.g,1,none⟩) (Nat.lt_of_lt_of_le H.out.fst.2.2 HBl.out.size)).trans (((HBl.out).cell (p := ⟨a.g,1,none⟩) H.out.fst.2.2).trans (blk_cell (H.out.st (fun h => h)) 1))
 refine wp_region_ext (by kernel_rfl) (by kernel_rfl) ?_
 repeat (go_big_quiet_step ((fail)))
 refine Ext.end_ fun X hX => ?_
 clear n0 n1 n2
 have HBv : Hid (Below w.heap.size w X) := Lib.hid (HBl.out.trans (hX.mono HBl.out.size))
 have HFv := Lib.hid ((hX.block _ (blk_lt HF1.out)).trans HF1.out)
 have HB1v := Lib.hid ((hX.block _ (blk_lt HB1.out)).trans HB1.out)
 have HB2v := Lib.hid ((hX.block _ (blk_lt HB2.out)).trans HB2.out)
 have HB3v := Lib.hid ((hX.block _ (blk_lt HB3.out)).trans HB3.out)
 clear hX
 go_wp2_with fail
 have n0 : ∀ q : Ext X,q.X.cell? ⟨w.heap.size,0,none⟩ = some (.pointer (some ⟨a.g,0,none⟩)) := fun q => blk_cell ((q.h.block _ (blk_lt HB1v.out)).trans HB1v.out) 0
 have n1 : ∀ q : Ext X,q.X.cell? ⟨a.g,0,none⟩ = some (.int .i64 c.lanes) := fun q => (q.h.cell (p := ⟨a.g,0,none⟩) (Nat.lt_of_lt_of_le H.out.fst.2.2 HBv.out.size)).trans (((HBv.out).cell (p := ⟨a.g,0,none⟩) H.out.fst.2.2).trans (blk_cell (H.out.st (fun h => h)) 0))
 have n2 : ∀ q : Ext X,q.X.cell? ⟨a.g,1,none⟩ = some (.int .i64 c.shards) := fun q => (q.h.cell (p := ⟨a.g,1,none⟩) (Nat.lt_of_lt_of_le H.out.fst.2.2 HBv.out.size)).trans (((HBv.out).cell (p := ⟨a.g,1,none⟩) H.out.fst.2.2).trans (blk_cell (H.out.st (fun h => h)) 1))
 refine wp_region_ext (by kernel_rfl) (by kernel_rfl) ?_
 repeat (go_big_quiet_step ((fail)))
 refine Ext.end_ fun Y hY => ?_
 clear n0 n1 n2
 have HBx : Hid (Below w.heap.size w Y) := Lib.hid (HBv.out.trans (hY.mono HBv.out.size))
 have HFx := Lib.hid ((hY.block _ (blk_lt HFv.out)).trans HFv.out)
 have HB1x := Lib.hid ((hY.block _ (blk_lt HB1v.out)).trans HB1v.out)
 have HB2x := Lib.hid ((hY.block _ (blk_lt HB2v.out)).trans HB2v.out)
 have HB3x := Lib.hid ((hY.block _ (blk_lt HB3v.out)).trans HB3v.out)
 clear hY
 have f3 : Y.cell? ⟨w.heap.size+1+1+1,3,none⟩ = some (.func (.func 42) #[.pointer (some ⟨a.g,0,none⟩)] #[]) := blk_cell HFx.out 3
 obtain ⟨⟨rk,⟨r0,r1,r2,r3,r4,r5⟩,rb⟩,rs2⟩ := R
 have HSx := Lib.hid (H.out.boxed HBx.out)
 have HR0 := Lib.hid hR
 clear hR
 have HIn := Lib.hid (gates_any _ Bo c rs rs' by_ M k _ x s Y HSx.out hi hrl)
 rw [← HR0.out] at HIn
 go_wp2_with fail
 refine HIn.out.mono ?_
 rintro e1 w2 hte
 have HT := Lib.hid hte
 obtain ⟨φ',x',rfl,-⟩ := hte
 have HE2 : Hid (w2.heap[w.heap.size+1+1]? = some (.cells #[.int .i64 0,.int .u8 0,.int .i64 0,.int .i64 0,.int .i64 0,.int .i64 0] 51 (0,0))) := Lib.hid ((HT.out.box (by omega) (blk_lt HB3x.out)).trans HB3x.out)
 simp only [Ev.v]
 have g0 := blk_cell HE2.out 0
 have g1 := blk_cell HE2.out 1
 have g2 := blk_cell HE2.out 2
 have g3 := blk_cell HE2.out 3
 have g4 := blk_cell HE2.out 4
 have g5 := blk_cell HE2.out 5
 have k0 := blk_frozen HE2.out 0
 have k1 := blk_frozen HE2.out 1
 have k2 := blk_frozen HE2.out 2
 have k3 := blk_frozen HE2.out 3
 have k4 := blk_frozen HE2.out 4
 have k5 := blk_frozen HE2.out 5
 go_wp2_with fail
 obtain ⟨X0,hX0⟩ : ∃ X0,X0 = ((((((w2.setCell ⟨w.heap.size+1+1,0,none⟩ (.int .i64 r0)).setCell ⟨w.heap.size+1+1,1,none⟩ (.int .u8 r1)).setCell ⟨w.heap.size+1+1,2,none⟩ (.int .i64 r2)).setCell ⟨w.heap.size+1+1,3,none⟩ (.int .i64 r3)).setCell ⟨w.heap.size+1+1,4,none⟩ (.int .i64 r4)).setCell ⟨w.heap.size+1+1,5,none⟩ (.int .i64 r5)) := ⟨_,rfl⟩
 rw [← hX0]
 obtain ⟨hXk,y0,y1,y2,y3,y4,y5⟩ := ev_box HE2.out rfl _ _ _ _ _ _ hX0
 clear hX0
 refine bodyPost_ret (v := .tuple #[.int .u8 rk,.agg #[.int .i64 r0,.int .u8 r1,.int .i64 r2,.int .i64 r3,.int .i64 r4,.int .i64 r5],.bool rb]) (by simp [results,Tryz.results22,go_sem,y0,y1,y2,y3,y4,y5]) rfl (TaskEnd.lift H.out HBx.out HT.out (by omega) (blk_lt HB3x.out) hXk)
set_option maxHeartbeats 2000000 in
theorem stepC_any (φ : Nat→Nat) (Bo : Nat) (c : Cfg) (rs rs' : List RTx) (by_ : List Int) (M k : Nat) (a : SA) (x : SG) (s : TS) (w : World) (et ek en es ec em : Int) (h : StAt w φ Bo c rs rs' by_ a x s) (hi : SInv c rs rs' M k s) (hc : c.ok = true) (hrl : rs.length≤65536) (hk : k≤4398046511104)
    (hlog : ∀ (i : Nat) (r : RTx),rs[i]? = some r→txB r.number r.ws = true∧r.number = (i : Int)+1) (hcap : ∀ r ∈ rs,r.len≤r.cap) (hmask : rs' = maskL M by_ rs) (hbl : a.B.n≤65536) (i : Nat) (hil : (i : Int) < c.lanes) (ht : et = (i : Int)+1) :
    Calls Tryz.prog 22 #[ptrV a.g,.agg #[.int .i64 et,.int .u8 ek,.int .i64 en,.int .i64 es,.int .i64 ec,.int .i64 em]] w (TaskEnd w φ Bo c rs rs' by_ a (s.step c rs rs' by_ ⟨et,ek,en,es,ec,em⟩)) := by
 subst ht
 have Hmask := Lib.hid hmask
 clear hmask
 obtain ⟨R,hR⟩ : ∃ R,R = s.step c rs rs' by_ ⟨(i : Int)+1,ek,en,es,ec,em⟩ := ⟨_,rfl⟩
 rw [← hR]
 unfold TS.step at hR
 simp only at hR
 have hcl : 1≤c.lanes∧c.lanes≤16∧1≤c.shards∧c.shards≤16 := by simp [Cfg.ok,inB] at hc; omega
 rw [if_neg (by omega),if_neg (by omega),if_pos (by omega),show ((i : Int)+1 - 1).toNat = i by omega] at hR
 have hn0 : ¬ (i : Int)+1 < 0 := by omega
 have hn1 : ¬ (i : Int)+1 = 0 := by omega
 have hn2 : (i : Int)+1≤c.lanes := by omega
 unfold ptrV
 obtain ⟨W3,hW3⟩ : ∃ W3,W3 = ((w.alloc (.cells #[.pointer (some ⟨a.g,0,none⟩)] 58)).alloc (.cells #[.int .i64 ((i : Int)+1),.int .u8 ek,.int .i64 en,.int .i64 es,.int .i64 ec,.int .i64 em] 51)).alloc (.cells #[.int .i64 0,.int .u8 0,.int .i64 0,.int .i64 0,.int .i64 0,.int .i64 0] 51) := ⟨_,rfl⟩
 have hb3 : Below w.heap.size w W3 := hW3 ▸ bel_alloc (bel_alloc (bel_alloc (Below.refl _ _) _) _) _
 have hz3 : W3.heap.size = w.heap.size+1+1+1 := by rw [hW3]; simp
 have HZ : Hid ((W3.alloc (.cells #[.nilFunc,.nilFunc,.nilFunc,.nilFunc,.nilFunc] 107)).heap[w.heap.size+1+1+1]? = some (.cells #[.nilFunc,.nilFunc,.nilFunc,.nilFunc,.nilFunc] 107 (0,0))) := Lib.hid (by rw [← hz3]; exact blk_new _ _)
 obtain ⟨W1,hW1⟩ : ∃ W1,W1 = (W3.alloc (.cells #[.nilFunc,.nilFunc,.nilFunc,.nilFunc,.nilFunc] 107)).setRow (w.heap.size+1+1+1) #[.func (.func 37) #[.pointer (some ⟨a.g,0,none⟩)] #[],.func (.func 38) #[] #[.pointer (some ⟨w.heap.size,0,none⟩),.pointer (some ⟨w.heap.size+1,0,none⟩)],.func (.func 40) #[] #[.pointer (some ⟨w.heap.size,0,none⟩),.pointer (some ⟨w.heap.size+1,0,none⟩)],.func (.func 42) #[.pointer (some ⟨a.g,0,none⟩)] #[],.func (.func 43) #[] #[.pointer (some ⟨w.heap.size,0,none⟩),.pointer (some ⟨w.heap.size+1,0,none⟩)]] := ⟨_,rfl⟩
 have HF1 : Hid (W1.heap[w.heap.size+1+1+1]? = some (.cells #[.func (.func 37) #[.pointer (some ⟨a.g,0,none⟩)] #[],.func (.func 38) #[] #[.pointer (some ⟨w.heap.size,0,none⟩),.pointer (some ⟨w.heap.size+1,0,none⟩)],.func (.func 40) #[] #[.pointer (some ⟨w.heap.size,0,none⟩),.pointer (some ⟨w.heap.size+1,0,none⟩)],.func (.func 42) #[.pointer (some ⟨a.g,0,none⟩)] #[],.func (.func 43) #[] #[.pointer (some ⟨w.heap.size,0,none⟩),.pointer (some ⟨w.heap.size+1,0,none⟩)]] 107 (0,0))) := Lib.hid (hW1 ▸ setRow_heap _ _ _ _ _ _ HZ.out)
 have hb : Below w.heap.size w W1 := hW1 ▸ (bel_alloc hb3 _).trans ⟨rfl,rfl,rfl,by simp [World.setRow],fun k hk => setRow_other _ _ k _ (by omega)⟩
 have hz : W1.heap.size = w.heap.size+4 := by rw [hW1]; simp [World.setRow,hz3]
 have hlow : ∀ b,b < w.heap.size+3→W1.heap[b]? = W3.heap[b]? := fun b hb2 => by
  rw [hW1,setRow_other _ _ _ _ (by omega),Below.heap_alloc _ _ _ (by omega)]
 have HB1 : Hid (W1.heap[w.heap.size]? = some (.cells #[ptrV a.g] 58 (0,0))) := Lib.hid (by rw [hlow _ (by omega),hW3,Below.heap_alloc _ _ _ (by simp; omega),Below.heap_alloc _ _ _ (by simp)]; exact blk_new _ _)
 have HB2 : Hid (W1.heap[w.heap.size+1]? = some (.cells #[.int .i64 ((i : Int)+1),.int .u8 ek,.int .i64 en,.int .i64 es,.int .i64 ec,.int .i64 em] 51 (0,0))) := Lib.hid (by rw [hlow _ (by omega),hW3,Below.heap_alloc _ _ _ (by simp)]; have := blk_new (w.alloc (.cells #[.pointer (some ⟨a.g,0,none⟩)] 58)) (.cells #[.int .i64 ((i : Int)+1),.int .u8 ek,.int .i64 en,.int .i64 es,.int .i64 ec,.int .i64 em] 51); simpa using this)
 have HB3 : Hid (W1.heap[w.heap.size+1+1]? = some (.cells #[.int .i64 0,.int .u8 0,.int .i64 0,.int .i64 0,.int .i64 0,.int .i64 0] 51 (0,0))) := Lib.hid (by rw [hlow _ (by omega),hW3]; have := blk_new ((w.alloc (.cells #[.pointer (some ⟨a.g,0,none⟩)] 58)).alloc (.cells #[.int .i64 ((i : Int)+1),.int .u8 ek,.int .i64 en,.int .i64 es,.int .i64 ec,.int .i64 em] 51)) (.cells #[.int .i64 0,.int .u8 0,.int .i64 0,.int .i64 0,.int .i64 0,.int .i64 0] 51); simpa using this)
 have H := Lib.hid h
 have HBl := Lib.hid hb
 have Hz := Lib.hid hz
 have HW1 := Lib.hid hW1
 have HW3 := Lib.hid hW3
 have s0 : W1.cell? ⟨w.heap.size,0,none⟩ = some (.pointer (some ⟨a.g,0,none⟩)) := blk_cell HB1.out 0
 have cg0 : W1.cell? ⟨a.g,0,none⟩ = some (.int .i64 c.lanes) := (hb.cell (p := ⟨a.g,0,none⟩) h.fst.2.2).trans (blk_cell (h.st (fun h => h)) 0)
 have cg1 : W1.cell? ⟨a.g,1,none⟩ = some (.int .i64 c.shards) := (hb.cell (p := ⟨a.g,1,none⟩) h.fst.2.2).trans (blk_cell (h.st (fun h => h)) 1)
 have hgW : a.g < W1.heap.size := Nat.lt_of_lt_of_le h.fst.2.2 hb.size
 have hfun := HF1.out
 have t0 : W1.cell? ⟨w.heap.size+1,0,none⟩ = some (.int .i64 ((i : Int)+1)) := blk_cell HB2.out 0
 rw [hW3] at HZ hW1
 clear hb3 hz3 hb hz hlow hW3 h
 go_enter Tryz.func22,Tryz.ntmps22
 go_upto_region 2 with (with_reducible refine wpList_store_row rfl 107 _ _ rfl (w.heap.size+1+1+1) #[.func (.func 37) #[.pointer (some ⟨a.g,0,none⟩)] #[],.func (.func 38) #[] #[.pointer (some ⟨w.heap.size,0,none⟩),.pointer (some ⟨w.heap.size+1,0,none⟩)],.func (.func 40) #[] #[.pointer (some ⟨w.heap.size,0,none⟩),.pointer (some ⟨w.heap.size+1,0,none⟩)],.func (.func 42) #[.pointer (some ⟨a.g,0,none⟩)] #[],.func (.func 43) #[] #[.pointer (some ⟨w.heap.size,0,none⟩),.pointer (some ⟨w.heap.size+1,0,none⟩)]] rfl rfl 107 _ HZ.out (by kernel_rfl) rfl (one_fn _ _ _ _ _ _ _ _ _ _) ?_)
 rw [← hW1]
 clear hW1 HZ
 clear hfun
 have HBx := HBl
 have HFx := HF1
 have HB1x := HB1
 have HB2x := HB2
 have HB3x := HB3
 have f1 : W1.cell? ⟨w.heap.size+1+1+1,1,none⟩ = some (.func (.func 38) #[] #[.pointer (some ⟨w.heap.size,0,none⟩),.pointer (some ⟨w.heap.size+1,0,none⟩)]) := blk_cell HFx.out 1
 obtain ⟨⟨rk,⟨r0,r1,r2,r3,r4,r5⟩,rb⟩,rs2⟩ := R
 have HSx := Lib.hid (H.out.boxed HBx.out)
 have HR0 := Lib.hid hR
 clear hR
 have HIn := Lib.hid (clos1_any _ Bo c rs rs' by_ _ x s W1 ⟨(i : Int)+1,ek,en,es,ec,em⟩ (w.heap.size) (w.heap.size+1) _ HSx.out HB1x.out HB2x.out (fun W ψ N F x2 hs => lane_any ψ Bo c rs rs' by_ M k _ x2 s W i hs hi hc hrl hk hlog hcap hil (by omega)))
 rw [← HR0.out] at HIn
 go_wp2_with fail
 refine HIn.out.mono ?_
 rintro e1 w2 hte
 have HT := Lib.hid hte
 obtain ⟨φ',x',rfl,-⟩ := hte
 have HE2 : Hid (w2.heap[w.heap.size+1+1]? = some (.cells #[.int .i64 0,.int .u8 0,.int .i64 0,.int .i64 0,.int .i64 0,.int .i64 0] 51 (0,0))) := Lib.hid ((HT.out.box (by omega) (blk_lt HB3x.out)).trans HB3x.out)
 simp only [Ev.v]
 have g0 := blk_cell HE2.out 0
 have g1 := blk_cell HE2.out 1
 have g2 := blk_cell HE2.out 2
 have g3 := blk_cell HE2.out 3
 have g4 := blk_cell HE2.out 4
 have g5 := blk_cell HE2.out 5
 have k0 := blk_frozen HE2.out 0
 have k1 := blk_frozen HE2.out 1
 have k2 := blk_frozen HE2.out 2
 have k3 := blk_frozen HE2.out 3
 have k4 := blk_frozen HE2.out 4
 have k5 := blk_frozen HE2.out 5
 go_wp2_with fail
 obtain ⟨X0,hX0⟩ : ∃ X0,X0 = ((((((w2.setCell ⟨w.heap.size+1+1,0,none⟩ (.int .i64 r0)).setCell ⟨w.heap.size+1+1,1,none⟩ (.int .u8 r1)).setCell ⟨w.heap.size+1+1,2,none⟩ (.int .i64 r2)).setCell ⟨w.heap.size+1+1,3,none⟩ (.int .i64 r3)).setCell ⟨w.heap.size+1+1,4,none⟩ (.int .i64 r4)).setCell ⟨w.heap.size+1+1,5,none⟩ (.int .i64 r5)) := ⟨_,rfl⟩
 rw [← hX0]
 obtain ⟨hXk,y0,y1,y2,y3,y4,y5⟩ := ev_box HE2.out rfl _ _ _ _ _ _ hX0
 clear hX0
 refine bodyPost_ret (v := .tuple #[.int .u8 rk,.agg #[.int .i64 r0,.int .u8 r1,.int .i64 r2,.int .i64 r3,.int .i64 r4,.int .i64 r5],.bool rb]) (by simp [results,Tryz.results22,go_sem,y0,y1,y2,y3,y4,y5]) rfl (TaskEnd.lift H.out HBx.out HT.out (by omega) (blk_lt HB3x.out) hXk)
set_option maxHeartbeats 2000000 in
theorem stepD_any (φ : Nat→Nat) (Bo : Nat) (c : Cfg) (rs rs' : List RTx) (by_ : List Int) (M k : Nat) (a : SA) (x : SG) (s : TS) (w : World) (et ek en es ec em : Int) (h : StAt w φ Bo c rs rs' by_ a x s) (hi : SInv c rs rs' M k s) (hc : c.ok = true) (hrl : rs.length≤65536) (hk : k≤4398046511104)
    (hlog : ∀ (i : Nat) (r : RTx),rs[i]? = some r→txB r.number r.ws = true∧r.number = (i : Int)+1) (hcap : ∀ r ∈ rs,r.len≤r.cap) (hmask : rs' = maskL M by_ rs) (hbl : a.B.n≤65536) (i : Nat) (hil : (i : Int) < c.shards) (ht : et = c.lanes+1+i) :
    Calls Tryz.prog 22 #[ptrV a.g,.agg #[.int .i64 et,.int .u8 ek,.int .i64 en,.int .i64 es,.int .i64 ec,.int .i64 em]] w (TaskEnd w φ Bo c rs rs' by_ a (s.step c rs rs' by_ ⟨et,ek,en,es,ec,em⟩)) := by
 have Hmask := Lib.hid hmask
 clear hmask
 obtain ⟨R,hR⟩ : ∃ R,R = s.step c rs rs' by_ ⟨et,ek,en,es,ec,em⟩ := ⟨_,rfl⟩
 rw [← hR]
 unfold TS.step at hR
 simp only at hR
 have hcl : 1≤c.lanes∧c.lanes≤16∧1≤c.shards∧c.shards≤16 := by simp [Cfg.ok,inB] at hc; omega
 rw [if_neg (by omega),if_neg (by omega),if_neg (by omega),if_pos (by omega),show (et - c.lanes - 1).toNat = i by omega] at hR
 have hn0 : ¬ et < 0 := by omega
 have hn1 : ¬ et = 0 := by omega
 have hn2 : ¬ et≤c.lanes := by omega
 have hn3 : et≤c.lanes+c.shards := by omega
 have hn5 : et - c.lanes - 1 = (i : Int) := by omega
 have Hn5 := Lib.hid (And.intro hn5 (show 0≤et∧et≤1000 by omega))
 have hw1 : IntKind.i64.wrap (c.lanes+c.shards) = c.lanes+c.shards := by rw [IntKind.wrap_i64]; omega
 unfold ptrV
 clear ht hn5
 obtain ⟨W3,hW3⟩ : ∃ W3,W3 = ((w.alloc (.cells #[.pointer (some ⟨a.g,0,none⟩)] 58)).alloc (.cells #[.int .i64 et,.int .u8 ek,.int .i64 en,.int .i64 es,.int .i64 ec,.int .i64 em] 51)).alloc (.cells #[.int .i64 0,.int .u8 0,.int .i64 0,.int .i64 0,.int .i64 0,.int .i64 0] 51) := ⟨_,rfl⟩
 have hb3 : Below w.heap.size w W3 := hW3 ▸ bel_alloc (bel_alloc (bel_alloc (Below.refl _ _) _) _) _
 have hz3 : W3.heap.size = w.heap.size+1+1+1 := by rw [hW3]; simp
 have HZ : Hid ((W3.alloc (.cells #[.nilFunc,.nilFunc,.nilFunc,.nilFunc,.nilFunc] 107)).heap[w.heap.size+1+1+1]? = some (.cells #[.nilFunc,.nilFunc,.nilFunc,.nilFunc,.nilFunc] 107 (0,0))) := Lib.hid (by rw [← hz3]; exact blk_new _ _)
 obtain ⟨W1,hW1⟩ : ∃ W1,W1 = (W3.alloc (.cells #[.nilFunc,.nilFunc,.nilFunc,.nilFunc,.nilFunc] 107)).setRow (w.heap.size+1+1+1) #[.func (.func 37) #[.pointer (some ⟨a.g,0,none⟩)] #[],.func (.func 38) #[] #[.pointer (some ⟨w.heap.size,0,none⟩),.pointer (some ⟨w.heap.size+1,0,none⟩)],.func (.func 40) #[] #[.pointer (some ⟨w.heap.size,0,none⟩),.pointer (some ⟨w.heap.size+1,0,none⟩)],.func (.func 42) #[.pointer (some ⟨a.g,0,none⟩)] #[],.func (.func 43) #[] #[.pointer (some ⟨w.heap.size,0,none⟩),.pointer (some ⟨w.heap.size+1,0,none⟩)]] := ⟨_,rfl⟩
 have HF1 : Hid (W1.heap[w.heap.size+1+1+1]? = some (.cells #[.func (.func 37) #[.pointer (some ⟨a.g,0,none⟩)] #[],.func (.func 38) #[] #[.pointer (some ⟨w.heap.size,0,none⟩),.pointer (some ⟨w.heap.size+1,0,none⟩)],.func (.func 40) #[] #[.pointer (some ⟨w.heap.size,0,none⟩),.pointer (some ⟨w.heap.size+1,0,none⟩)],.func (.func 42) #[.pointer (some ⟨a.g,0,none⟩)] #[],.func (.func 43) #[] #[.pointer (some ⟨w.heap.size,0,none⟩),.pointer (some ⟨w.heap.size+1,0,none⟩)]] 107 (0,0))) := Lib.hid (hW1 ▸ setRow_heap _ _ _ _ _ _ HZ.out)
 have hb : Below w.heap.size w W1 := hW1 ▸ (bel_alloc hb3 _).trans ⟨rfl,rfl,rfl,by simp [World.setRow],fun k hk => setRow_other _ _ k _ (by omega)⟩
 have hz : W1.heap.size = w.heap.size+4 := by rw [hW1]; simp [World.setRow,hz3]
 have hlow : ∀ b,b < w.heap.size+3→W1.heap[b]? = W3.heap[b]? := fun b hb2 => by
  rw [hW1,setRow_other _ _ _ _ (by omega),Below.heap_alloc _ _ _ (by omega)]
 have HB1 : Hid (W1.heap[w.heap.size]? = some (.cells #[ptrV a.g] 58 (0,0))) := Lib.hid (by rw [hlow _ (by omega),hW3,Below.heap_alloc _ _ _ (by simp; omega),Below.heap_alloc _ _ _ (by simp)]; exact blk_new _ _)
 have HB2 : Hid (W1.heap[w.heap.size+1]? = some (.cells #[.int .i64 et,.int .u8 ek,.int .i64 en,.int .i64 es,.int .i64 ec,.int .i64 em] 51 (0,0))) := Lib.hid (by rw [hlow _ (by omega),hW3,Below.heap_alloc _ _ _ (by simp)]; have := blk_new (w.alloc (.cells #[.pointer (some ⟨a.g,0,none⟩)] 58)) (.cells #[.int .i64 et,.int .u8 ek,.int .i64 en,.int .i64 es,.int .i64 ec,.int .i64 em] 51); simpa using this)
 have HB3 : Hid (W1.heap[w.heap.size+1+1]? = some (.cells #[.int .i64 0,.int .u8 0,.int .i64 0,.int .i64 0,.int .i64 0,.int .i64 0] 51 (0,0))) := Lib.hid (by rw [hlow _ (by omega),hW3]; have := blk_new ((w.alloc (.cells #[.pointer (some ⟨a.g,0,none⟩)] 58)).alloc (.cells #[.int .i64 et,.int .u8 ek,.int .i64 en,.int .i64 es,.int .i64 ec,.int .i64 em] 51)) (.cells #[.int .i64 0,.int .u8 0,.int .i64 0,.int .i64 0,.int .i64 0,.int .i64 0] 51); simpa using this)
 have H := Lib.hid h
 have HBl := Lib.hid hb
 have Hz := Lib.hid hz
 have HW1 := Lib.hid hW1
 have HW3 := Lib.hid hW3
 have s0 : W1.cell? ⟨w.heap.size,0,none⟩ = some (.pointer (some ⟨a.g,0,none⟩)) := blk_cell HB1.out 0
 have cg0 : W1.cell? ⟨a.g,0,none⟩ = some (.int .i64 c.lanes) := (hb.cell (p := ⟨a.g,0,none⟩) h.fst.2.2).trans (blk_cell (h.st (fun h => h)) 0)
 have cg1 : W1.cell? ⟨a.g,1,none⟩ = some (.int .i64 c.shards) := (hb.cell (p := ⟨a.g,1,none⟩) h.fst.2.2).trans (blk_cell (h.st (fun h => h)) 1)
 have hgW : a.g < W1.heap.size := Nat.lt_of_lt_of_le h.fst.2.2 hb.size
 have hfun := HF1.out
 have t0 : W1.cell? ⟨w.heap.size+1,0,none⟩ = some (.int .i64 et) := blk_cell HB2.out 0
 rw [hW3] at HZ hW1
 clear hb3 hz3 hb hz hlow hW3 h
 go_enter Tryz.func22,Tryz.ntmps22
 go_upto_region 2 with (with_reducible refine wpList_store_row rfl 107 _ _ rfl (w.heap.size+1+1+1) #[.func (.func 37) #[.pointer (some ⟨a.g,0,none⟩)] #[],.func (.func 38) #[] #[.pointer (some ⟨w.heap.size,0,none⟩),.pointer (some ⟨w.heap.size+1,0,none⟩)],.func (.func 40) #[] #[.pointer (some ⟨w.heap.size,0,none⟩),.pointer (some ⟨w.heap.size+1,0,none⟩)],.func (.func 42) #[.pointer (some ⟨a.g,0,none⟩)] #[],.func (.func 43) #[] #[.pointer (some ⟨w.heap.size,0,none⟩),.pointer (some ⟨w.heap.size+1,0,none⟩)]] rfl rfl 107 _ HZ.out (by kernel_rfl) rfl (one_fn _ _ _ _ _ _ _ _ _ _) ?_)
 rw [← hW1]
 clear hW1 HZ
 clear hfun
 go_wp2_with fail
 have n0 : ∀ q : Ext W1,q.X.cell? ⟨w.heap.size,0,none⟩ = some (.pointer (some ⟨a.g,0,none⟩)) := fun q => blk_cell ((q.h.block _ (blk_lt HB1.out)).trans HB1.out) 0
 have n1 : ∀ q : Ext W1,q.X.cell? ⟨a.g,0,none⟩ = some (.int .i64 c.lanes) := fun q => (q.h.cell (p := ⟨a.g,0,none⟩) (Nat.lt_of_lt_of_le H.out.fst.2.2 HBl.out.size)).trans (((HBl.out).cell (p := ⟨a.g,0,none⟩) H.out.fst.2.2).trans (blk_cell (H.out.st (fun h => h)) 0))
 have n2 : ∀ q : Ext W1,q.X.cell? ⟨a.g,1,none⟩ = some (.int .i64 c.shards) := fun q => (q.h.cell (p := ⟨a.g,1,none⟩) (Nat.lt_of_lt_of_le H.out.fst.2.2 HBl.out.size)).trans (((HBl.out).cell (p := ⟨a.g,1,none⟩) H.out.fst.2.2).trans (blk_cell (H.out.st (fun h => h)) 1))
 refine wp_region_ext (by kernel_rfl) (by kernel_rfl) ?_
 repeat (go_big_quiet_step ((fail)))
 refine Ext.end_ fun X hX => ?_
 clear n0 n1 n2
 have HBx : Hid (Below w.heap.size w X) := Lib.hid (HBl.out.trans (hX.mono HBl.out.size))
 have HFx := Lib.hid ((hX.block _ (blk_lt HF1.out)).trans HF1.out)
 have HB1x := Lib.hid ((hX.block _ (blk_lt HB1.out)).trans HB1.out)
 have HB2x := Lib.hid ((hX.block _ (blk_lt HB2.out)).trans HB2.out)
 have HB3x := Lib.hid ((hX.block _ (blk_lt HB3.out)).trans HB3.out)
 clear hX
 have f2 : X.cell? ⟨w.heap.size+1+1+1,2,none⟩ = some (.func (.func 40) #[] #[.pointer (some ⟨w.heap.size,0,none⟩),.pointer (some ⟨w.heap.size+1,0,none⟩)]) := blk_cell HFx.out 2
 obtain ⟨⟨rk,⟨r0,r1,r2,r3,r4,r5⟩,rb⟩,rs2⟩ := R
 have HSx := Lib.hid (H.out.boxed HBx.out)
 have HR0 := Lib.hid hR
 clear hR
 have HIn := Lib.hid (clos2_any _ Bo c rs rs' by_ _ x s X ⟨et,ek,en,es,ec,em⟩ (w.heap.size) (w.heap.size+1) _ HSx.out HB1x.out HB2x.out hc Hn5.out.2.1 Hn5.out.2.2 (if_neg (by omega)) (if_neg (by omega)) (fun W ψ N F x2 hs => by have := owner_any ψ Bo c rs rs' by_ M k _ x2 s W i hs hi hc hk hil; simp only; rw [Hn5.out.1]; exact this))
 rw [← HR0.out] at HIn
 go_wp2_with fail
 refine HIn.out.mono ?_
 rintro e1 w2 hte
 have HT := Lib.hid hte
 obtain ⟨φ',x',rfl,-⟩ := hte
 have HE2 : Hid (w2.heap[w.heap.size+1+1]? = some (.cells #[.int .i64 0,.int .u8 0,.int .i64 0,.int .i64 0,.int .i64 0,.int .i64 0] 51 (0,0))) := Lib.hid ((HT.out.box (by omega) (blk_lt HB3x.out)).trans HB3x.out)
 simp only [Ev.v]
 have g0 := blk_cell HE2.out 0
 have g1 := blk_cell HE2.out 1
 have g2 := blk_cell HE2.out 2
 have g3 := blk_cell HE2.out 3
 have g4 := blk_cell HE2.out 4
 have g5 := blk_cell HE2.out 5
 have k0 := blk_frozen HE2.out 0
 have k1 := blk_frozen HE2.out 1
 have k2 := blk_frozen HE2.out 2
 have k3 := blk_frozen HE2.out 3
 have k4 := blk_frozen HE2.out 4
 have k5 := blk_frozen HE2.out 5
 go_wp2_with fail
 obtain ⟨X0,hX0⟩ : ∃ X0,X0 = ((((((w2.setCell ⟨w.heap.size+1+1,0,none⟩ (.int .i64 r0)).setCell ⟨w.heap.size+1+1,1,none⟩ (.int .u8 r1)).setCell ⟨w.heap.size+1+1,2,none⟩ (.int .i64 r2)).setCell ⟨w.heap.size+1+1,3,none⟩ (.int .i64 r3)).setCell ⟨w.heap.size+1+1,4,none⟩ (.int .i64 r4)).setCell ⟨w.heap.size+1+1,5,none⟩ (.int .i64 r5)) := ⟨_,rfl⟩
 rw [← hX0]
 obtain ⟨hXk,y0,y1,y2,y3,y4,y5⟩ := ev_box HE2.out rfl _ _ _ _ _ _ hX0
 clear hX0
 refine bodyPost_ret (v := .tuple #[.int .u8 rk,.agg #[.int .i64 r0,.int .u8 r1,.int .i64 r2,.int .i64 r3,.int .i64 r4,.int .i64 r5],.bool rb]) (by simp [results,Tryz.results22,go_sem,y0,y1,y2,y3,y4,y5]) rfl (TaskEnd.lift H.out HBx.out HT.out (by omega) (blk_lt HB3x.out) hXk)
set_option maxHeartbeats 2000000 in
theorem stepF_any (φ : Nat→Nat) (Bo : Nat) (c : Cfg) (rs rs' : List RTx) (by_ : List Int) (M k : Nat) (a : SA) (x : SG) (s : TS) (w : World) (et ek en es ec em : Int) (h : StAt w φ Bo c rs rs' by_ a x s) (hi : SInv c rs rs' M k s) (hc : c.ok = true) (hrl : rs.length≤65536) (hk : k≤4398046511104)
    (hlog : ∀ (i : Nat) (r : RTx),rs[i]? = some r→txB r.number r.ws = true∧r.number = (i : Int)+1) (hcap : ∀ r ∈ rs,r.len≤r.cap) (hmask : rs' = maskL M by_ rs) (hbl : a.B.n≤65536) (ht : c.lanes+c.shards+1 < et) :
    Calls Tryz.prog 22 #[ptrV a.g,.agg #[.int .i64 et,.int .u8 ek,.int .i64 en,.int .i64 es,.int .i64 ec,.int .i64 em]] w (TaskEnd w φ Bo c rs rs' by_ a (s.step c rs rs' by_ ⟨et,ek,en,es,ec,em⟩)) := by
 have Hmask := Lib.hid hmask
 clear hmask
 obtain ⟨R,hR⟩ : ∃ R,R = s.step c rs rs' by_ ⟨et,ek,en,es,ec,em⟩ := ⟨_,rfl⟩
 rw [← hR]
 unfold TS.step at hR
 simp only at hR
 have hcl : 1≤c.lanes∧c.lanes≤16∧1≤c.shards∧c.shards≤16 := by simp [Cfg.ok,inB] at hc; omega
 rw [if_neg (by omega),if_neg (by omega),if_neg (by omega),if_neg (by omega),if_neg (by omega)] at hR
 have hn0 : ¬ et < 0 := by omega
 have hn1 : ¬ et = 0 := by omega
 have hn2 : ¬ et≤c.lanes := by omega
 have hn3 : ¬ et≤c.lanes+c.shards := by omega
 have hw1 : IntKind.i64.wrap (c.lanes+c.shards) = c.lanes+c.shards := by rw [IntKind.wrap_i64]; omega
 have hw2 : IntKind.i64.wrap (c.lanes+c.shards+1) = c.lanes+c.shards+1 := by rw [IntKind.wrap_i64]; omega
 have hn4 : ¬ et = c.lanes+c.shards+1 := by omega
 have hbe : (et == c.lanes+c.shards+1) = false := by simpa using hn4
 unfold ptrV
 clear ht
 obtain ⟨W3,hW3⟩ : ∃ W3,W3 = ((w.alloc (.cells #[.pointer (some ⟨a.g,0,none⟩)] 58)).alloc (.cells #[.int .i64 et,.int .u8 ek,.int .i64 en,.int .i64 es,.int .i64 ec,.int .i64 em] 51)).alloc (.cells #[.int .i64 0,.int .u8 0,.int .i64 0,.int .i64 0,.int .i64 0,.int .i64 0] 51) := ⟨_,rfl⟩
 have hb3 : Below w.heap.size w W3 := hW3 ▸ bel_alloc (bel_alloc (bel_alloc (Below.refl _ _) _) _) _
 have hz3 : W3.heap.size = w.heap.size+1+1+1 := by rw [hW3]; simp
 have HZ : Hid ((W3.alloc (.cells #[.nilFunc,.nilFunc,.nilFunc,.nilFunc,.nilFunc] 107)).heap[w.heap.size+1+1+1]? = some (.cells #[.nilFunc,.nilFunc,.nilFunc,.nilFunc,.nilFunc] 107 (0,0))) := Lib.hid (by rw [← hz3]; exact blk_new _ _)
 obtain ⟨W1,hW1⟩ : ∃ W1,W1 = (W3.alloc (.cells #[.nilFunc,.nilFunc,.nilFunc,.nilFunc,.nilFunc] 107)).setRow (w.heap.size+1+1+1) #[.func (.func 37) #[.pointer (some ⟨a.g,0,none⟩)] #[],.func (.func 38) #[] #[.pointer (some ⟨w.heap.size,0,none⟩),.pointer (some ⟨w.heap.size+1,0,none⟩)],.func (.func 40) #[] #[.pointer (some ⟨w.heap.size,0,none⟩),.pointer (some ⟨w.heap.size+1,0,none⟩)],.func (.func 42) #[.pointer (some ⟨a.g,0,none⟩)] #[],.func (.func 43) #[] #[.pointer (some ⟨w.heap.size,0,none⟩),.pointer (some ⟨w.heap.size+1,0,none⟩)]] := ⟨_,rfl⟩
 have HF1 : Hid (W1.heap[w.heap.size+1+1+1]? = some (.cells #[.func (.func 37) #[.pointer (some ⟨a.g,0,none⟩)] #[],.func (.func 38) #[] #[.pointer (some ⟨w.heap.size,0,none⟩),.pointer (some ⟨w.heap.size+1,0,none⟩)],.func (.func 40) #[] #[.pointer (some ⟨w.heap.size,0,none⟩),.pointer (some ⟨w.heap.size+1,0,none⟩)],.func (.func 42) #[.pointer (some ⟨a.g,0,none⟩)] #[],.func (.func 43) #[] #[.pointer (some ⟨w.heap.size,0,none⟩),.pointer (some ⟨w.heap.size+1,0,none⟩)]] 107 (0,0))) := Lib.hid (hW1 ▸ setRow_heap _ _ _ _ _ _ HZ.out)
 have hb : Below w.heap.size w W1 := hW1 ▸ (bel_alloc hb3 _).trans ⟨rfl,rfl,rfl,by simp [World.setRow],fun k hk => setRow_other _ _ k _ (by omega)⟩
 have hz : W1.heap.size = w.heap.size+4 := by rw [hW1]; simp [World.setRow,hz3]
 have hlow : ∀ b,b < w.heap.size+3→W1.heap[b]? = W3.heap[b]? := fun b hb2 => by
  rw [hW1,setRow_other _ _ _ _ (by omega),Below.heap_alloc _ _ _ (by omega)]
 have HB1 : Hid (W1.heap[w.heap.size]? = some (.cells #[ptrV a.g] 58 (0,0))) := Lib.hid (by rw [hlow _ (by omega),hW3,Below.heap_alloc _ _ _ (by simp; omega),Below.heap_alloc _ _ _ (by simp)]; exact blk_new _ _)
 have HB2 : Hid (W1.heap[w.heap.size+1]? = some (.cells #[.int .i64 et,.int .u8 ek,.int .i64 en,.int .i64 es,.int .i64 ec,.int .i64 em] 51 (0,0))) := Lib.hid (by rw [hlow _ (by omega),hW3,Below.heap_alloc _ _ _ (by simp)]; have := blk_new (w.alloc (.cells #[.pointer (some ⟨a.g,0,none⟩)] 58)) (.cells #[.int .i64 et,.int .u8 ek,.int .i64 en,.int .i64 es,.int .i64 ec,.int .i64 em] 51); simpa using this)
 have HB3 : Hid (W1.heap[w.heap.size+1+1]? = some (.cells #[.int .i64 0,.int .u8 0,.int .i64 0,.int .i64 0,.int .i64 0,.int .i64 0] 51 (0,0))) := Lib.hid (by rw [hlow _ (by omega),hW3]; have := blk_new ((w.alloc (.cells #[.pointer (some ⟨a.g,0,none⟩)] 58)).alloc (.cells #[.int .i64 et,.int .u8 ek,.int .i64 en,.int .i64 es,.int .i64 ec,.int .i64 em] 51)) (.cells #[.int .i64 0,.int .u8 0,.int .i64 0,.int .i64 0,.int .i64 0,.int .i64 0] 51); simpa using this)
 have H := Lib.hid h
 have HBl := Lib.hid hb
 have Hz := Lib.hid hz
 have HW1 := Lib.hid hW1
 have HW3 := Lib.hid hW3
 have s0 : W1.cell? ⟨w.heap.size,0,none⟩ = some (.pointer (some ⟨a.g,0,none⟩)) := blk_cell HB1.out 0
 have cg0 : W1.cell? ⟨a.g,0,none⟩ = some (.int .i64 c.lanes) := (hb.cell (p := ⟨a.g,0,none⟩) h.fst.2.2).trans (blk_cell (h.st (fun h => h)) 0)
 have cg1 : W1.cell? ⟨a.g,1,none⟩ = some (.int .i64 c.shards) := (hb.cell (p := ⟨a.g,1,none⟩) h.fst.2.2).trans (blk_cell (h.st (fun h => h)) 1)
 have hgW : a.g < W1.heap.size := Nat.lt_of_lt_of_le h.fst.2.2 hb.size
 have hfun := HF1.out
 have t0 : W1.cell? ⟨w.heap.size+1,0,none⟩ = some (.int .i64 et) := blk_cell HB2.out 0
 rw [hW3] at HZ hW1
 clear hb3 hz3 hb hz hlow hW3 h
 go_enter Tryz.func22,Tryz.ntmps22
 go_upto_region 2 with (with_reducible refine wpList_store_row rfl 107 _ _ rfl (w.heap.size+1+1+1) #[.func (.func 37) #[.pointer (some ⟨a.g,0,none⟩)] #[],.func (.func 38) #[] #[.pointer (some ⟨w.heap.size,0,none⟩),.pointer (some ⟨w.heap.size+1,0,none⟩)],.func (.func 40) #[] #[.pointer (some ⟨w.heap.size,0,none⟩),.pointer (some ⟨w.heap.size+1,0,none⟩)],.func (.func 42) #[.pointer (some ⟨a.g,0,none⟩)] #[],.func (.func 43) #[] #[.pointer (some ⟨w.heap.size,0,none⟩),.pointer (some ⟨w.heap.size+1,0,none⟩)]] rfl rfl 107 _ HZ.out (by kernel_rfl) rfl (one_fn _ _ _ _ _ _ _ _ _ _) ?_)
 rw [← hW1]
 clear hW1 HZ
 clear hfun
 go_wp2_with fail
 have n0 : ∀ q : Ext W1,q.X.cell? ⟨w.heap.size,0,none⟩ = some (.pointer (some ⟨a.g,0,none⟩)) := fun q => blk_cell ((q.h.block _ (blk_lt HB1.out)).trans HB1.out) 0
 have n1 : ∀ q : Ext W1,q.X.cell? ⟨a.g,0,none⟩ = some (.int .i64 c.lanes) := fun q => (q.h.cell (p := ⟨a.g,0,none⟩) (Nat.lt_of_lt_of_le H.out.fst.2.2 HBl.out.size)).trans (((HBl.out).cell (p := ⟨a.g,0,none⟩) H.out.fst.2.2).trans (blk_cell (H.out.st (fun h => h)) 0))
 have n2 : ∀ q : Ext W1,q.X.cell? ⟨a.g,1,none⟩ = some (.int .i64 c.shards) := fun q => (q.h.cell (p := ⟨a.g,1,none⟩) (Nat.lt_of_lt_of_le H.out.fst.2.2 HBl.out.size)).trans (((HBl.out).cell (p := ⟨a.g,1,none⟩) H.out.fst.2.2).trans (blk_cell (H.out.st (fun h => h)) 1))
 refine wp_region_ext (by kernel_rfl) (by kernel_rfl) ?_
 repeat (go_big_quiet_step ((fail)))
 refine Ext.end_ fun X hX => ?_
 clear n0 n1 n2
 have HBv : Hid (Below w.heap.size w X) := Lib.hid (HBl.out.trans (hX.mono HBl.out.size))
 have HFv := Lib.hid ((hX.block _ (blk_lt HF1.out)).trans HF1.out)
 have HB1v := Lib.hid ((hX.block _ (blk_lt HB1.out)).trans HB1.out)
 have HB2v := Lib.hid ((hX.block _ (blk_lt HB2.out)).trans HB2.out)
 have HB3v := Lib.hid ((hX.block _ (blk_lt HB3.out)).trans HB3.out)
 clear hX
 go_wp2_with fail
 have n0 : ∀ q : Ext X,q.X.cell? ⟨w.heap.size,0,none⟩ = some (.pointer (some ⟨a.g,0,none⟩)) := fun q => blk_cell ((q.h.block _ (blk_lt HB1v.out)).trans HB1v.out) 0
 have n1 : ∀ q : Ext X,q.X.cell? ⟨a.g,0,none⟩ = some (.int .i64 c.lanes) := fun q => (q.h.cell (p := ⟨a.g,0,none⟩) (Nat.lt_of_lt_of_le H.out.fst.2.2 HBv.out.size)).trans (((HBv.out).cell (p := ⟨a.g,0,none⟩) H.out.fst.2.2).trans (blk_cell (H.out.st (fun h => h)) 0))
 have n2 : ∀ q : Ext X,q.X.cell? ⟨a.g,1,none⟩ = some (.int .i64 c.shards) := fun q => (q.h.cell (p := ⟨a.g,1,none⟩) (Nat.lt_of_lt_of_le H.out.fst.2.2 HBv.out.size)).trans (((HBv.out).cell (p := ⟨a.g,1,none⟩) H.out.fst.2.2).trans (blk_cell (H.out.st (fun h => h)) 1))
 refine wp_region_ext (by kernel_rfl) (by kernel_rfl) ?_
 repeat (go_big_quiet_step ((fail)))
 refine Ext.end_ fun Y hY => ?_
 clear n0 n1 n2
 have HBx : Hid (Below w.heap.size w Y) := Lib.hid (HBv.out.trans (hY.mono HBv.out.size))
 have HFx := Lib.hid ((hY.block _ (blk_lt HFv.out)).trans HFv.out)
 have HB1x := Lib.hid ((hY.block _ (blk_lt HB1v.out)).trans HB1v.out)
 have HB2x := Lib.hid ((hY.block _ (blk_lt HB2v.out)).trans HB2v.out)
 have HB3x := Lib.hid ((hY.block _ (blk_lt HB3v.out)).trans HB3v.out)
 clear hY
 have HR0 := Lib.hid hR
 clear hR
 have HT0 : Hid (TaskEnd Y (fun b => if b < w.heap.size then φ b else 30) Bo c rs rs' by_ { a with N := Y.heap.size,F := fun b => Y.heap[b]? } R (.returned (.tuple #[.int .u8 0,ev0.v,.bool false])) Y) := Lib.hid (by rw [HR0.out]; exact ⟨_,x,rfl,fun _ _ => rfl,H.out.boxed HBx.out,Below.refl _ _⟩)
 have g0 := blk_cell HB3x.out 0
 have g1 := blk_cell HB3x.out 1
 have g2 := blk_cell HB3x.out 2
 have g3 := blk_cell HB3x.out 3
 have g4 := blk_cell HB3x.out 4
 have g5 := blk_cell HB3x.out 5
 have k0 := blk_frozen HB3x.out 0
 have k1 := blk_frozen HB3x.out 1
 have k2 := blk_frozen HB3x.out 2
 have k3 := blk_frozen HB3x.out 3
 have k4 := blk_frozen HB3x.out 4
 have k5 := blk_frozen HB3x.out 5
 go_wp2_with fail
 obtain ⟨X0,hX0⟩ : ∃ X0,X0 = ((((((Y.setCell ⟨w.heap.size+1+1,0,none⟩ (.int .i64 0)).setCell ⟨w.heap.size+1+1,1,none⟩ (.int .u8 0)).setCell ⟨w.heap.size+1+1,2,none⟩ (.int .i64 0)).setCell ⟨w.heap.size+1+1,3,none⟩ (.int .i64 0)).setCell ⟨w.heap.size+1+1,4,none⟩ (.int .i64 0)).setCell ⟨w.heap.size+1+1,5,none⟩ (.int .i64 0)) := ⟨_,rfl⟩
 rw [← hX0]
 obtain ⟨hXk,y0,y1,y2,y3,y4,y5⟩ := ev_box HB3x.out rfl _ _ _ _ _ _ hX0
 clear hX0
 refine bodyPost_ret (v := .tuple #[.int .u8 0,.agg #[.int .i64 0,.int .u8 0,.int .i64 0,.int .i64 0,.int .i64 0,.int .i64 0],.bool false]) (by simp [results,Tryz.results22,go_sem,y0,y1,y2,y3,y4,y5]) rfl (TaskEnd.lift H.out HBx.out HT0.out (by omega) (blk_lt HB3x.out) hXk)
theorem step_any (φ : Nat→Nat) (Bo : Nat) (c : Cfg) (rs rs' : List RTx) (by_ : List Int) (M k : Nat) (a : SA) (x : SG) (s : TS) (w : World) (e : Ev) (h : StAt w φ Bo c rs rs' by_ a x s) (hi : SInv c rs rs' M k s) (hc : c.ok = true) (hrl : rs.length≤65536) (hk : k≤4398046511104)
    (hlog : ∀ (i : Nat) (r : RTx),rs[i]? = some r→txB r.number r.ws = true∧r.number = (i : Int)+1) (hcap : ∀ r ∈ rs,r.len≤r.cap) (hmask : rs' = maskL M by_ rs) (hbl : a.B.n≤65536):
    Calls Tryz.prog 22 #[ptrV a.g,e.v] w (TaskEnd w φ Bo c rs rs' by_ a (s.step c rs rs' by_ e)) := by
 obtain ⟨et,ek,en,es,ec,em⟩ := e
 have hcl : 1≤c.lanes∧c.lanes≤16∧1≤c.shards∧c.shards≤16 := by simp [Cfg.ok,inB] at hc; omega
 by_cases h1 : et < 0
 · exact stepA_any φ Bo c rs rs' by_ M k a x s w et ek en es ec em h hi hc hrl hk hlog hcap hmask hbl h1
 by_cases h2 : et = 0
 · exact stepB_any φ Bo c rs rs' by_ M k a x s w et ek en es ec em h hi hc hrl hk hlog hcap hmask hbl h2
 by_cases h3 : et≤c.lanes
 · exact stepC_any φ Bo c rs rs' by_ M k a x s w et ek en es ec em h hi hc hrl hk hlog hcap hmask hbl (et - 1).toNat (by omega) (by omega)
 by_cases h4 : et≤c.lanes+c.shards
 · exact stepD_any φ Bo c rs rs' by_ M k a x s w et ek en es ec em h hi hc hrl hk hlog hcap hmask hbl (et - c.lanes - 1).toNat (by omega) (by omega)
 by_cases h5 : et = c.lanes+c.shards+1
 · exact stepE_any φ Bo c rs rs' by_ M k a x s w et ek en es ec em h hi hc hrl hk hlog hcap hmask hbl h5
 · exact stepF_any φ Bo c rs rs' by_ M k a x s w et ek en es ec em h hi hc hrl hk hlog hcap hmask hbl (by omega)
end Go.Proofs.YtcjmppjppmiggaaGreat

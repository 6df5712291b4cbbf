/- The document's story: what may come next. (Printed by gen_ru8.py.) -/
import Derived.Test.YtcjmppjppmiggaaGreatRu7
import Derived.Test.YtcjmppjppmiggaaGreatRu2
import Derived.Test.YtcjmppjppmiggaaGreatRu4
import Derived.Test.YtcjmppjppmiggaaGreatRu5
import Derived.Test.YtcjmppjppmiggaaGreatRs3
namespace Go.Proofs.YtcjmppjppmiggaaGreat
open Go.RowKit
set_option linter.unusedVariables false
set_option linter.unusedSimpArgs false

open Go.Maps
set_option maxRecDepth 100000
def RNextEnd (w : World) (φ : Nat→Nat) (Bo : Nat) (c : Cfg) (rs rs' : List RTx) (by_ : List Int) (a : RA) (bd : Nat) (r : Bool × TS) (e : Ending) (w' : World) : Prop :=
 e = .returned (.bool r.1)∧Below Bo w w'∧(r.1 = true→∃ φ' x',(∀ b,b < w.heap.size→φ' b = φ b)∧RsAt w' φ' Bo c rs rs' by_ a x' r.2∧x'.bd≤bd+1)
theorem rnext_fin {w w2 W1 X2 : World} {φ : Nat→Nat} {Bo : Nat} {c : Cfg} {rs rs' : List RTx} {by_ : List Int} {a : RA} {x : RG} {s : TS} {r : TrA × TS} {et ek en es ec em k n sh ct m : Int} {b v : Bool} (h : RsAt w φ Bo c rs rs' by_ a x s) (hb : Below w.heap.size w W1) (hz : W1.heap.size = w.heap.size+3) (hB : Below Bo W1 w2)
    (hk : (b && decide (k = ek)) = (r.1.2.2 && decide (r.1.1 = ek)))
    (hok : b = true→k = ek→n = r.1.2.1.number∧sh = r.1.2.1.shard∧ct = r.1.2.1.count∧∃ φ' x',(∀ b,b < W1.heap.size→φ' b = if b < w.heap.size then φ b else 30)∧RsAt w2 φ' Bo c rs rs' by_ { a with N := W1.heap.size,F := fun b => W1.heap[b]? } x' r.2∧x'.bd≤x.bd+1)
    (hm : w2.cell? ⟨a.gt,0,none⟩ = some (.int .i64 m)) (hK : Kept w2 X2 (fun q => q = w.heap.size+1+1)) (hv : v = (b && decide (ek = k) && decide (en = n) && decide (es = sh) && decide (ec = ct) && decide (em = m))) :
    RNextEnd w φ Bo c rs rs' by_ a x.bd (r.1.2.2 && decide ((⟨et,ek,en,es,ec,em⟩ : Ev) = ⟨et,r.1.1,r.1.2.1.number,r.1.2.1.shard,r.1.2.1.count,r.2.G.mark⟩),r.2) (.returned (.bool v)) X2 := by
 have hsz := hb.size
 have hlo := h.lo
 have hsz2 := hB.size
 have hBB : Below Bo w X2 := (hb.mono hlo).trans (hB.trans (hK.below (by omega) (fun q e => by rw [e]; omega)))
 by_cases hbk : b = true∧k = ek
 · obtain ⟨rfl,rfl⟩ := hbk
   have h1 : r.1.2.2 = true∧r.1.1 = k := by simpa using hk.symm
   obtain ⟨rfl,rfl,rfl,φ',x',hφ,hs,hbd⟩ := hok rfl rfl
   have h2 := blk_cell (hs.gt (fun h => h)).st 0
   have h3 : m = (r.2.G.mark : Int) := by
    have h4 := hm.symm.trans h2
    simpa using h4
   have he : (r.1.2.2 && decide ((⟨et,k,en,es,ec,em⟩ : Ev) = ⟨et,r.1.1,r.1.2.1.number,r.1.2.1.shard,r.1.2.1.count,r.2.G.mark⟩)) = v := by
    rw [hv,h1.1,h1.2,h3]
    simp [Bool.decide_and,Bool.and_assoc]
   refine ⟨by rw [← he],hBB,fun _ => ?_⟩
   obtain ⟨φ2,g1,g2⟩ := h.unboxed hb hφ hs (hK.mono fun q e => by rw [e]; omega)
   exact ⟨φ2,x',g1,g2,hbd⟩
 · have hv0 : v = false := by
     rw [hv]
     by_cases h1 : b = true
     · have : ek≠k := fun e => hbk ⟨h1,e.symm⟩
       simp [this]
     · simp [h1]
   have h2 : (r.1.2.2 && decide (r.1.1 = ek)) = false := by
    rw [← hk]
    by_cases h1 : b = true
    · have : k≠ek := fun e => hbk ⟨h1,e⟩
      simp [this]
    · simp [h1]
   have h3 : (r.1.2.2 && decide ((⟨et,ek,en,es,ec,em⟩ : Ev) = ⟨et,r.1.1,r.1.2.1.number,r.1.2.1.shard,r.1.2.1.count,r.2.G.mark⟩)) = false := by
    cases h5 : r.1.2.2 with
    | false => rfl
    | true =>
      rw [h5] at h2
      have h6 : r.1.1≠ek := by simpa using h2
      have h7 : ek≠r.1.1 := fun e => h6 e.symm
      simp [h7]
   refine ⟨by rw [h3,hv0],hBB,fun hh => ?_⟩
   rw [h3] at hh
   cases hh
set_option maxHeartbeats 4000000 in
theorem rnextA_any (φ : Nat→Nat) (Bo : Nat) (c : Cfg) (rs rs' : List RTx) (by_ : List Int) (a : RA) (x : RG) (s : TS) (w : World) (et ek en es ec em : Int) (r : TrA × TS) (h : RsAt w φ Bo c rs rs' by_ a x s) (ht : et < 0)
    (hin : ∀ (W : World) (ψ : Nat→Nat) (N : Nat) (F : Nat→Option Obj) (x2 : RG),RsAt W ψ Bo c rs rs' by_ { a with N := N,F := F } x2 s→x2.bd = x.bd→Calls Tryz.prog 48 #[ptrV a.g,.agg #[.int .i64 et,.int .u8 ek,.int .i64 en,.int .i64 es,.int .i64 ec,.int .i64 em]] W (RCallEnd W ψ Bo c rs rs' by_ { a with N := N,F := F } x2.bd ek r)) :
    Calls Tryz.prog 29 #[ptrV a.g,.agg #[.int .i64 et,.int .u8 ek,.int .i64 en,.int .i64 es,.int .i64 ec,.int .i64 em]] w (RNextEnd w φ Bo c rs rs' by_ a x.bd (r.1.2.2 && decide ((⟨et,ek,en,es,ec,em⟩ : Ev) = ⟨et,r.1.1,r.1.2.1.number,r.1.2.1.shard,r.1.2.1.count,r.2.G.mark⟩),r.2)) := by
 obtain ⟨W1,hW1⟩ : ∃ W1,W1 = ((w.alloc (.cells #[.int .i64 et,.int .u8 ek,.int .i64 en,.int .i64 es,.int .i64 ec,.int .i64 em] 51)).alloc (.cells #[.int .i64 c.lanes,.int .i64 c.shards,.int .i64 c.window,.int .i64 c.queue] 23)).alloc (.cells #[.int .i64 0,.int .u8 0,.int .i64 0,.int .i64 0,.int .i64 0,.int .i64 0] 51) := ⟨_,rfl⟩
 have hb : Below w.heap.size w W1 := hW1 ▸ bel_alloc (bel_alloc (bel_alloc (Below.refl _ _) _) _) _
 have hz : W1.heap.size = w.heap.size+3 := by rw [hW1]; simp
 have HV1 : Hid (W1.heap[w.heap.size]? = some (.cells #[.int .i64 et,.int .u8 ek,.int .i64 en,.int .i64 es,.int .i64 ec,.int .i64 em] 51 (0,0))) := Lib.hid (by rw [hW1,Below.heap_alloc _ _ _ (by simp; omega),Below.heap_alloc _ _ _ (by simp)]; exact blk_new _ _)
 have HC1 : Hid (W1.heap[w.heap.size+1]? = some (.cells #[.int .i64 c.lanes,.int .i64 c.shards,.int .i64 c.window,.int .i64 c.queue] 23 (0,0))) := Lib.hid (by rw [hW1,Below.heap_alloc _ _ _ (by simp)]; have := blk_new (w.alloc (.cells #[.int .i64 et,.int .u8 ek,.int .i64 en,.int .i64 es,.int .i64 ec,.int .i64 em] 51)) (.cells #[.int .i64 c.lanes,.int .i64 c.shards,.int .i64 c.window,.int .i64 c.queue] 23); simpa using this)
 have HE1 : Hid (W1.heap[w.heap.size+1+1]? = some (.cells #[.int .i64 0,.int .u8 0,.int .i64 0,.int .i64 0,.int .i64 0,.int .i64 0] 51 (0,0))) := Lib.hid (by rw [hW1]; have := blk_new ((w.alloc (.cells #[.int .i64 et,.int .u8 ek,.int .i64 en,.int .i64 es,.int .i64 ec,.int .i64 em] 51)).alloc (.cells #[.int .i64 c.lanes,.int .i64 c.shards,.int .i64 c.window,.int .i64 c.queue] 23)) (.cells #[.int .i64 0,.int .u8 0,.int .i64 0,.int .i64 0,.int .i64 0,.int .i64 0] 51); simpa using this)
 have hS1 := h.boxed hb
 have HIn := Lib.hid (hin W1 _ _ _ x hS1 rfl)
 have H := Lib.hid h
 have HBl := Lib.hid hb
 have Hz := Lib.hid hz
 have HW1 := Lib.hid hW1
 have d0 : ∀ o,(w.alloc o).cell? ⟨a.g,0,none⟩ = some (.int .i64 c.lanes) := fun o => blk_cell ((Below.heap_alloc _ _ _ h.fst.2.2).trans (h.st (fun h => h))) 0
 have d1 : ∀ o,(w.alloc o).cell? ⟨a.g,1,none⟩ = some (.int .i64 c.shards) := fun o => blk_cell ((Below.heap_alloc _ _ _ h.fst.2.2).trans (h.st (fun h => h))) 1
 have d2 : ∀ o,(w.alloc o).cell? ⟨a.g,2,none⟩ = some (.int .i64 c.window) := fun o => blk_cell ((Below.heap_alloc _ _ _ h.fst.2.2).trans (h.st (fun h => h))) 2
 have d3 : ∀ o,(w.alloc o).cell? ⟨a.g,3,none⟩ = some (.int .i64 c.queue) := fun o => blk_cell ((Below.heap_alloc _ _ _ h.fst.2.2).trans (h.st (fun h => h))) 3
 clear hin hS1 h hb hz hW1
 unfold ptrV at *
 go_enter Tryz.func29,Tryz.ntmps29
 go_upto_region 4 with fail
 rw [← HW1.out]
 clear d0 d1 d2 d3
 have b0 : W1.cell? ⟨w.heap.size,0,none⟩ = some (.int .i64 et) := blk_cell HV1.out 0
 have b1 : W1.cell? ⟨w.heap.size,1,none⟩ = some (.int .u8 ek) := blk_cell HV1.out 1
 have b2 : W1.cell? ⟨w.heap.size,2,none⟩ = some (.int .i64 en) := blk_cell HV1.out 2
 have b3 : W1.cell? ⟨w.heap.size,3,none⟩ = some (.int .i64 es) := blk_cell HV1.out 3
 have b4 : W1.cell? ⟨w.heap.size,4,none⟩ = some (.int .i64 ec) := blk_cell HV1.out 4
 have b5 : W1.cell? ⟨w.heap.size,5,none⟩ = some (.int .i64 em) := blk_cell HV1.out 5
 go_wp2_with (go_at_call 48; refine HIn.out.mono ?_)
 rintro e1 w2 ⟨k,n,sh,ct,b,rfl,⟨hB2,hM2⟩,hk,hok⟩
 have HE2 : Hid (w2.heap[w.heap.size+1+1]? = some (.cells #[.int .i64 0,.int .u8 0,.int .i64 0,.int .i64 0,.int .i64 0,.int .i64 0] 51 (0,0))) := Lib.hid ((hM2.box (w := w) (φ := φ) (a := a) (by omega) (by have := Hz.out; omega)).trans HE1.out)
 have HV2 : Hid (w2.heap[w.heap.size]? = some (.cells #[.int .i64 et,.int .u8 ek,.int .i64 en,.int .i64 es,.int .i64 ec,.int .i64 em] 51 (0,0))) := Lib.hid ((hM2.box (w := w) (φ := φ) (a := a) (by omega) (by have := Hz.out; omega)).trans HV1.out)
 obtain ⟨m,m9,m0⟩ := hM2.1
 simp only at m9 m0
 have HB2 := Lib.hid hB2
 have HK := Lib.hid hk
 have Hok := Lib.hid hok
 have HM9 := Lib.hid m9
 have HM0 := Lib.hid m0
 have Hgl := Lib.hid (And.intro H.out.fst.2.2 H.out.fgt.2.2.1)
 clear hB2 hM2 hk hok m9 m0 b0 b1 b2 b3 b4 b5
 have g0 := blk_cell HE2.out 0
 have k0 := blk_frozen HE2.out 0
 have g1 := blk_cell HE2.out 1
 have k1 := blk_frozen HE2.out 1
 have g2 := blk_cell HE2.out 2
 have k2 := blk_frozen HE2.out 2
 have g3 := blk_cell HE2.out 3
 have k3 := blk_frozen HE2.out 3
 have g4 := blk_cell HE2.out 4
 have k4 := blk_frozen HE2.out 4
 have g5 := blk_cell HE2.out 5
 have k5 := blk_frozen HE2.out 5
 go_upto_region 14 with fail
 obtain ⟨X0,hX0⟩ : ∃ X0,X0 = ((((((w2.setCell ⟨w.heap.size+1+1,0,none⟩ (.int .i64 0)).setCell ⟨w.heap.size+1+1,1,none⟩ (.int .u8 k)).setCell ⟨w.heap.size+1+1,2,none⟩ (.int .i64 n)).setCell ⟨w.heap.size+1+1,3,none⟩ (.int .i64 sh)).setCell ⟨w.heap.size+1+1,4,none⟩ (.int .i64 ct)).setCell ⟨w.heap.size+1+1,5,none⟩ (.int .i64 0)) := ⟨_,rfl⟩
 rw [← hX0]
 obtain ⟨hXk,r0,r1,r2,r3,r4,r5⟩ := ev_box HE2.out rfl _ _ _ _ _ _ hX0
 have HX0 : Hid (X0.heap[w.heap.size+1+1]? = some (.cells #[.int .i64 0,.int .u8 k,.int .i64 n,.int .i64 sh,.int .i64 ct,.int .i64 0] 51 (0,0))) := Lib.hid (by rw [hX0]; exact blk_set (blk_set (blk_set (blk_set (blk_set (blk_set HE2.out 0 _) 1 _) 2 _) 3 _) 4 _) 5 _)
 have hz2 : W1.heap.size≤w2.heap.size := HB2.out.size
 obtain ⟨X1,hX1⟩ : ∃ X1,X1 = X0.setCell ⟨w.heap.size+1+1,0,none⟩ (.int .i64 et) := ⟨_,rfl⟩
 have HX1 : Hid (X1.heap[w.heap.size+1+1]? = some (.cells #[.int .i64 et,.int .u8 k,.int .i64 n,.int .i64 sh,.int .i64 ct,.int .i64 0] 51 (0,0))) := Lib.hid (by rw [hX1]; exact blk_set HX0.out 0 _)
 have hk1 : Kept w2 X1 (fun q => q = w.heap.size+1+1) := hX1 ▸ hXk.setCell (p := ⟨w.heap.size+1+1,0,none⟩) (Or.inl rfl) _
 obtain ⟨X2,hX2⟩ : ∃ X2,X2 = X1.setCell ⟨w.heap.size+1+1,5,none⟩ (.int .i64 m) := ⟨_,rfl⟩
 have HX2 : Hid (X2.heap[w.heap.size+1+1]? = some (.cells #[.int .i64 et,.int .u8 k,.int .i64 n,.int .i64 sh,.int .i64 ct,.int .i64 m] 51 (0,0))) := Lib.hid (by rw [hX2]; exact blk_set HX1.out 5 _)
 have hk2 : Kept w2 X2 (fun q => q = w.heap.size+1+1) := hX2 ▸ hk1.setCell (p := ⟨w.heap.size+1+1,5,none⟩) (Or.inl rfl) _
 have v0 : X0.cell? ⟨w.heap.size,0,none⟩ = some (.int .i64 et) := blk_cell (hXk.blk HV2.out (blk_lt HV2.out) (by omega)) 0
 have w0 : X0.cell? ⟨w.heap.size+1+1,0,none⟩ = some (.int .i64 0) := blk_cell HX0.out 0
 have w5 : X1.cell? ⟨w.heap.size+1+1,5,none⟩ = some (.int .i64 0) := blk_cell HX1.out 5
 have f0 : X0.frozen? ⟨w.heap.size+1+1,0,none⟩ = false := blk_frozen HX0.out 0
 have q9 : X1.cell? ⟨a.g,9,none⟩ = some (.pointer (some ⟨a.gt,0,none⟩)) := (hk1.cell (by have := Hgl.out.1; have := Hz.out; omega) (by have := Hgl.out.1; omega)).trans HM9.out
 have q0 : X1.cell? ⟨a.gt,0,none⟩ = some (.int .i64 m) := (hk1.cell (by have := Hgl.out.2; have := Hz.out; omega) (by have := Hgl.out.2; omega)).trans HM0.out
 have f5 : X1.frozen? ⟨w.heap.size+1+1,5,none⟩ = false := blk_frozen HX1.out 5
 have HK2 := Lib.hid hk2
 have HV3 : Hid (X2.heap[w.heap.size]? = some (.cells #[.int .i64 et,.int .u8 ek,.int .i64 en,.int .i64 es,.int .i64 ec,.int .i64 em] 51 (0,0))) := Lib.hid (hk2.blk HV2.out (blk_lt HV2.out) (by omega))
 clear r0 r1 r2 r3 r4 r5 hX0 hXk hk1 hk2 g0 g1 g2 g3 g4 g5 k0 k1 k2 k3 k4 k5
 go_upto_region 15 with fail
 rw [← hX1]
 clear hX1 v0 f0 w0
 have HMk := Lib.hid (r12mark_ok a.gt m X1 q0)
 go_wp2_with (go_at_call 53; refine HMk.out.mono ?_)
 rintro e3 w3 ⟨rfl,rfl⟩
 go_upto_region 16 with fail
 rw [← hX2]
 clear hX2 q9 q0 f5 w5
 have y0 := blk_cell HV3.out 0
 have z0 := blk_cell HX2.out 0
 have y1 := blk_cell HV3.out 1
 have z1 := blk_cell HX2.out 1
 have y2 := blk_cell HV3.out 2
 have z2 := blk_cell HX2.out 2
 have y3 := blk_cell HV3.out 3
 have z3 := blk_cell HX2.out 3
 have y4 := blk_cell HV3.out 4
 have z4 := blk_cell HX2.out 4
 have y5 := blk_cell HV3.out 5
 have z5 := blk_cell HX2.out 5
 have hfin : ∀ v,v = (b && decide (ek = k) && decide (en = n) && decide (es = sh) && decide (ec = ct) && decide (em = m))→RNextEnd w φ Bo c rs rs' by_ a x.bd (r.1.2.2 && decide ((⟨et,ek,en,es,ec,em⟩ : Ev) = ⟨et,r.1.1,r.1.2.1.number,r.1.2.1.shard,r.1.2.1.count,r.2.G.mark⟩),r.2) (.returned (.bool v)) X2 :=
  fun v hv => rnext_fin H.out HBl.out Hz.out HB2.out HK.out Hok.out HM0.out HK2.out hv
 obtain ⟨b0,hb0⟩ : ∃ b0,b = b0 := ⟨_,rfl⟩
 rw [hb0] at hfin
 have Hfin := Lib.hid hfin
 have Hb0 := Lib.hid hb0
 clear hfin hb0 HK Hok HM0 HB2 HBl HK2
 cases b with
 | false =>
   go_wp2_with fail
   go_ret
   refine Hfin.out _ ?_
   rw [← Hb0.out]
   simp
 | true =>
   go_wp2_with fail
   all_goals (
    go_ret
    refine Hfin.out _ ?_
    rw [← Hb0.out]
    first | (simp [*]; done) | grind)
set_option maxHeartbeats 4000000 in
theorem rnextB_any (φ : Nat→Nat) (Bo : Nat) (c : Cfg) (rs rs' : List RTx) (by_ : List Int) (a : RA) (x : RG) (s : TS) (w : World) ( ek en es ec em : Int) (r : TrA × TS) (h : RsAt w φ Bo c rs rs' by_ a x s) 
    (hin : ∀ (W : World) (ψ : Nat→Nat) (N : Nat) (F : Nat→Option Obj) (x2 : RG),RsAt W ψ Bo c rs rs' by_ { a with N := N,F := F } x2 s→x2.bd = x.bd→Calls Tryz.prog 49 #[ptrV a.g,.agg #[.int .i64 0,.int .u8 ek,.int .i64 en,.int .i64 es,.int .i64 ec,.int .i64 em]] W (RCallEnd W ψ Bo c rs rs' by_ { a with N := N,F := F } x2.bd ek r)) :
    Calls Tryz.prog 29 #[ptrV a.g,.agg #[.int .i64 0,.int .u8 ek,.int .i64 en,.int .i64 es,.int .i64 ec,.int .i64 em]] w (RNextEnd w φ Bo c rs rs' by_ a x.bd (r.1.2.2 && decide ((⟨0,ek,en,es,ec,em⟩ : Ev) = ⟨0,r.1.1,r.1.2.1.number,r.1.2.1.shard,r.1.2.1.count,r.2.G.mark⟩),r.2)) := by
 obtain ⟨W1,hW1⟩ : ∃ W1,W1 = ((w.alloc (.cells #[.int .i64 0,.int .u8 ek,.int .i64 en,.int .i64 es,.int .i64 ec,.int .i64 em] 51)).alloc (.cells #[.int .i64 c.lanes,.int .i64 c.shards,.int .i64 c.window,.int .i64 c.queue] 23)).alloc (.cells #[.int .i64 0,.int .u8 0,.int .i64 0,.int .i64 0,.int .i64 0,.int .i64 0] 51) := ⟨_,rfl⟩
 have hb : Below w.heap.size w W1 := hW1 ▸ bel_alloc (bel_alloc (bel_alloc (Below.refl _ _) _) _) _
 have hz : W1.heap.size = w.heap.size+3 := by rw [hW1]; simp
 have HV1 : Hid (W1.heap[w.heap.size]? = some (.cells #[.int .i64 0,.int .u8 ek,.int .i64 en,.int .i64 es,.int .i64 ec,.int .i64 em] 51 (0,0))) := Lib.hid (by rw [hW1,Below.heap_alloc _ _ _ (by simp; omega),Below.heap_alloc _ _ _ (by simp)]; exact blk_new _ _)
 have HC1 : Hid (W1.heap[w.heap.size+1]? = some (.cells #[.int .i64 c.lanes,.int .i64 c.shards,.int .i64 c.window,.int .i64 c.queue] 23 (0,0))) := Lib.hid (by rw [hW1,Below.heap_alloc _ _ _ (by simp)]; have := blk_new (w.alloc (.cells #[.int .i64 0,.int .u8 ek,.int .i64 en,.int .i64 es,.int .i64 ec,.int .i64 em] 51)) (.cells #[.int .i64 c.lanes,.int .i64 c.shards,.int .i64 c.window,.int .i64 c.queue] 23); simpa using this)
 have HE1 : Hid (W1.heap[w.heap.size+1+1]? = some (.cells #[.int .i64 0,.int .u8 0,.int .i64 0,.int .i64 0,.int .i64 0,.int .i64 0] 51 (0,0))) := Lib.hid (by rw [hW1]; have := blk_new ((w.alloc (.cells #[.int .i64 0,.int .u8 ek,.int .i64 en,.int .i64 es,.int .i64 ec,.int .i64 em] 51)).alloc (.cells #[.int .i64 c.lanes,.int .i64 c.shards,.int .i64 c.window,.int .i64 c.queue] 23)) (.cells #[.int .i64 0,.int .u8 0,.int .i64 0,.int .i64 0,.int .i64 0,.int .i64 0] 51); simpa using this)
 have hS1 := h.boxed hb
 have HIn := Lib.hid (hin W1 _ _ _ x hS1 rfl)
 have H := Lib.hid h
 have HBl := Lib.hid hb
 have Hz := Lib.hid hz
 have HW1 := Lib.hid hW1
 have d0 : ∀ o,(w.alloc o).cell? ⟨a.g,0,none⟩ = some (.int .i64 c.lanes) := fun o => blk_cell ((Below.heap_alloc _ _ _ h.fst.2.2).trans (h.st (fun h => h))) 0
 have d1 : ∀ o,(w.alloc o).cell? ⟨a.g,1,none⟩ = some (.int .i64 c.shards) := fun o => blk_cell ((Below.heap_alloc _ _ _ h.fst.2.2).trans (h.st (fun h => h))) 1
 have d2 : ∀ o,(w.alloc o).cell? ⟨a.g,2,none⟩ = some (.int .i64 c.window) := fun o => blk_cell ((Below.heap_alloc _ _ _ h.fst.2.2).trans (h.st (fun h => h))) 2
 have d3 : ∀ o,(w.alloc o).cell? ⟨a.g,3,none⟩ = some (.int .i64 c.queue) := fun o => blk_cell ((Below.heap_alloc _ _ _ h.fst.2.2).trans (h.st (fun h => h))) 3
 clear hin hS1 h hb hz hW1
 unfold ptrV at *
 go_enter Tryz.func29,Tryz.ntmps29
 go_upto_region 4 with fail
 rw [← HW1.out]
 clear d0 d1 d2 d3
 have b0 : W1.cell? ⟨w.heap.size,0,none⟩ = some (.int .i64 0) := blk_cell HV1.out 0
 have b1 : W1.cell? ⟨w.heap.size,1,none⟩ = some (.int .u8 ek) := blk_cell HV1.out 1
 have b2 : W1.cell? ⟨w.heap.size,2,none⟩ = some (.int .i64 en) := blk_cell HV1.out 2
 have b3 : W1.cell? ⟨w.heap.size,3,none⟩ = some (.int .i64 es) := blk_cell HV1.out 3
 have b4 : W1.cell? ⟨w.heap.size,4,none⟩ = some (.int .i64 ec) := blk_cell HV1.out 4
 have b5 : W1.cell? ⟨w.heap.size,5,none⟩ = some (.int .i64 em) := blk_cell HV1.out 5
 go_wp2_with (go_at_call 49; refine HIn.out.mono ?_)
 rintro e1 w2 ⟨k,n,sh,ct,b,rfl,⟨hB2,hM2⟩,hk,hok⟩
 have HE2 : Hid (w2.heap[w.heap.size+1+1]? = some (.cells #[.int .i64 0,.int .u8 0,.int .i64 0,.int .i64 0,.int .i64 0,.int .i64 0] 51 (0,0))) := Lib.hid ((hM2.box (w := w) (φ := φ) (a := a) (by omega) (by have := Hz.out; omega)).trans HE1.out)
 have HV2 : Hid (w2.heap[w.heap.size]? = some (.cells #[.int .i64 0,.int .u8 ek,.int .i64 en,.int .i64 es,.int .i64 ec,.int .i64 em] 51 (0,0))) := Lib.hid ((hM2.box (w := w) (φ := φ) (a := a) (by omega) (by have := Hz.out; omega)).trans HV1.out)
 obtain ⟨m,m9,m0⟩ := hM2.1
 simp only at m9 m0
 have HB2 := Lib.hid hB2
 have HK := Lib.hid hk
 have Hok := Lib.hid hok
 have HM9 := Lib.hid m9
 have HM0 := Lib.hid m0
 have Hgl := Lib.hid (And.intro H.out.fst.2.2 H.out.fgt.2.2.1)
 clear hB2 hM2 hk hok m9 m0 b0 b1 b2 b3 b4 b5
 have g0 := blk_cell HE2.out 0
 have k0 := blk_frozen HE2.out 0
 have g1 := blk_cell HE2.out 1
 have k1 := blk_frozen HE2.out 1
 have g2 := blk_cell HE2.out 2
 have k2 := blk_frozen HE2.out 2
 have g3 := blk_cell HE2.out 3
 have k3 := blk_frozen HE2.out 3
 have g4 := blk_cell HE2.out 4
 have k4 := blk_frozen HE2.out 4
 have g5 := blk_cell HE2.out 5
 have k5 := blk_frozen HE2.out 5
 go_upto_region 14 with fail
 obtain ⟨X0,hX0⟩ : ∃ X0,X0 = ((((((w2.setCell ⟨w.heap.size+1+1,0,none⟩ (.int .i64 0)).setCell ⟨w.heap.size+1+1,1,none⟩ (.int .u8 k)).setCell ⟨w.heap.size+1+1,2,none⟩ (.int .i64 n)).setCell ⟨w.heap.size+1+1,3,none⟩ (.int .i64 sh)).setCell ⟨w.heap.size+1+1,4,none⟩ (.int .i64 ct)).setCell ⟨w.heap.size+1+1,5,none⟩ (.int .i64 0)) := ⟨_,rfl⟩
 rw [← hX0]
 obtain ⟨hXk,r0,r1,r2,r3,r4,r5⟩ := ev_box HE2.out rfl _ _ _ _ _ _ hX0
 have HX0 : Hid (X0.heap[w.heap.size+1+1]? = some (.cells #[.int .i64 0,.int .u8 k,.int .i64 n,.int .i64 sh,.int .i64 ct,.int .i64 0] 51 (0,0))) := Lib.hid (by rw [hX0]; exact blk_set (blk_set (blk_set (blk_set (blk_set (blk_set HE2.out 0 _) 1 _) 2 _) 3 _) 4 _) 5 _)
 have hz2 : W1.heap.size≤w2.heap.size := HB2.out.size
 obtain ⟨X1,hX1⟩ : ∃ X1,X1 = X0.setCell ⟨w.heap.size+1+1,0,none⟩ (.int .i64 0) := ⟨_,rfl⟩
 have HX1 : Hid (X1.heap[w.heap.size+1+1]? = some (.cells #[.int .i64 0,.int .u8 k,.int .i64 n,.int .i64 sh,.int .i64 ct,.int .i64 0] 51 (0,0))) := Lib.hid (by rw [hX1]; exact blk_set HX0.out 0 _)
 have hk1 : Kept w2 X1 (fun q => q = w.heap.size+1+1) := hX1 ▸ hXk.setCell (p := ⟨w.heap.size+1+1,0,none⟩) (Or.inl rfl) _
 obtain ⟨X2,hX2⟩ : ∃ X2,X2 = X1.setCell ⟨w.heap.size+1+1,5,none⟩ (.int .i64 m) := ⟨_,rfl⟩
 have HX2 : Hid (X2.heap[w.heap.size+1+1]? = some (.cells #[.int .i64 0,.int .u8 k,.int .i64 n,.int .i64 sh,.int .i64 ct,.int .i64 m] 51 (0,0))) := Lib.hid (by rw [hX2]; exact blk_set HX1.out 5 _)
 have hk2 : Kept w2 X2 (fun q => q = w.heap.size+1+1) := hX2 ▸ hk1.setCell (p := ⟨w.heap.size+1+1,5,none⟩) (Or.inl rfl) _
 have v0 : X0.cell? ⟨w.heap.size,0,none⟩ = some (.int .i64 0) := blk_cell (hXk.blk HV2.out (blk_lt HV2.out) (by omega)) 0
 have w0 : X0.cell? ⟨w.heap.size+1+1,0,none⟩ = some (.int .i64 0) := blk_cell HX0.out 0
 have w5 : X1.cell? ⟨w.heap.size+1+1,5,none⟩ = some (.int .i64 0) := blk_cell HX1.out 5
 have f0 : X0.frozen? ⟨w.heap.size+1+1,0,none⟩ = false := blk_frozen HX0.out 0
 have q9 : X1.cell? ⟨a.g,9,none⟩ = some (.pointer (some ⟨a.gt,0,none⟩)) := (hk1.cell (by have := Hgl.out.1; have := Hz.out; omega) (by have := Hgl.out.1; omega)).trans HM9.out
 have q0 : X1.cell? ⟨a.gt,0,none⟩ = some (.int .i64 m) := (hk1.cell (by have := Hgl.out.2; have := Hz.out; omega) (by have := Hgl.out.2; omega)).trans HM0.out
 have f5 : X1.frozen? ⟨w.heap.size+1+1,5,none⟩ = false := blk_frozen HX1.out 5
 have HK2 := Lib.hid hk2
 have HV3 : Hid (X2.heap[w.heap.size]? = some (.cells #[.int .i64 0,.int .u8 ek,.int .i64 en,.int .i64 es,.int .i64 ec,.int .i64 em] 51 (0,0))) := Lib.hid (hk2.blk HV2.out (blk_lt HV2.out) (by omega))
 clear r0 r1 r2 r3 r4 r5 hX0 hXk hk1 hk2 g0 g1 g2 g3 g4 g5 k0 k1 k2 k3 k4 k5
 go_upto_region 15 with fail
 rw [← hX1]
 clear hX1 v0 f0 w0
 have HMk := Lib.hid (r12mark_ok a.gt m X1 q0)
 go_wp2_with (go_at_call 53; refine HMk.out.mono ?_)
 rintro e3 w3 ⟨rfl,rfl⟩
 go_upto_region 16 with fail
 rw [← hX2]
 clear hX2 q9 q0 f5 w5
 have y0 := blk_cell HV3.out 0
 have z0 := blk_cell HX2.out 0
 have y1 := blk_cell HV3.out 1
 have z1 := blk_cell HX2.out 1
 have y2 := blk_cell HV3.out 2
 have z2 := blk_cell HX2.out 2
 have y3 := blk_cell HV3.out 3
 have z3 := blk_cell HX2.out 3
 have y4 := blk_cell HV3.out 4
 have z4 := blk_cell HX2.out 4
 have y5 := blk_cell HV3.out 5
 have z5 := blk_cell HX2.out 5
 have hfin : ∀ v,v = (b && decide (ek = k) && decide (en = n) && decide (es = sh) && decide (ec = ct) && decide (em = m))→RNextEnd w φ Bo c rs rs' by_ a x.bd (r.1.2.2 && decide ((⟨0,ek,en,es,ec,em⟩ : Ev) = ⟨0,r.1.1,r.1.2.1.number,r.1.2.1.shard,r.1.2.1.count,r.2.G.mark⟩),r.2) (.returned (.bool v)) X2 :=
  fun v hv => rnext_fin H.out HBl.out Hz.out HB2.out HK.out Hok.out HM0.out HK2.out hv
 obtain ⟨b0,hb0⟩ : ∃ b0,b = b0 := ⟨_,rfl⟩
 rw [hb0] at hfin
 have Hfin := Lib.hid hfin
 have Hb0 := Lib.hid hb0
 clear hfin hb0 HK Hok HM0 HB2 HBl HK2
 cases b with
 | false =>
   go_wp2_with fail
   go_ret
   refine Hfin.out _ ?_
   rw [← Hb0.out]
   simp
 | true =>
   go_wp2_with fail
   all_goals (
    go_ret
    refine Hfin.out _ ?_
    rw [← Hb0.out]
    first | (simp [*]; done) | grind)
set_option maxHeartbeats 4000000 in
theorem rnextC_any (φ : Nat→Nat) (Bo : Nat) (c : Cfg) (rs rs' : List RTx) (by_ : List Int) (a : RA) (x : RG) (s : TS) (w : World) (et ek en es ec em : Int) (r : TrA × TS) (h : RsAt w φ Bo c rs rs' by_ a x s) (hcl : 1≤c.lanes∧c.lanes≤16∧1≤c.shards∧c.shards≤16) (ht : 0 < et) (ht2 : et≤c.lanes)
    (hin : ∀ (W : World) (ψ : Nat→Nat) (N : Nat) (F : Nat→Option Obj) (x2 : RG),RsAt W ψ Bo c rs rs' by_ { a with N := N,F := F } x2 s→x2.bd = x.bd→Calls Tryz.prog 50 #[ptrV a.g,.agg #[.int .i64 et,.int .u8 ek,.int .i64 en,.int .i64 es,.int .i64 ec,.int .i64 em]] W (RCallEnd W ψ Bo c rs rs' by_ { a with N := N,F := F } x2.bd ek r)) :
    Calls Tryz.prog 29 #[ptrV a.g,.agg #[.int .i64 et,.int .u8 ek,.int .i64 en,.int .i64 es,.int .i64 ec,.int .i64 em]] w (RNextEnd w φ Bo c rs rs' by_ a x.bd (r.1.2.2 && decide ((⟨et,ek,en,es,ec,em⟩ : Ev) = ⟨et,r.1.1,r.1.2.1.number,r.1.2.1.shard,r.1.2.1.count,r.2.G.mark⟩),r.2)) := by
 obtain ⟨W1,hW1⟩ : ∃ W1,W1 = ((w.alloc (.cells #[.int .i64 et,.int .u8 ek,.int .i64 en,.int .i64 es,.int .i64 ec,.int .i64 em] 51)).alloc (.cells #[.int .i64 c.lanes,.int .i64 c.shards,.int .i64 c.window,.int .i64 c.queue] 23)).alloc (.cells #[.int .i64 0,.int .u8 0,.int .i64 0,.int .i64 0,.int .i64 0,.int .i64 0] 51) := ⟨_,rfl⟩
 have hb : Below w.heap.size w W1 := hW1 ▸ bel_alloc (bel_alloc (bel_alloc (Below.refl _ _) _) _) _
 have hz : W1.heap.size = w.heap.size+3 := by rw [hW1]; simp
 have HV1 : Hid (W1.heap[w.heap.size]? = some (.cells #[.int .i64 et,.int .u8 ek,.int .i64 en,.int .i64 es,.int .i64 ec,.int .i64 em] 51 (0,0))) := Lib.hid (by rw [hW1,Below.heap_alloc _ _ _ (by simp; omega),Below.heap_alloc _ _ _ (by simp)]; exact blk_new _ _)
 have HC1 : Hid (W1.heap[w.heap.size+1]? = some (.cells #[.int .i64 c.lanes,.int .i64 c.shards,.int .i64 c.window,.int .i64 c.queue] 23 (0,0))) := Lib.hid (by rw [hW1,Below.heap_alloc _ _ _ (by simp)]; have := blk_new (w.alloc (.cells #[.int .i64 et,.int .u8 ek,.int .i64 en,.int .i64 es,.int .i64 ec,.int .i64 em] 51)) (.cells #[.int .i64 c.lanes,.int .i64 c.shards,.int .i64 c.window,.int .i64 c.queue] 23); simpa using this)
 have HE1 : Hid (W1.heap[w.heap.size+1+1]? = some (.cells #[.int .i64 0,.int .u8 0,.int .i64 0,.int .i64 0,.int .i64 0,.int .i64 0] 51 (0,0))) := Lib.hid (by rw [hW1]; have := blk_new ((w.alloc (.cells #[.int .i64 et,.int .u8 ek,.int .i64 en,.int .i64 es,.int .i64 ec,.int .i64 em] 51)).alloc (.cells #[.int .i64 c.lanes,.int .i64 c.shards,.int .i64 c.window,.int .i64 c.queue] 23)) (.cells #[.int .i64 0,.int .u8 0,.int .i64 0,.int .i64 0,.int .i64 0,.int .i64 0] 51); simpa using this)
 have hS1 := h.boxed hb
 have HIn := Lib.hid (hin W1 _ _ _ x hS1 rfl)
 have H := Lib.hid h
 have HBl := Lib.hid hb
 have Hz := Lib.hid hz
 have HW1 := Lib.hid hW1
 have d0 : ∀ o,(w.alloc o).cell? ⟨a.g,0,none⟩ = some (.int .i64 c.lanes) := fun o => blk_cell ((Below.heap_alloc _ _ _ h.fst.2.2).trans (h.st (fun h => h))) 0
 have d1 : ∀ o,(w.alloc o).cell? ⟨a.g,1,none⟩ = some (.int .i64 c.shards) := fun o => blk_cell ((Below.heap_alloc _ _ _ h.fst.2.2).trans (h.st (fun h => h))) 1
 have d2 : ∀ o,(w.alloc o).cell? ⟨a.g,2,none⟩ = some (.int .i64 c.window) := fun o => blk_cell ((Below.heap_alloc _ _ _ h.fst.2.2).trans (h.st (fun h => h))) 2
 have d3 : ∀ o,(w.alloc o).cell? ⟨a.g,3,none⟩ = some (.int .i64 c.queue) := fun o => blk_cell ((Below.heap_alloc _ _ _ h.fst.2.2).trans (h.st (fun h => h))) 3
 clear hin hS1 h hb hz hW1
 unfold ptrV at *
 go_enter Tryz.func29,Tryz.ntmps29
 go_upto_region 4 with fail
 rw [← HW1.out]
 clear d0 d1 d2 d3
 have b0 : W1.cell? ⟨w.heap.size,0,none⟩ = some (.int .i64 et) := blk_cell HV1.out 0
 have b1 : W1.cell? ⟨w.heap.size,1,none⟩ = some (.int .u8 ek) := blk_cell HV1.out 1
 have b2 : W1.cell? ⟨w.heap.size,2,none⟩ = some (.int .i64 en) := blk_cell HV1.out 2
 have b3 : W1.cell? ⟨w.heap.size,3,none⟩ = some (.int .i64 es) := blk_cell HV1.out 3
 have b4 : W1.cell? ⟨w.heap.size,4,none⟩ = some (.int .i64 ec) := blk_cell HV1.out 4
 have b5 : W1.cell? ⟨w.heap.size,5,none⟩ = some (.int .i64 em) := blk_cell HV1.out 5
 have q0 : W1.cell? ⟨w.heap.size+1,0,none⟩ = some (.int .i64 c.lanes) := blk_cell HC1.out 0
 go_wp2_with (go_at_call 50; refine HIn.out.mono ?_)
 rintro e1 w2 ⟨k,n,sh,ct,b,rfl,⟨hB2,hM2⟩,hk,hok⟩
 have HE2 : Hid (w2.heap[w.heap.size+1+1]? = some (.cells #[.int .i64 0,.int .u8 0,.int .i64 0,.int .i64 0,.int .i64 0,.int .i64 0] 51 (0,0))) := Lib.hid ((hM2.box (w := w) (φ := φ) (a := a) (by omega) (by have := Hz.out; omega)).trans HE1.out)
 have HV2 : Hid (w2.heap[w.heap.size]? = some (.cells #[.int .i64 et,.int .u8 ek,.int .i64 en,.int .i64 es,.int .i64 ec,.int .i64 em] 51 (0,0))) := Lib.hid ((hM2.box (w := w) (φ := φ) (a := a) (by omega) (by have := Hz.out; omega)).trans HV1.out)
 obtain ⟨m,m9,m0⟩ := hM2.1
 simp only at m9 m0
 have HB2 := Lib.hid hB2
 have HK := Lib.hid hk
 have Hok := Lib.hid hok
 have HM9 := Lib.hid m9
 have HM0 := Lib.hid m0
 have Hgl := Lib.hid (And.intro H.out.fst.2.2 H.out.fgt.2.2.1)
 clear hB2 hM2 hk hok m9 m0 b0 b1 b2 b3 b4 b5
 have g0 := blk_cell HE2.out 0
 have k0 := blk_frozen HE2.out 0
 have g1 := blk_cell HE2.out 1
 have k1 := blk_frozen HE2.out 1
 have g2 := blk_cell HE2.out 2
 have k2 := blk_frozen HE2.out 2
 have g3 := blk_cell HE2.out 3
 have k3 := blk_frozen HE2.out 3
 have g4 := blk_cell HE2.out 4
 have k4 := blk_frozen HE2.out 4
 have g5 := blk_cell HE2.out 5
 have k5 := blk_frozen HE2.out 5
 go_upto_region 14 with fail
 obtain ⟨X0,hX0⟩ : ∃ X0,X0 = ((((((w2.setCell ⟨w.heap.size+1+1,0,none⟩ (.int .i64 0)).setCell ⟨w.heap.size+1+1,1,none⟩ (.int .u8 k)).setCell ⟨w.heap.size+1+1,2,none⟩ (.int .i64 n)).setCell ⟨w.heap.size+1+1,3,none⟩ (.int .i64 sh)).setCell ⟨w.heap.size+1+1,4,none⟩ (.int .i64 ct)).setCell ⟨w.heap.size+1+1,5,none⟩ (.int .i64 0)) := ⟨_,rfl⟩
 rw [← hX0]
 obtain ⟨hXk,r0,r1,r2,r3,r4,r5⟩ := ev_box HE2.out rfl _ _ _ _ _ _ hX0
 have HX0 : Hid (X0.heap[w.heap.size+1+1]? = some (.cells #[.int .i64 0,.int .u8 k,.int .i64 n,.int .i64 sh,.int .i64 ct,.int .i64 0] 51 (0,0))) := Lib.hid (by rw [hX0]; exact blk_set (blk_set (blk_set (blk_set (blk_set (blk_set HE2.out 0 _) 1 _) 2 _) 3 _) 4 _) 5 _)
 have hz2 : W1.heap.size≤w2.heap.size := HB2.out.size
 obtain ⟨X1,hX1⟩ : ∃ X1,X1 = X0.setCell ⟨w.heap.size+1+1,0,none⟩ (.int .i64 et) := ⟨_,rfl⟩
 have HX1 : Hid (X1.heap[w.heap.size+1+1]? = some (.cells #[.int .i64 et,.int .u8 k,.int .i64 n,.int .i64 sh,.int .i64 ct,.int .i64 0] 51 (0,0))) := Lib.hid (by rw [hX1]; exact blk_set HX0.out 0 _)
 have hk1 : Kept w2 X1 (fun q => q = w.heap.size+1+1) := hX1 ▸ hXk.setCell (p := ⟨w.heap.size+1+1,0,none⟩) (Or.inl rfl) _
 obtain ⟨X2,hX2⟩ : ∃ X2,X2 = X1.setCell ⟨w.heap.size+1+1,5,none⟩ (.int .i64 m) := ⟨_,rfl⟩
 have HX2 : Hid (X2.heap[w.heap.size+1+1]? = some (.cells #[.int .i64 et,.int .u8 k,.int .i64 n,.int .i64 sh,.int .i64 ct,.int .i64 m] 51 (0,0))) := Lib.hid (by rw [hX2]; exact blk_set HX1.out 5 _)
 have hk2 : Kept w2 X2 (fun q => q = w.heap.size+1+1) := hX2 ▸ hk1.setCell (p := ⟨w.heap.size+1+1,5,none⟩) (Or.inl rfl) _
 have v0 : X0.cell? ⟨w.heap.size,0,none⟩ = some (.int .i64 et) := blk_cell (hXk.blk HV2.out (blk_lt HV2.out) (by omega)) 0
 have w0 : X0.cell? ⟨w.heap.size+1+1,0,none⟩ = some (.int .i64 0) := blk_cell HX0.out 0
 have w5 : X1.cell? ⟨w.heap.size+1+1,5,none⟩ = some (.int .i64 0) := blk_cell HX1.out 5
 have f0 : X0.frozen? ⟨w.heap.size+1+1,0,none⟩ = false := blk_frozen HX0.out 0
 have q9 : X1.cell? ⟨a.g,9,none⟩ = some (.pointer (some ⟨a.gt,0,none⟩)) := (hk1.cell (by have := Hgl.out.1; have := Hz.out; omega) (by have := Hgl.out.1; omega)).trans HM9.out
 have q0 : X1.cell? ⟨a.gt,0,none⟩ = some (.int .i64 m) := (hk1.cell (by have := Hgl.out.2; have := Hz.out; omega) (by have := Hgl.out.2; omega)).trans HM0.out
 have f5 : X1.frozen? ⟨w.heap.size+1+1,5,none⟩ = false := blk_frozen HX1.out 5
 have HK2 := Lib.hid hk2
 have HV3 : Hid (X2.heap[w.heap.size]? = some (.cells #[.int .i64 et,.int .u8 ek,.int .i64 en,.int .i64 es,.int .i64 ec,.int .i64 em] 51 (0,0))) := Lib.hid (hk2.blk HV2.out (blk_lt HV2.out) (by omega))
 clear r0 r1 r2 r3 r4 r5 hX0 hXk hk1 hk2 g0 g1 g2 g3 g4 g5 k0 k1 k2 k3 k4 k5
 go_upto_region 15 with fail
 rw [← hX1]
 clear hX1 v0 f0 w0
 have HMk := Lib.hid (r12mark_ok a.gt m X1 q0)
 go_wp2_with (go_at_call 53; refine HMk.out.mono ?_)
 rintro e3 w3 ⟨rfl,rfl⟩
 go_upto_region 16 with fail
 rw [← hX2]
 clear hX2 q9 q0 f5 w5
 have y0 := blk_cell HV3.out 0
 have z0 := blk_cell HX2.out 0
 have y1 := blk_cell HV3.out 1
 have z1 := blk_cell HX2.out 1
 have y2 := blk_cell HV3.out 2
 have z2 := blk_cell HX2.out 2
 have y3 := blk_cell HV3.out 3
 have z3 := blk_cell HX2.out 3
 have y4 := blk_cell HV3.out 4
 have z4 := blk_cell HX2.out 4
 have y5 := blk_cell HV3.out 5
 have z5 := blk_cell HX2.out 5
 have hfin : ∀ v,v = (b && decide (ek = k) && decide (en = n) && decide (es = sh) && decide (ec = ct) && decide (em = m))→RNextEnd w φ Bo c rs rs' by_ a x.bd (r.1.2.2 && decide ((⟨et,ek,en,es,ec,em⟩ : Ev) = ⟨et,r.1.1,r.1.2.1.number,r.1.2.1.shard,r.1.2.1.count,r.2.G.mark⟩),r.2) (.returned (.bool v)) X2 :=
  fun v hv => rnext_fin H.out HBl.out Hz.out HB2.out HK.out Hok.out HM0.out HK2.out hv
 obtain ⟨b0,hb0⟩ : ∃ b0,b = b0 := ⟨_,rfl⟩
 rw [hb0] at hfin
 have Hfin := Lib.hid hfin
 have Hb0 := Lib.hid hb0
 clear hfin hb0 HK Hok HM0 HB2 HBl HK2
 cases b with
 | false =>
   go_wp2_with fail
   go_ret
   refine Hfin.out _ ?_
   rw [← Hb0.out]
   simp
 | true =>
   go_wp2_with fail
   all_goals (
    go_ret
    refine Hfin.out _ ?_
    rw [← Hb0.out]
    first | (simp [*]; done) | grind)
set_option maxHeartbeats 4000000 in
theorem rnextD_any (φ : Nat→Nat) (Bo : Nat) (c : Cfg) (rs rs' : List RTx) (by_ : List Int) (a : RA) (x : RG) (s : TS) (w : World) (et ek en es ec em : Int) (r : TrA × TS) (h : RsAt w φ Bo c rs rs' by_ a x s) (hcl : 1≤c.lanes∧c.lanes≤16∧1≤c.shards∧c.shards≤16) (ht : c.lanes < et) (ht2 : et≤c.lanes+c.shards)
    (hin : ∀ (W : World) (ψ : Nat→Nat) (N : Nat) (F : Nat→Option Obj) (x2 : RG),RsAt W ψ Bo c rs rs' by_ { a with N := N,F := F } x2 s→x2.bd = x.bd→Calls Tryz.prog 51 #[ptrV a.g,.int .i64 (et - 1 - c.lanes)] W (RCallEnd W ψ Bo c rs rs' by_ { a with N := N,F := F } x2.bd ek r)) :
    Calls Tryz.prog 29 #[ptrV a.g,.agg #[.int .i64 et,.int .u8 ek,.int .i64 en,.int .i64 es,.int .i64 ec,.int .i64 em]] w (RNextEnd w φ Bo c rs rs' by_ a x.bd (r.1.2.2 && decide ((⟨et,ek,en,es,ec,em⟩ : Ev) = ⟨et,r.1.1,r.1.2.1.number,r.1.2.1.shard,r.1.2.1.count,r.2.G.mark⟩),r.2)) := by
 obtain ⟨W1,hW1⟩ : ∃ W1,W1 = ((w.alloc (.cells #[.int .i64 et,.int .u8 ek,.int .i64 en,.int .i64 es,.int .i64 ec,.int .i64 em] 51)).alloc (.cells #[.int .i64 c.lanes,.int .i64 c.shards,.int .i64 c.window,.int .i64 c.queue] 23)).alloc (.cells #[.int .i64 0,.int .u8 0,.int .i64 0,.int .i64 0,.int .i64 0,.int .i64 0] 51) := ⟨_,rfl⟩
 have hb : Below w.heap.size w W1 := hW1 ▸ bel_alloc (bel_alloc (bel_alloc (Below.refl _ _) _) _) _
 have hz : W1.heap.size = w.heap.size+3 := by rw [hW1]; simp
 have HV1 : Hid (W1.heap[w.heap.size]? = some (.cells #[.int .i64 et,.int .u8 ek,.int .i64 en,.int .i64 es,.int .i64 ec,.int .i64 em] 51 (0,0))) := Lib.hid (by rw [hW1,Below.heap_alloc _ _ _ (by simp; omega),Below.heap_alloc _ _ _ (by simp)]; exact blk_new _ _)
 have HC1 : Hid (W1.heap[w.heap.size+1]? = some (.cells #[.int .i64 c.lanes,.int .i64 c.shards,.int .i64 c.window,.int .i64 c.queue] 23 (0,0))) := Lib.hid (by rw [hW1,Below.heap_alloc _ _ _ (by simp)]; have := blk_new (w.alloc (.cells #[.int .i64 et,.int .u8 ek,.int .i64 en,.int .i64 es,.int .i64 ec,.int .i64 em] 51)) (.cells #[.int .i64 c.lanes,.int .i64 c.shards,.int .i64 c.window,.int .i64 c.queue] 23); simpa using this)
 have HE1 : Hid (W1.heap[w.heap.size+1+1]? = some (.cells #[.int .i64 0,.int .u8 0,.int .i64 0,.int .i64 0,.int .i64 0,.int .i64 0] 51 (0,0))) := Lib.hid (by rw [hW1]; have := blk_new ((w.alloc (.cells #[.int .i64 et,.int .u8 ek,.int .i64 en,.int .i64 es,.int .i64 ec,.int .i64 em] 51)).alloc (.cells #[.int .i64 c.lanes,.int .i64 c.shards,.int .i64 c.window,.int .i64 c.queue] 23)) (.cells #[.int .i64 0,.int .u8 0,.int .i64 0,.int .i64 0,.int .i64 0,.int .i64 0] 51); simpa using this)
 have hS1 := h.boxed hb
 have HIn := Lib.hid (hin W1 _ _ _ x hS1 rfl)
 have H := Lib.hid h
 have HBl := Lib.hid hb
 have Hz := Lib.hid hz
 have HW1 := Lib.hid hW1
 have d0 : ∀ o,(w.alloc o).cell? ⟨a.g,0,none⟩ = some (.int .i64 c.lanes) := fun o => blk_cell ((Below.heap_alloc _ _ _ h.fst.2.2).trans (h.st (fun h => h))) 0
 have d1 : ∀ o,(w.alloc o).cell? ⟨a.g,1,none⟩ = some (.int .i64 c.shards) := fun o => blk_cell ((Below.heap_alloc _ _ _ h.fst.2.2).trans (h.st (fun h => h))) 1
 have d2 : ∀ o,(w.alloc o).cell? ⟨a.g,2,none⟩ = some (.int .i64 c.window) := fun o => blk_cell ((Below.heap_alloc _ _ _ h.fst.2.2).trans (h.st (fun h => h))) 2
 have d3 : ∀ o,(w.alloc o).cell? ⟨a.g,3,none⟩ = some (.int .i64 c.queue) := fun o => blk_cell ((Below.heap_alloc _ _ _ h.fst.2.2).trans (h.st (fun h => h))) 3
 clear hin hS1 h hb hz hW1
 unfold ptrV at *
 go_enter Tryz.func29,Tryz.ntmps29
 go_upto_region 4 with fail
 rw [← HW1.out]
 clear d0 d1 d2 d3
 have b0 : W1.cell? ⟨w.heap.size,0,none⟩ = some (.int .i64 et) := blk_cell HV1.out 0
 have b1 : W1.cell? ⟨w.heap.size,1,none⟩ = some (.int .u8 ek) := blk_cell HV1.out 1
 have b2 : W1.cell? ⟨w.heap.size,2,none⟩ = some (.int .i64 en) := blk_cell HV1.out 2
 have b3 : W1.cell? ⟨w.heap.size,3,none⟩ = some (.int .i64 es) := blk_cell HV1.out 3
 have b4 : W1.cell? ⟨w.heap.size,4,none⟩ = some (.int .i64 ec) := blk_cell HV1.out 4
 have b5 : W1.cell? ⟨w.heap.size,5,none⟩ = some (.int .i64 em) := blk_cell HV1.out 5
 have q0 : W1.cell? ⟨w.heap.size+1,0,none⟩ = some (.int .i64 c.lanes) := blk_cell HC1.out 0
 have q1 : W1.cell? ⟨w.heap.size+1,1,none⟩ = some (.int .i64 c.shards) := blk_cell HC1.out 1
 have hw1 : IntKind.i64.wrap (c.lanes+c.shards) = c.lanes+c.shards := by rw [IntKind.wrap_i64]; omega
 have hw3 : IntKind.i64.wrap (et - 1) = et - 1 := by rw [IntKind.wrap_i64]; omega
 have hw4 : IntKind.i64.wrap (et - 1 - c.lanes) = et - 1 - c.lanes := by rw [IntKind.wrap_i64]; omega
 go_wp2_with (go_at_call 51; refine HIn.out.mono ?_)
 rintro e1 w2 ⟨k,n,sh,ct,b,rfl,⟨hB2,hM2⟩,hk,hok⟩
 have HE2 : Hid (w2.heap[w.heap.size+1+1]? = some (.cells #[.int .i64 0,.int .u8 0,.int .i64 0,.int .i64 0,.int .i64 0,.int .i64 0] 51 (0,0))) := Lib.hid ((hM2.box (w := w) (φ := φ) (a := a) (by omega) (by have := Hz.out; omega)).trans HE1.out)
 have HV2 : Hid (w2.heap[w.heap.size]? = some (.cells #[.int .i64 et,.int .u8 ek,.int .i64 en,.int .i64 es,.int .i64 ec,.int .i64 em] 51 (0,0))) := Lib.hid ((hM2.box (w := w) (φ := φ) (a := a) (by omega) (by have := Hz.out; omega)).trans HV1.out)
 obtain ⟨m,m9,m0⟩ := hM2.1
 simp only at m9 m0
 have HB2 := Lib.hid hB2
 have HK := Lib.hid hk
 have Hok := Lib.hid hok
 have HM9 := Lib.hid m9
 have HM0 := Lib.hid m0
 have Hgl := Lib.hid (And.intro H.out.fst.2.2 H.out.fgt.2.2.1)
 clear hB2 hM2 hk hok m9 m0 b0 b1 b2 b3 b4 b5
 have g0 := blk_cell HE2.out 0
 have k0 := blk_frozen HE2.out 0
 have g1 := blk_cell HE2.out 1
 have k1 := blk_frozen HE2.out 1
 have g2 := blk_cell HE2.out 2
 have k2 := blk_frozen HE2.out 2
 have g3 := blk_cell HE2.out 3
 have k3 := blk_frozen HE2.out 3
 have g4 := blk_cell HE2.out 4
 have k4 := blk_frozen HE2.out 4
 have g5 := blk_cell HE2.out 5
 have k5 := blk_frozen HE2.out 5
 go_upto_region 14 with fail
 obtain ⟨X0,hX0⟩ : ∃ X0,X0 = ((((((w2.setCell ⟨w.heap.size+1+1,0,none⟩ (.int .i64 0)).setCell ⟨w.heap.size+1+1,1,none⟩ (.int .u8 k)).setCell ⟨w.heap.size+1+1,2,none⟩ (.int .i64 n)).setCell ⟨w.heap.size+1+1,3,none⟩ (.int .i64 sh)).setCell ⟨w.heap.size+1+1,4,none⟩ (.int .i64 ct)).setCell ⟨w.heap.size+1+1,5,none⟩ (.int .i64 0)) := ⟨_,rfl⟩
 rw [← hX0]
 obtain ⟨hXk,r0,r1,r2,r3,r4,r5⟩ := ev_box HE2.out rfl _ _ _ _ _ _ hX0
 have HX0 : Hid (X0.heap[w.heap.size+1+1]? = some (.cells #[.int .i64 0,.int .u8 k,.int .i64 n,.int .i64 sh,.int .i64 ct,.int .i64 0] 51 (0,0))) := Lib.hid (by rw [hX0]; exact blk_set (blk_set (blk_set (blk_set (blk_set (blk_set HE2.out 0 _) 1 _) 2 _) 3 _) 4 _) 5 _)
 have hz2 : W1.heap.size≤w2.heap.size := HB2.out.size
 obtain ⟨X1,hX1⟩ : ∃ X1,X1 = X0.setCell ⟨w.heap.size+1+1,0,none⟩ (.int .i64 et) := ⟨_,rfl⟩
 have HX1 : Hid (X1.heap[w.heap.size+1+1]? = some (.cells #[.int .i64 et,.int .u8 k,.int .i64 n,.int .i64 sh,.int .i64 ct,.int .i64 0] 51 (0,0))) := Lib.hid (by rw [hX1]; exact blk_set HX0.out 0 _)
 have hk1 : Kept w2 X1 (fun q => q = w.heap.size+1+1) := hX1 ▸ hXk.setCell (p := ⟨w.heap.size+1+1,0,none⟩) (Or.inl rfl) _
 obtain ⟨X2,hX2⟩ : ∃ X2,X2 = X1.setCell ⟨w.heap.size+1+1,5,none⟩ (.int .i64 m) := ⟨_,rfl⟩
 have HX2 : Hid (X2.heap[w.heap.size+1+1]? = some (.cells #[.int .i64 et,.int .u8 k,.int .i64 n,.int .i64 sh,.int .i64 ct,.int .i64 m] 51 (0,0))) := Lib.hid (by rw [hX2]; exact blk_set HX1.out 5 _)
 have hk2 : Kept w2 X2 (fun q => q = w.heap.size+1+1) := hX2 ▸ hk1.setCell (p := ⟨w.heap.size+1+1,5,none⟩) (Or.inl rfl) _
 have v0 : X0.cell? ⟨w.heap.size,0,none⟩ = some (.int .i64 et) := blk_cell (hXk.blk HV2.out (blk_lt HV2.out) (by omega)) 0
 have w0 : X0.cell? ⟨w.heap.size+1+1,0,none⟩ = some (.int .i64 0) := blk_cell HX0.out 0
 have w5 : X1.cell? ⟨w.heap.size+1+1,5,none⟩ = some (.int .i64 0) := blk_cell HX1.out 5
 have f0 : X0.frozen? ⟨w.heap.size+1+1,0,none⟩ = false := blk_frozen HX0.out 0
 have q9 : X1.cell? ⟨a.g,9,none⟩ = some (.pointer (some ⟨a.gt,0,none⟩)) := (hk1.cell (by have := Hgl.out.1; have := Hz.out; omega) (by have := Hgl.out.1; omega)).trans HM9.out
 have q0 : X1.cell? ⟨a.gt,0,none⟩ = some (.int .i64 m) := (hk1.cell (by have := Hgl.out.2; have := Hz.out; omega) (by have := Hgl.out.2; omega)).trans HM0.out
 have f5 : X1.frozen? ⟨w.heap.size+1+1,5,none⟩ = false := blk_frozen HX1.out 5
 have HK2 := Lib.hid hk2
 have HV3 : Hid (X2.heap[w.heap.size]? = some (.cells #[.int .i64 et,.int .u8 ek,.int .i64 en,.int .i64 es,.int .i64 ec,.int .i64 em] 51 (0,0))) := Lib.hid (hk2.blk HV2.out (blk_lt HV2.out) (by omega))
 clear r0 r1 r2 r3 r4 r5 hX0 hXk hk1 hk2 g0 g1 g2 g3 g4 g5 k0 k1 k2 k3 k4 k5
 go_upto_region 15 with fail
 rw [← hX1]
 clear hX1 v0 f0 w0
 have HMk := Lib.hid (r12mark_ok a.gt m X1 q0)
 go_wp2_with (go_at_call 53; refine HMk.out.mono ?_)
 rintro e3 w3 ⟨rfl,rfl⟩
 go_upto_region 16 with fail
 rw [← hX2]
 clear hX2 q9 q0 f5 w5
 have y0 := blk_cell HV3.out 0
 have z0 := blk_cell HX2.out 0
 have y1 := blk_cell HV3.out 1
 have z1 := blk_cell HX2.out 1
 have y2 := blk_cell HV3.out 2
 have z2 := blk_cell HX2.out 2
 have y3 := blk_cell HV3.out 3
 have z3 := blk_cell HX2.out 3
 have y4 := blk_cell HV3.out 4
 have z4 := blk_cell HX2.out 4
 have y5 := blk_cell HV3.out 5
 have z5 := blk_cell HX2.out 5
 have hfin : ∀ v,v = (b && decide (ek = k) && decide (en = n) && decide (es = sh) && decide (ec = ct) && decide (em = m))→RNextEnd w φ Bo c rs rs' by_ a x.bd (r.1.2.2 && decide ((⟨et,ek,en,es,ec,em⟩ : Ev) = ⟨et,r.1.1,r.1.2.1.number,r.1.2.1.shard,r.1.2.1.count,r.2.G.mark⟩),r.2) (.returned (.bool v)) X2 :=
  fun v hv => rnext_fin H.out HBl.out Hz.out HB2.out HK.out Hok.out HM0.out HK2.out hv
 obtain ⟨b0,hb0⟩ : ∃ b0,b = b0 := ⟨_,rfl⟩
 rw [hb0] at hfin
 have Hfin := Lib.hid hfin
 have Hb0 := Lib.hid hb0
 clear hfin hb0 HK Hok HM0 HB2 HBl HK2
 cases b with
 | false =>
   go_wp2_with fail
   go_ret
   refine Hfin.out _ ?_
   rw [← Hb0.out]
   simp
 | true =>
   go_wp2_with fail
   all_goals (
    go_ret
    refine Hfin.out _ ?_
    rw [← Hb0.out]
    first | (simp [*]; done) | grind)
set_option maxHeartbeats 4000000 in
theorem rnextE_any (φ : Nat→Nat) (Bo : Nat) (c : Cfg) (rs rs' : List RTx) (by_ : List Int) (a : RA) (x : RG) (s : TS) (w : World) ( ek en es ec em : Int) (r : TrA × TS) (h : RsAt w φ Bo c rs rs' by_ a x s) (hcl : 1≤c.lanes∧c.lanes≤16∧1≤c.shards∧c.shards≤16) 
    (hin : ∀ (W : World) (ψ : Nat→Nat) (N : Nat) (F : Nat→Option Obj) (x2 : RG),RsAt W ψ Bo c rs rs' by_ { a with N := N,F := F } x2 s→x2.bd = x.bd→Calls Tryz.prog 52 #[ptrV a.g] W (RCallEnd W ψ Bo c rs rs' by_ { a with N := N,F := F } x2.bd ek r)) :
    Calls Tryz.prog 29 #[ptrV a.g,.agg #[.int .i64 (c.lanes+c.shards+1),.int .u8 ek,.int .i64 en,.int .i64 es,.int .i64 ec,.int .i64 em]] w (RNextEnd w φ Bo c rs rs' by_ a x.bd (r.1.2.2 && decide ((⟨(c.lanes+c.shards+1),ek,en,es,ec,em⟩ : Ev) = ⟨(c.lanes+c.shards+1),r.1.1,r.1.2.1.number,r.1.2.1.shard,r.1.2.1.count,r.2.G.mark⟩),r.2)) := by
 obtain ⟨W1,hW1⟩ : ∃ W1,W1 = ((w.alloc (.cells #[.int .i64 (c.lanes+c.shards+1),.int .u8 ek,.int .i64 en,.int .i64 es,.int .i64 ec,.int .i64 em] 51)).alloc (.cells #[.int .i64 c.lanes,.int .i64 c.shards,.int .i64 c.window,.int .i64 c.queue] 23)).alloc (.cells #[.int .i64 0,.int .u8 0,.int .i64 0,.int .i64 0,.int .i64 0,.int .i64 0] 51) := ⟨_,rfl⟩
 have hb : Below w.heap.size w W1 := hW1 ▸ bel_alloc (bel_alloc (bel_alloc (Below.refl _ _) _) _) _
 have hz : W1.heap.size = w.heap.size+3 := by rw [hW1]; simp
 have HV1 : Hid (W1.heap[w.heap.size]? = some (.cells #[.int .i64 (c.lanes+c.shards+1),.int .u8 ek,.int .i64 en,.int .i64 es,.int .i64 ec,.int .i64 em] 51 (0,0))) := Lib.hid (by rw [hW1,Below.heap_alloc _ _ _ (by simp; omega),Below.heap_alloc _ _ _ (by simp)]; exact blk_new _ _)
 have HC1 : Hid (W1.heap[w.heap.size+1]? = some (.cells #[.int .i64 c.lanes,.int .i64 c.shards,.int .i64 c.window,.int .i64 c.queue] 23 (0,0))) := Lib.hid (by rw [hW1,Below.heap_alloc _ _ _ (by simp)]; have := blk_new (w.alloc (.cells #[.int .i64 (c.lanes+c.shards+1),.int .u8 ek,.int .i64 en,.int .i64 es,.int .i64 ec,.int .i64 em] 51)) (.cells #[.int .i64 c.lanes,.int .i64 c.shards,.int .i64 c.window,.int .i64 c.queue] 23); simpa using this)
 have HE1 : Hid (W1.heap[w.heap.size+1+1]? = some (.cells #[.int .i64 0,.int .u8 0,.int .i64 0,.int .i64 0,.int .i64 0,.int .i64 0] 51 (0,0))) := Lib.hid (by rw [hW1]; have := blk_new ((w.alloc (.cells #[.int .i64 (c.lanes+c.shards+1),.int .u8 ek,.int .i64 en,.int .i64 es,.int .i64 ec,.int .i64 em] 51)).alloc (.cells #[.int .i64 c.lanes,.int .i64 c.shards,.int .i64 c.window,.int .i64 c.queue] 23)) (.cells #[.int .i64 0,.int .u8 0,.int .i64 0,.int .i64 0,.int .i64 0,.int .i64 0] 51); simpa using this)
 have hS1 := h.boxed hb
 have HIn := Lib.hid (hin W1 _ _ _ x hS1 rfl)
 have H := Lib.hid h
 have HBl := Lib.hid hb
 have Hz := Lib.hid hz
 have HW1 := Lib.hid hW1
 have d0 : ∀ o,(w.alloc o).cell? ⟨a.g,0,none⟩ = some (.int .i64 c.lanes) := fun o => blk_cell ((Below.heap_alloc _ _ _ h.fst.2.2).trans (h.st (fun h => h))) 0
 have d1 : ∀ o,(w.alloc o).cell? ⟨a.g,1,none⟩ = some (.int .i64 c.shards) := fun o => blk_cell ((Below.heap_alloc _ _ _ h.fst.2.2).trans (h.st (fun h => h))) 1
 have d2 : ∀ o,(w.alloc o).cell? ⟨a.g,2,none⟩ = some (.int .i64 c.window) := fun o => blk_cell ((Below.heap_alloc _ _ _ h.fst.2.2).trans (h.st (fun h => h))) 2
 have d3 : ∀ o,(w.alloc o).cell? ⟨a.g,3,none⟩ = some (.int .i64 c.queue) := fun o => blk_cell ((Below.heap_alloc _ _ _ h.fst.2.2).trans (h.st (fun h => h))) 3
 clear hin hS1 h hb hz hW1
 unfold ptrV at *
 go_enter Tryz.func29,Tryz.ntmps29
 go_upto_region 4 with fail
 rw [← HW1.out]
 clear d0 d1 d2 d3
 have b0 : W1.cell? ⟨w.heap.size,0,none⟩ = some (.int .i64 (c.lanes+c.shards+1)) := blk_cell HV1.out 0
 have b1 : W1.cell? ⟨w.heap.size,1,none⟩ = some (.int .u8 ek) := blk_cell HV1.out 1
 have b2 : W1.cell? ⟨w.heap.size,2,none⟩ = some (.int .i64 en) := blk_cell HV1.out 2
 have b3 : W1.cell? ⟨w.heap.size,3,none⟩ = some (.int .i64 es) := blk_cell HV1.out 3
 have b4 : W1.cell? ⟨w.heap.size,4,none⟩ = some (.int .i64 ec) := blk_cell HV1.out 4
 have b5 : W1.cell? ⟨w.heap.size,5,none⟩ = some (.int .i64 em) := blk_cell HV1.out 5
 have q0 : W1.cell? ⟨w.heap.size+1,0,none⟩ = some (.int .i64 c.lanes) := blk_cell HC1.out 0
 have q1 : W1.cell? ⟨w.heap.size+1,1,none⟩ = some (.int .i64 c.shards) := blk_cell HC1.out 1
 have hw1 : IntKind.i64.wrap (c.lanes+c.shards) = c.lanes+c.shards := by rw [IntKind.wrap_i64]; omega
 have hw2 : IntKind.i64.wrap (c.lanes+c.shards+1) = c.lanes+c.shards+1 := by rw [IntKind.wrap_i64]; omega
 go_wp2_with (go_at_call 52; refine HIn.out.mono ?_)
 rintro e1 w2 ⟨k,n,sh,ct,b,rfl,⟨hB2,hM2⟩,hk,hok⟩
 have HE2 : Hid (w2.heap[w.heap.size+1+1]? = some (.cells #[.int .i64 0,.int .u8 0,.int .i64 0,.int .i64 0,.int .i64 0,.int .i64 0] 51 (0,0))) := Lib.hid ((hM2.box (w := w) (φ := φ) (a := a) (by omega) (by have := Hz.out; omega)).trans HE1.out)
 have HV2 : Hid (w2.heap[w.heap.size]? = some (.cells #[.int .i64 (c.lanes+c.shards+1),.int .u8 ek,.int .i64 en,.int .i64 es,.int .i64 ec,.int .i64 em] 51 (0,0))) := Lib.hid ((hM2.box (w := w) (φ := φ) (a := a) (by omega) (by have := Hz.out; omega)).trans HV1.out)
 obtain ⟨m,m9,m0⟩ := hM2.1
 simp only at m9 m0
 have HB2 := Lib.hid hB2
 have HK := Lib.hid hk
 have Hok := Lib.hid hok
 have HM9 := Lib.hid m9
 have HM0 := Lib.hid m0
 have Hgl := Lib.hid (And.intro H.out.fst.2.2 H.out.fgt.2.2.1)
 clear hB2 hM2 hk hok m9 m0 b0 b1 b2 b3 b4 b5
 have g0 := blk_cell HE2.out 0
 have k0 := blk_frozen HE2.out 0
 have g1 := blk_cell HE2.out 1
 have k1 := blk_frozen HE2.out 1
 have g2 := blk_cell HE2.out 2
 have k2 := blk_frozen HE2.out 2
 have g3 := blk_cell HE2.out 3
 have k3 := blk_frozen HE2.out 3
 have g4 := blk_cell HE2.out 4
 have k4 := blk_frozen HE2.out 4
 have g5 := blk_cell HE2.out 5
 have k5 := blk_frozen HE2.out 5
 go_upto_region 14 with fail
 obtain ⟨X0,hX0⟩ : ∃ X0,X0 = ((((((w2.setCell ⟨w.heap.size+1+1,0,none⟩ (.int .i64 0)).setCell ⟨w.heap.size+1+1,1,none⟩ (.int .u8 k)).setCell ⟨w.heap.size+1+1,2,none⟩ (.int .i64 n)).setCell ⟨w.heap.size+1+1,3,none⟩ (.int .i64 sh)).setCell ⟨w.heap.size+1+1,4,none⟩ (.int .i64 ct)).setCell ⟨w.heap.size+1+1,5,none⟩ (.int .i64 0)) := ⟨_,rfl⟩
 rw [← hX0]
 obtain ⟨hXk,r0,r1,r2,r3,r4,r5⟩ := ev_box HE2.out rfl _ _ _ _ _ _ hX0
 have HX0 : Hid (X0.heap[w.heap.size+1+1]? = some (.cells #[.int .i64 0,.int .u8 k,.int .i64 n,.int .i64 sh,.int .i64 ct,.int .i64 0] 51 (0,0))) := Lib.hid (by rw [hX0]; exact blk_set (blk_set (blk_set (blk_set (blk_set (blk_set HE2.out 0 _) 1 _) 2 _) 3 _) 4 _) 5 _)
 have hz2 : W1.heap.size≤w2.heap.size := HB2.out.size
 obtain ⟨X1,hX1⟩ : ∃ X1,X1 = X0.setCell ⟨w.heap.size+1+1,0,none⟩ (.int .i64 (c.lanes+c.shards+1)) := ⟨_,rfl⟩
 have HX1 : Hid (X1.heap[w.heap.size+1+1]? = some (.cells #[.int .i64 (c.lanes+c.shards+1),.int .u8 k,.int .i64 n,.int .i64 sh,.int .i64 ct,.int .i64 0] 51 (0,0))) := Lib.hid (by rw [hX1]; exact blk_set HX0.out 0 _)
 have hk1 : Kept w2 X1 (fun q => q = w.heap.size+1+1) := hX1 ▸ hXk.setCell (p := ⟨w.heap.size+1+1,0,none⟩) (Or.inl rfl) _
 obtain ⟨X2,hX2⟩ : ∃ X2,X2 = X1.setCell ⟨w.heap.size+1+1,5,none⟩ (.int .i64 m) := ⟨_,rfl⟩
 have HX2 : Hid (X2.heap[w.heap.size+1+1]? = some (.cells #[.int .i64 (c.lanes+c.shards+1),.int .u8 k,.int .i64 n,.int .i64 sh,.int .i64 ct,.int .i64 m] 51 (0,0))) := Lib.hid (by rw [hX2]; exact blk_set HX1.out 5 _)
 have hk2 : Kept w2 X2 (fun q => q = w.heap.size+1+1) := hX2 ▸ hk1.setCell (p := ⟨w.heap.size+1+1,5,none⟩) (Or.inl rfl) _
 have v0 : X0.cell? ⟨w.heap.size,0,none⟩ = some (.int .i64 (c.lanes+c.shards+1)) := blk_cell (hXk.blk HV2.out (blk_lt HV2.out) (by omega)) 0
 have w0 : X0.cell? ⟨w.heap.size+1+1,0,none⟩ = some (.int .i64 0) := blk_cell HX0.out 0
 have w5 : X1.cell? ⟨w.heap.size+1+1,5,none⟩ = some (.int .i64 0) := blk_cell HX1.out 5
 have f0 : X0.frozen? ⟨w.heap.size+1+1,0,none⟩ = false := blk_frozen HX0.out 0
 have q9 : X1.cell? ⟨a.g,9,none⟩ = some (.pointer (some ⟨a.gt,0,none⟩)) := (hk1.cell (by have := Hgl.out.1; have := Hz.out; omega) (by have := Hgl.out.1; omega)).trans HM9.out
 have q0 : X1.cell? ⟨a.gt,0,none⟩ = some (.int .i64 m) := (hk1.cell (by have := Hgl.out.2; have := Hz.out; omega) (by have := Hgl.out.2; omega)).trans HM0.out
 have f5 : X1.frozen? ⟨w.heap.size+1+1,5,none⟩ = false := blk_frozen HX1.out 5
 have HK2 := Lib.hid hk2
 have HV3 : Hid (X2.heap[w.heap.size]? = some (.cells #[.int .i64 (c.lanes+c.shards+1),.int .u8 ek,.int .i64 en,.int .i64 es,.int .i64 ec,.int .i64 em] 51 (0,0))) := Lib.hid (hk2.blk HV2.out (blk_lt HV2.out) (by omega))
 clear r0 r1 r2 r3 r4 r5 hX0 hXk hk1 hk2 g0 g1 g2 g3 g4 g5 k0 k1 k2 k3 k4 k5
 go_upto_region 15 with fail
 rw [← hX1]
 clear hX1 v0 f0 w0
 have HMk := Lib.hid (r12mark_ok a.gt m X1 q0)
 go_wp2_with (go_at_call 53; refine HMk.out.mono ?_)
 rintro e3 w3 ⟨rfl,rfl⟩
 go_upto_region 16 with fail
 rw [← hX2]
 clear hX2 q9 q0 f5 w5
 have y0 := blk_cell HV3.out 0
 have z0 := blk_cell HX2.out 0
 have y1 := blk_cell HV3.out 1
 have z1 := blk_cell HX2.out 1
 have y2 := blk_cell HV3.out 2
 have z2 := blk_cell HX2.out 2
 have y3 := blk_cell HV3.out 3
 have z3 := blk_cell HX2.out 3
 have y4 := blk_cell HV3.out 4
 have z4 := blk_cell HX2.out 4
 have y5 := blk_cell HV3.out 5
 have z5 := blk_cell HX2.out 5
 have hfin : ∀ v,v = (b && decide (ek = k) && decide (en = n) && decide (es = sh) && decide (ec = ct) && decide (em = m))→RNextEnd w φ Bo c rs rs' by_ a x.bd (r.1.2.2 && decide ((⟨(c.lanes+c.shards+1),ek,en,es,ec,em⟩ : Ev) = ⟨(c.lanes+c.shards+1),r.1.1,r.1.2.1.number,r.1.2.1.shard,r.1.2.1.count,r.2.G.mark⟩),r.2) (.returned (.bool v)) X2 :=
  fun v hv => rnext_fin H.out HBl.out Hz.out HB2.out HK.out Hok.out HM0.out HK2.out hv
 obtain ⟨b0,hb0⟩ : ∃ b0,b = b0 := ⟨_,rfl⟩
 rw [hb0] at hfin
 have Hfin := Lib.hid hfin
 have Hb0 := Lib.hid hb0
 clear hfin hb0 HK Hok HM0 HB2 HBl HK2
 cases b with
 | false =>
   go_wp2_with fail
   go_ret
   refine Hfin.out _ ?_
   rw [← Hb0.out]
   simp
 | true =>
   go_wp2_with fail
   all_goals (
    go_ret
    refine Hfin.out _ ?_
    rw [← Hb0.out]
    first | (simp [*]; done) | grind)
set_option maxHeartbeats 4000000 in
theorem rnextF_any (φ : Nat→Nat) (Bo : Nat) (c : Cfg) (rs rs' : List RTx) (by_ : List Int) (a : RA) (x : RG) (s : TS) (w : World) (et ek en es ec em : Int) (r : TrA × TS) (h : RsAt w φ Bo c rs rs' by_ a x s) (hcl : 1≤c.lanes∧c.lanes≤16∧1≤c.shards∧c.shards≤16) (ht : c.lanes+c.shards+1 < et) (hr : r.1.2.2 = false) :
    Calls Tryz.prog 29 #[ptrV a.g,.agg #[.int .i64 et,.int .u8 ek,.int .i64 en,.int .i64 es,.int .i64 ec,.int .i64 em]] w (RNextEnd w φ Bo c rs rs' by_ a x.bd (r.1.2.2 && decide ((⟨et,ek,en,es,ec,em⟩ : Ev) = ⟨et,r.1.1,r.1.2.1.number,r.1.2.1.shard,r.1.2.1.count,r.2.G.mark⟩),r.2)) := by
 obtain ⟨W1,hW1⟩ : ∃ W1,W1 = ((w.alloc (.cells #[.int .i64 et,.int .u8 ek,.int .i64 en,.int .i64 es,.int .i64 ec,.int .i64 em] 51)).alloc (.cells #[.int .i64 c.lanes,.int .i64 c.shards,.int .i64 c.window,.int .i64 c.queue] 23)).alloc (.cells #[.int .i64 0,.int .u8 0,.int .i64 0,.int .i64 0,.int .i64 0,.int .i64 0] 51) := ⟨_,rfl⟩
 have hb : Below w.heap.size w W1 := hW1 ▸ bel_alloc (bel_alloc (bel_alloc (Below.refl _ _) _) _) _
 have hz : W1.heap.size = w.heap.size+3 := by rw [hW1]; simp
 have HV1 : Hid (W1.heap[w.heap.size]? = some (.cells #[.int .i64 et,.int .u8 ek,.int .i64 en,.int .i64 es,.int .i64 ec,.int .i64 em] 51 (0,0))) := Lib.hid (by rw [hW1,Below.heap_alloc _ _ _ (by simp; omega),Below.heap_alloc _ _ _ (by simp)]; exact blk_new _ _)
 have HC1 : Hid (W1.heap[w.heap.size+1]? = some (.cells #[.int .i64 c.lanes,.int .i64 c.shards,.int .i64 c.window,.int .i64 c.queue] 23 (0,0))) := Lib.hid (by rw [hW1,Below.heap_alloc _ _ _ (by simp)]; have := blk_new (w.alloc (.cells #[.int .i64 et,.int .u8 ek,.int .i64 en,.int .i64 es,.int .i64 ec,.int .i64 em] 51)) (.cells #[.int .i64 c.lanes,.int .i64 c.shards,.int .i64 c.window,.int .i64 c.queue] 23); simpa using this)
 have HE1 : Hid (W1.heap[w.heap.size+1+1]? = some (.cells #[.int .i64 0,.int .u8 0,.int .i64 0,.int .i64 0,.int .i64 0,.int .i64 0] 51 (0,0))) := Lib.hid (by rw [hW1]; have := blk_new ((w.alloc (.cells #[.int .i64 et,.int .u8 ek,.int .i64 en,.int .i64 es,.int .i64 ec,.int .i64 em] 51)).alloc (.cells #[.int .i64 c.lanes,.int .i64 c.shards,.int .i64 c.window,.int .i64 c.queue] 23)) (.cells #[.int .i64 0,.int .u8 0,.int .i64 0,.int .i64 0,.int .i64 0,.int .i64 0] 51); simpa using this)
 have hS1 := h.boxed hb
 have HMk1 := Lib.hid (hS1.markOk (n := W1.heap.size) (fun _ _ => rfl) (Nat.le_refl _))
 have H := Lib.hid h
 have HBl := Lib.hid hb
 have Hz := Lib.hid hz
 have HW1 := Lib.hid hW1
 have d0 : ∀ o,(w.alloc o).cell? ⟨a.g,0,none⟩ = some (.int .i64 c.lanes) := fun o => blk_cell ((Below.heap_alloc _ _ _ h.fst.2.2).trans (h.st (fun h => h))) 0
 have d1 : ∀ o,(w.alloc o).cell? ⟨a.g,1,none⟩ = some (.int .i64 c.shards) := fun o => blk_cell ((Below.heap_alloc _ _ _ h.fst.2.2).trans (h.st (fun h => h))) 1
 have d2 : ∀ o,(w.alloc o).cell? ⟨a.g,2,none⟩ = some (.int .i64 c.window) := fun o => blk_cell ((Below.heap_alloc _ _ _ h.fst.2.2).trans (h.st (fun h => h))) 2
 have d3 : ∀ o,(w.alloc o).cell? ⟨a.g,3,none⟩ = some (.int .i64 c.queue) := fun o => blk_cell ((Below.heap_alloc _ _ _ h.fst.2.2).trans (h.st (fun h => h))) 3
 clear hS1 h hb hz hW1
 unfold ptrV at *
 go_enter Tryz.func29,Tryz.ntmps29
 go_upto_region 4 with fail
 rw [← HW1.out]
 clear d0 d1 d2 d3
 have b0 : W1.cell? ⟨w.heap.size,0,none⟩ = some (.int .i64 et) := blk_cell HV1.out 0
 have b1 : W1.cell? ⟨w.heap.size,1,none⟩ = some (.int .u8 ek) := blk_cell HV1.out 1
 have b2 : W1.cell? ⟨w.heap.size,2,none⟩ = some (.int .i64 en) := blk_cell HV1.out 2
 have b3 : W1.cell? ⟨w.heap.size,3,none⟩ = some (.int .i64 es) := blk_cell HV1.out 3
 have b4 : W1.cell? ⟨w.heap.size,4,none⟩ = some (.int .i64 ec) := blk_cell HV1.out 4
 have b5 : W1.cell? ⟨w.heap.size,5,none⟩ = some (.int .i64 em) := blk_cell HV1.out 5
 have q0 : W1.cell? ⟨w.heap.size+1,0,none⟩ = some (.int .i64 c.lanes) := blk_cell HC1.out 0
 have q1 : W1.cell? ⟨w.heap.size+1,1,none⟩ = some (.int .i64 c.shards) := blk_cell HC1.out 1
 have hw1 : IntKind.i64.wrap (c.lanes+c.shards) = c.lanes+c.shards := by rw [IntKind.wrap_i64]; omega
 have hw2 : IntKind.i64.wrap (c.lanes+c.shards+1) = c.lanes+c.shards+1 := by rw [IntKind.wrap_i64]; omega
 obtain ⟨⟨m,m9,m0⟩,-⟩ := HMk1.out
 simp only at m9 m0
 have HM9 := Lib.hid m9
 have HM0 := Lib.hid m0
 have Hgl := Lib.hid (And.intro H.out.fst.2.2 H.out.fgt.2.2.1)
 clear m9 m0
 go_upto_region 14 with fail
 obtain ⟨X0,hX0⟩ : ∃ X0,X0 = W1 := ⟨_,rfl⟩
 have hXk : Kept W1 X0 (fun q => q = w.heap.size+1+1) := hX0 ▸ Kept.refl _ _
 have HX0 : Hid (X0.heap[w.heap.size+1+1]? = some (.cells #[.int .i64 0,.int .u8 0,.int .i64 0,.int .i64 0,.int .i64 0,.int .i64 0] 51 (0,0))) := Lib.hid (hX0 ▸ HE1.out)
 have HV2 := HV1
 have HE2 := HE1
 rw [← hX0]
 obtain ⟨X1,hX1⟩ : ∃ X1,X1 = X0.setCell ⟨w.heap.size+1+1,0,none⟩ (.int .i64 et) := ⟨_,rfl⟩
 have HX1 : Hid (X1.heap[w.heap.size+1+1]? = some (.cells #[.int .i64 et,.int .u8 0,.int .i64 0,.int .i64 0,.int .i64 0,.int .i64 0] 51 (0,0))) := Lib.hid (by rw [hX1]; exact blk_set HX0.out 0 _)
 have hk1 : Kept W1 X1 (fun q => q = w.heap.size+1+1) := hX1 ▸ hXk.setCell (p := ⟨w.heap.size+1+1,0,none⟩) (Or.inl rfl) _
 obtain ⟨X2,hX2⟩ : ∃ X2,X2 = X1.setCell ⟨w.heap.size+1+1,5,none⟩ (.int .i64 m) := ⟨_,rfl⟩
 have HX2 : Hid (X2.heap[w.heap.size+1+1]? = some (.cells #[.int .i64 et,.int .u8 0,.int .i64 0,.int .i64 0,.int .i64 0,.int .i64 m] 51 (0,0))) := Lib.hid (by rw [hX2]; exact blk_set HX1.out 5 _)
 have hk2 : Kept W1 X2 (fun q => q = w.heap.size+1+1) := hX2 ▸ hk1.setCell (p := ⟨w.heap.size+1+1,5,none⟩) (Or.inl rfl) _
 have v0 : X0.cell? ⟨w.heap.size,0,none⟩ = some (.int .i64 et) := blk_cell (hXk.blk HV2.out (blk_lt HV2.out) (by omega)) 0
 have w0 : X0.cell? ⟨w.heap.size+1+1,0,none⟩ = some (.int .i64 0) := blk_cell HX0.out 0
 have w5 : X1.cell? ⟨w.heap.size+1+1,5,none⟩ = some (.int .i64 0) := blk_cell HX1.out 5
 have f0 : X0.frozen? ⟨w.heap.size+1+1,0,none⟩ = false := blk_frozen HX0.out 0
 have q9 : X1.cell? ⟨a.g,9,none⟩ = some (.pointer (some ⟨a.gt,0,none⟩)) := (hk1.cell (by have := Hgl.out.1; have := Hz.out; omega) (by have := Hgl.out.1; omega)).trans HM9.out
 have q0 : X1.cell? ⟨a.gt,0,none⟩ = some (.int .i64 m) := (hk1.cell (by have := Hgl.out.2; have := Hz.out; omega) (by have := Hgl.out.2; omega)).trans HM0.out
 have f5 : X1.frozen? ⟨w.heap.size+1+1,5,none⟩ = false := blk_frozen HX1.out 5
 have HK2 := Lib.hid hk2
 have HV3 : Hid (X2.heap[w.heap.size]? = some (.cells #[.int .i64 et,.int .u8 ek,.int .i64 en,.int .i64 es,.int .i64 ec,.int .i64 em] 51 (0,0))) := Lib.hid (hk2.blk HV2.out (blk_lt HV2.out) (by omega))
 clear hX0 hXk hk1 hk2 b0 b1 b2 b3 b4 b5 q1
 go_upto_region 15 with fail
 rw [← hX1]
 clear hX1 v0 f0 w0
 have HMk := Lib.hid (r12mark_ok a.gt m X1 q0)
 go_wp2_with (go_at_call 53; refine HMk.out.mono ?_)
 rintro e3 w3 ⟨rfl,rfl⟩
 go_upto_region 16 with fail
 rw [← hX2]
 clear hX2 q9 q0 f5 w5
 have y0 := blk_cell HV3.out 0
 have z0 := blk_cell HX2.out 0
 have y1 := blk_cell HV3.out 1
 have z1 := blk_cell HX2.out 1
 have y2 := blk_cell HV3.out 2
 have z2 := blk_cell HX2.out 2
 have y3 := blk_cell HV3.out 3
 have z3 := blk_cell HX2.out 3
 have y4 := blk_cell HV3.out 4
 have z4 := blk_cell HX2.out 4
 have y5 := blk_cell HV3.out 5
 have z5 := blk_cell HX2.out 5
 have hfin := rnext_fin (r := r) (k := 0) (n := 0) (sh := 0) (ct := 0) (b := false) (v := false) (et := et) (ek := ek) (en := en) (es := es) (ec := ec) (em := em) H.out HBl.out Hz.out (Below.refl _ W1) (by simp [hr]) (by simp) HM0.out HK2.out (by simp)
 have Hfin := Lib.hid hfin
 clear hfin HM0 HBl HK2
 go_wp2_with fail
 go_ret
 exact Hfin.out
theorem rnext_any (φ : Nat→Nat) (Bo : Nat) (c : Cfg) (rs rs' : List RTx) (by_ : List Int) (M k : Nat) (a : RA) (x : RG) (s : TS) (e : Ev) (w : World) (h : RsAt w φ Bo c rs rs' by_ a x s) (hi : SInv c rs rs' M k s) (hc : c.ok = true) (hrl : rs.length≤65536)
    (hlog : ∀ (i : Nat) (r : RTx),rs[i]? = some r→txB r.number r.ws = true∧r.number = (i : Int)+1) (hmask : rs' = maskL M by_ rs) (hbl : a.B.n≤65536) (hnl : ∀ r ∈ rs,r.A = none→r.cap = 0) (hrc : ∀ r ∈ rs,r.len≤r.cap) (hk : k≤4398046511000) (hbd : x.bd≤4398046511000) :
    Calls Tryz.prog 29 #[ptrV a.g,.agg #[.int .i64 e.task,.int .u8 e.kind,.int .i64 e.number,.int .i64 e.shard,.int .i64 e.count,.int .i64 e.mark]] w (RNextEnd w φ Bo c rs rs' by_ a x.bd (s.fits c rs rs' by_ e)) := by
 have hcl : 1≤c.lanes∧c.lanes≤16∧1≤c.shards∧c.shards≤16 := by simp [Cfg.ok,inB] at hc; omega
 obtain ⟨et,ek,en,es,ec,em⟩ := e
 unfold TS.fits TS.step
 simp only
 by_cases h1 : et < 0
 · simp only [if_pos h1]
   exact rnextA_any φ Bo c rs rs' by_ a x s w et ek en es ec em _ h h1 fun W ψ N F x2 hx hb => r21call_any ψ Bo c rs rs' by_ M k _ x2 s ⟨et,ek,en,es,ec,em⟩ W hx hi hc hk (by omega)
 simp only [if_neg h1]
 by_cases h2 : et = 0
 · subst h2
   simp only [if_true]
   exact rnextB_any φ Bo c rs rs' by_ a x s w ek en es ec em _ h fun W ψ N F x2 hx hb => (r21feed_any ψ Bo c rs rs' by_ M k _ x2 s ⟨0,ek,en,es,ec,em⟩ W hx hi hc hrl hlog hmask hbl hnl).mono fun _ _ g => RTaskEnd.lift g
 simp only [if_neg h2]
 by_cases h3 : et≤c.lanes
 · simp only [if_pos h3]
   exact rnextC_any φ Bo c rs rs' by_ a x s w et ek en es ec em _ h hcl (by omega) h3 fun W ψ N F x2 hx hb => (r21lane_any ψ Bo c rs rs' by_ M k _ x2 s ⟨et,ek,en,es,ec,em⟩ (et - 1).toNat W hx hi hc hrl hlog hrc (by simp only; omega) (by omega) (by omega)).mono fun _ _ g => RTaskEnd.lift g
 simp only [if_neg h3]
 by_cases h4 : et≤c.lanes+c.shards
 · simp only [if_pos h4]
   refine rnextD_any φ Bo c rs rs' by_ a x s w et ek en es ec em _ h hcl (by omega) h4 fun W ψ N F x2 hx hb => ?_
   have g := r21owner_any ψ Bo c rs rs' by_ M k _ x2 s W (et - c.lanes - 1).toNat hx hi hc (by omega) (by omega) (by omega)
   rw [show (((et - c.lanes - 1).toNat : Nat) : Int) = et - 1 - c.lanes by omega] at g
   exact g.mono fun _ _ g => RTaskEnd.lift g
 simp only [if_neg h4]
 by_cases h5 : et = c.lanes+c.shards+1
 · subst h5
   simp only [if_true]
   exact rnextE_any φ Bo c rs rs' by_ a x s w ek en es ec em _ h hcl fun W ψ N F x2 hx hb => (r21gates_any ψ Bo c rs rs' by_ M k _ x2 s W hx hi hrl).mono fun _ _ g => RTaskEnd.lift g
 simp only [if_neg h5]
 exact rnextF_any φ Bo c rs rs' by_ a x s w et ek en es ec em ((0,ev0,false),s) h hcl (by omega) rfl
end Go.Proofs.YtcjmppjppmiggaaGreat

/- A trace's story: a step's closures. -/
import Derived.Test.YtcjmppjppmiggaaGreatSt6
import Derived.Deep.RegionHeld3
namespace Go.Proofs.YtcjmppjppmiggaaGreat
open Go.RowKit
set_option linter.unusedVariables false
set_option linter.unusedSimpArgs false

open Go.Maps
set_option maxRecDepth 100000
section
variable {w w' W1 W2 : World} {φ φ' : Nat→Nat} {Bo : Nat} {c : Cfg} {rs rs' : List RTx} {by_ : List Int} {a : SA} {x x' : SG} {s s' : TS}
theorem StH.reframe (h : StAt w φ Bo c rs rs' by_ a x s) {N : Nat} {F : Nat→Option Obj} (hF : N≤w.heap.size∧∀ b,b < N→φ b = 30→w.heap[b]? = F b) : StAt w φ Bo c rs rs' by_ { a with N := N,F := F } x s :=
 ⟨h.lo,h.zero,h.log,h.bey,h.st,h.fst,h.ln,h.fln,h.lw,h.qb,h.fqb,h.qw,h.line,h.gone,h.cb,h.fcb,h.cw,h.gt,h.fgt,h.tb,h.ftb,hF⟩
theorem StH.boxed (h : StAt w φ Bo c rs rs' by_ a x s) (hb : Below w.heap.size w W1) : StAt W1 (fun b => if b < w.heap.size then φ b else 30) Bo c rs rs' by_ { a with N := W1.heap.size,F := fun b => W1.heap[b]? } x s :=
 StH.reframe ((h.relabel (φ' := fun b => if b < w.heap.size then φ b else 30) (fun b hb => if_pos hb)).below hb (fun h => h) (fun h => h)) ⟨Nat.le_refl _,fun _ _ _ => rfl⟩
theorem StH.unlabel (h : StAt w φ Bo c rs rs' by_ a x s) {b0 : Nat} (hb0 : Bo≤b0) (h3 : φ b0 = 30) (hB : ∀ ad,a.B.A = some ad→ad.block≠b0) : StAt w (fun b => if b = b0 then 50 else φ b) Bo c rs rs' by_ { a with N := 0,F := fun _ => none } x s := by
 have e : ∀ b,φ b≠30→(if b = b0 then 50 else φ b) = φ b := fun b hb => if_neg (fun e => hb (by rw [e]; exact h3))
 have at_ : ∀ {i : Nat} {A : Option Addr},i≠30→At φ i A→At (fun b => if b = b0 then 50 else φ b) i A := fun hi hA ad ea => (e _ (by rw [hA ad ea]; exact hi)).trans (hA ad ea)
 refine ⟨h.lo,fun b hb => (if_neg (by omega)).trans (h.zero b hb),h.log,⟨h.bey.1,fun ad ea => (if_neg (hB ad ea)).trans (h.bey.2 ad ea)⟩,h.st,⟨(e _ (by rw [h.fst.1]; omega)).trans h.fst.1,h.fst.2⟩,h.ln,⟨(e _ (by rw [h.fln.1]; omega)).trans h.fln.1,h.fln.2⟩,
  fun hi => ⟨(h.lw hi).1,fun i l m e1 e2 => ⟨((h.lw hi).2 i l m e1 e2).1,at_ (by omega) ((h.lw hi).2 i l m e1 e2).2⟩⟩,h.qb,⟨(e _ (by rw [h.fqb.1]; omega)).trans h.fqb.1,h.fqb.2⟩,fun i q l h1 h2 hi => ⟨(h.qw i q l h1 h2 hi).1,at_ (by omega) (h.qw i q l h1 h2 hi).2⟩,
  fun hi => ⟨(h.line hi).1,at_ (by omega) (h.line hi).2⟩,fun hi => ⟨(h.gone hi).1,at_ (by omega) (h.gone hi).2⟩,h.cb,⟨(e _ (by rw [h.fcb.1]; omega)).trans h.fcb.1,h.fcb.2⟩,fun t p v h1 h2 hi => ?_,h.gt,⟨(e _ (by rw [h.fgt.1]; omega)).trans h.fgt.1,h.fgt.2⟩,h.tb,fun b hb => ⟨(e _ (by rw [(h.ftb b hb).1]; omega)).trans (h.ftb b hb).1,(h.ftb b hb).2⟩,⟨Nat.zero_le _,fun b hb => absurd hb (Nat.not_lt_zero _)⟩⟩
 obtain ⟨g1,g2,g3⟩ := h.cw t p v h1 h2 hi
 exact ⟨g1,(e _ (by rw [g2]; omega)).trans g2,g3⟩
theorem StH.unboxed (h : StAt w φ Bo c rs rs' by_ a x s) (hb : Below w.heap.size w W1) (hφ : ∀ b,b < W1.heap.size→φ' b = if b < w.heap.size then φ b else 30)
    (h' : StAt w' φ' Bo c rs rs' by_ { a with N := W1.heap.size,F := fun b => W1.heap[b]? } x' s') {bR : Nat} (h1 : w.heap.size≤bR) (h2 : bR < W1.heap.size) (k : Kept w' W2 (fun q => q = bR)) :
    ∃ φ2,(∀ b,b < w.heap.size→φ2 b = φ b)∧StAt W2 φ2 Bo c rs rs' by_ a x' s' := by
 refine ⟨fun b => if b = bR then 50 else φ' b,fun b hb2 => ?_,?_⟩
 · simp only [if_neg (show b≠bR by omega)]
   rw [hφ b (by have := hb.size; omega),if_pos hb2]
 · have g := h'.unlabel (b0 := bR) (by have := h.lo; omega) (by rw [hφ _ h2,if_neg (by omega)]) (fun ad e => by have := (h.bey.1.lt e).2; omega)
   have g2 := g.junk (w' := W2) (k.mono fun q e => by simp [e])
   refine g2.reframe (N := a.N) (F := a.F) ⟨Nat.le_trans h.fr.1 (Nat.le_trans hb.size (Nat.le_trans h'.fr.1 k.size)),fun b hb3 h3 => ?_⟩
   have hbw : b < w.heap.size := Nat.lt_of_lt_of_le hb3 h.fr.1
   have hbW : b < W1.heap.size := Nat.lt_of_lt_of_le hbw hb.size
   simp only [if_neg (show b≠bR by omega)] at h3
   have h4 : φ b = 30 := by rw [hφ b hbW,if_pos hbw] at h3; exact h3
   rw [k.block b (Nat.lt_of_lt_of_le hbW h'.fr.1) (by omega),h'.fr.2 b hbW h3]
   show W1.heap[b]? = a.F b
   rw [hb.block b hbw]
   exact h.fr.2 b hb3 h4
end
theorem cell_of_blk {w w' : World} {b o : Nat} (h : w'.heap[b]? = w.heap[b]?) : w'.cell? ⟨b,o,none⟩ = w.cell? ⟨b,o,none⟩ := World.cell?_of_block h
theorem cell_set6 {w : World} {n b o : Nat} (v0 v1 v2 v3 v4 v5 : Value) (hne : b≠n) : ((((((w.setCell ⟨n,0,none⟩ v0).setCell ⟨n,1,none⟩ v1).setCell ⟨n,2,none⟩ v2).setCell ⟨n,3,none⟩ v3).setCell ⟨n,4,none⟩ v4).setCell ⟨n,5,none⟩ v5).cell? ⟨b,o,none⟩ = w.cell? ⟨b,o,none⟩ := by
 have e : ∀ (w : World) (j : Nat) (v : Value),(w.setCell ⟨n,j,none⟩ v).cell? ⟨b,o,none⟩ = w.cell? ⟨b,o,none⟩ := fun w j v => World.cell?_setCell_other _ _ _ _ (by intro e; injection e with e; omega)
 rw [e,e,e,e,e,e]
theorem TaskEnd.lift {w w' W1 W2 : World} {φ : Nat→Nat} {Bo : Nat} {c : Cfg} {rs rs' : List RTx} {by_ : List Int} {a : SA} {x : SG} {s : TS} {r : TrA × TS} {e : Ending} (h : StAt w φ Bo c rs rs' by_ a x s) (hb : Below w.heap.size w W1)
    (h' : TaskEnd W1 (fun b => if b < w.heap.size then φ b else 30) Bo c rs rs' by_ { a with N := W1.heap.size,F := fun b => W1.heap[b]? } r e w') {bR : Nat} (h1 : w.heap.size≤bR) (h2 : bR < W1.heap.size) (k : Kept w' W2 (fun q => q = bR)) : TaskEnd w φ Bo c rs rs' by_ a r e W2 := by
 obtain ⟨φ',x',he,hφ,hs,hB⟩ := h'
 obtain ⟨φ2,g1,g2⟩ := h.unboxed hb hφ hs h1 h2 k
 exact ⟨φ2,x',he,g1,g2,(hb.mono h.lo).trans (hB.trans (k.below hs.lo (fun q e => by rw [e]; have := h.lo; omega)))⟩
theorem TaskEnd.box {w' W1 : World} {φ : Nat→Nat} {Bo : Nat} {c : Cfg} {rs rs' : List RTx} {by_ : List Int} {a : SA} {r : TrA × TS} {e : Ending} {m : Nat}
    (h' : TaskEnd W1 (fun b => if b < m then φ b else 30) Bo c rs rs' by_ { a with N := W1.heap.size,F := fun b => W1.heap[b]? } r e w') {b : Nat} (h1 : m≤b) (h2 : b < W1.heap.size) : w'.heap[b]? = W1.heap[b]? := by
 obtain ⟨φ',x',he,hφ,hs,hB⟩ := h'
 exact hs.fr.2 b h2 ((hφ b h2).trans (if_neg (by omega)))
theorem TaskEnd.box2 {w' W1 : World} {φ : Nat→Nat} {Bo : Nat} {c : Cfg} {rs rs' : List RTx} {by_ : List Int} {a : SA} {r : TrA × TS} {e : Ending}
    (h' : TaskEnd W1 φ Bo c rs rs' by_ { a with N := W1.heap.size,F := fun b => W1.heap[b]? } r e w') {b : Nat} (h1 : φ b = 30) (h2 : b < W1.heap.size) : w'.heap[b]? = W1.heap[b]? := by
 obtain ⟨φ',x',he,hφ,hs,hB⟩ := h'
 exact hs.fr.2 b h2 ((hφ b h2).trans h1)
theorem TaskEnd.word {w' W1 : World} {φ : Nat→Nat} {Bo : Nat} {c : Cfg} {rs rs' : List RTx} {by_ : List Int} {a : SA} {r : TrA × TS} {e : Ending}
    (h' : TaskEnd W1 φ Bo c rs rs' by_ a r e w') : w'.cell? ⟨a.g,0,none⟩ = some (.int .i64 c.lanes)∧w'.cell? ⟨a.g,1,none⟩ = some (.int .i64 c.shards) := by
 obtain ⟨φ',x',he,hφ,hs,hB⟩ := h'
 exact ⟨blk_cell (hs.st (fun h => h)) 0,blk_cell (hs.st (fun h => h)) 1⟩
set_option maxHeartbeats 2000000 in
theorem clos1_any (φ : Nat→Nat) (Bo : Nat) (c : Cfg) (rs rs' : List RTx) (by_ : List Int) (a : SA) (x : SG) (s : TS) (w : World) (e : Ev) (b1 b2 : Nat) (r : TrA × TS) (h : StAt w φ Bo c rs rs' by_ a x s) (hb1 : w.heap[b1]? = some (.cells #[ptrV a.g] 58 (0,0))) (hb2 : w.heap[b2]? = some (.cells #[.int .i64 e.task,.int .u8 e.kind,.int .i64 e.number,.int .i64 e.shard,.int .i64 e.count,.int .i64 e.mark] 51 (0,0)))
    (hin : ∀ (W : World) (ψ : Nat→Nat) (N : Nat) (F : Nat→Option Obj) (x2 : SG),StAt W ψ Bo c rs rs' by_ { a with N := N,F := F } x2 s→Calls Tryz.prog 39 #[ptrV a.g,.int .i64 e.task] W (TaskEnd W ψ Bo c rs rs' by_ { a with N := N,F := F } r)) :
    Calls Tryz.prog 38 #[.pointer (some ⟨b1,0,none⟩),.pointer (some ⟨b2,0,none⟩)] w (TaskEnd w φ Bo c rs rs' by_ a r) := by
 obtain ⟨⟨rk,⟨r0,r1,r2,r3,r4,r5⟩,rb⟩,rs2⟩ := r
 obtain ⟨W1,hW1⟩ : ∃ W1,W1 = w.alloc (.cells #[.int .i64 0,.int .u8 0,.int .i64 0,.int .i64 0,.int .i64 0,.int .i64 0] 51) := ⟨_,rfl⟩
 have hb : Below w.heap.size w W1 := hW1 ▸ (Below.refl _ _).alloc (Nat.le_refl _) _
 have hz : W1.heap.size = w.heap.size+1 := by rw [hW1]; simp
 have HE1 : Hid (W1.heap[w.heap.size]? = some (.cells #[.int .i64 0,.int .u8 0,.int .i64 0,.int .i64 0,.int .i64 0,.int .i64 0] 51 (0,0))) := Lib.hid (hW1 ▸ blk_new _ _)
 have hS1 := h.boxed hb
 have HIn := Lib.hid (hin W1 _ _ _ x hS1)
 have hl1 := blk_lt hb1
 have hl2 := blk_lt hb2
 have c1 : W1.cell? ⟨b1,0,none⟩ = some (ptrV a.g) := (hb.cell (p := ⟨b1,0,none⟩) hl1).trans (blk_cell hb1 0)
 have c2 : ∀ j,W1.cell? ⟨b2,j,none⟩ = w.cell? ⟨b2,j,none⟩ := fun j => hb.cell (p := ⟨b2,j,none⟩) hl2
 have d0 : W1.cell? ⟨b2,0,none⟩ = some (.int .i64 e.task) := (c2 0).trans (blk_cell hb2 0)
 have H := Lib.hid h
 have HBl := Lib.hid hb
 have Hz := Lib.hid hz
 have HW1 := Lib.hid hW1
 clear hin hS1 c2 h hb hz hb1 hb2
 unfold ptrV at *
 rw [hW1] at c1
 rw [hW1] at d0
 go_enter Tryz.func38,Tryz.ntmps38
 go_wp2_with fail
 rw [← HW1.out]
 refine HIn.out.mono ?_
 rintro e1 w2 hte
 have HT := Lib.hid hte
 obtain ⟨φ',x',rfl,-⟩ := hte
 have HE2 : Hid (w2.heap[w.heap.size]? = some (.cells #[.int .i64 0,.int .u8 0,.int .i64 0,.int .i64 0,.int .i64 0,.int .i64 0] 51 (0,0))) := Lib.hid ((HT.out.box (Nat.le_refl _) (by have := Hz.out; omega)).trans HE1.out)
 simp only [Ev.v]
 have g0 := blk_cell HE2.out 0
 have g1 := blk_cell HE2.out 1
 have g2 := blk_cell HE2.out 2
 have g3 := blk_cell HE2.out 3
 have g4 := blk_cell HE2.out 4
 have g5 := blk_cell HE2.out 5
 have k0 := blk_frozen HE2.out 0
 have k1 := blk_frozen HE2.out 1
 have k2 := blk_frozen HE2.out 2
 have k3 := blk_frozen HE2.out 3
 have k4 := blk_frozen HE2.out 4
 have k5 := blk_frozen HE2.out 5
 go_wp2_with fail
 obtain ⟨X0,hX0⟩ : ∃ X0,X0 = ((((((w2.setCell ⟨w.heap.size,0,none⟩ (.int .i64 r0)).setCell ⟨w.heap.size,1,none⟩ (.int .u8 r1)).setCell ⟨w.heap.size,2,none⟩ (.int .i64 r2)).setCell ⟨w.heap.size,3,none⟩ (.int .i64 r3)).setCell ⟨w.heap.size,4,none⟩ (.int .i64 r4)).setCell ⟨w.heap.size,5,none⟩ (.int .i64 r5)) := ⟨_,rfl⟩
 rw [← hX0]
 obtain ⟨hXk,y0,y1,y2,y3,y4,y5⟩ := ev_box HE2.out rfl _ _ _ _ _ _ hX0
 clear hX0
 refine bodyPost_ret (v := .tuple #[.int .u8 rk,.agg #[.int .i64 r0,.int .u8 r1,.int .i64 r2,.int .i64 r3,.int .i64 r4,.int .i64 r5],.bool rb]) (by simp [results,Tryz.results38,go_sem,y0,y1,y2,y3,y4,y5]) rfl (TaskEnd.lift H.out HBl.out HT.out (Nat.le_refl _) (by have := Hz.out; omega) hXk)
set_option maxHeartbeats 2000000 in
theorem clos3_any (φ : Nat→Nat) (Bo : Nat) (c : Cfg) (rs rs' : List RTx) (by_ : List Int) (a : SA) (x : SG) (s : TS) (w : World) (e : Ev) (b1 b2 : Nat) (r : TrA × TS) (h : StAt w φ Bo c rs rs' by_ a x s) (hb1 : w.heap[b1]? = some (.cells #[ptrV a.g] 58 (0,0))) (hb2 : w.heap[b2]? = some (.cells #[.int .i64 e.task,.int .u8 e.kind,.int .i64 e.number,.int .i64 e.shard,.int .i64 e.count,.int .i64 e.mark] 51 (0,0)))
    (hin : ∀ (W : World) (ψ : Nat→Nat) (N : Nat) (F : Nat→Option Obj) (x2 : SG),StAt W ψ Bo c rs rs' by_ { a with N := N,F := F } x2 s→Calls Tryz.prog 44 #[ptrV a.g,e.v] W (TaskEnd W ψ Bo c rs rs' by_ { a with N := N,F := F } r)) :
    Calls Tryz.prog 43 #[.pointer (some ⟨b1,0,none⟩),.pointer (some ⟨b2,0,none⟩)] w (TaskEnd w φ Bo c rs rs' by_ a r) := by
 obtain ⟨⟨rk,⟨r0,r1,r2,r3,r4,r5⟩,rb⟩,rs2⟩ := r
 obtain ⟨W1,hW1⟩ : ∃ W1,W1 = w.alloc (.cells #[.int .i64 0,.int .u8 0,.int .i64 0,.int .i64 0,.int .i64 0,.int .i64 0] 51) := ⟨_,rfl⟩
 have hb : Below w.heap.size w W1 := hW1 ▸ (Below.refl _ _).alloc (Nat.le_refl _) _
 have hz : W1.heap.size = w.heap.size+1 := by rw [hW1]; simp
 have HE1 : Hid (W1.heap[w.heap.size]? = some (.cells #[.int .i64 0,.int .u8 0,.int .i64 0,.int .i64 0,.int .i64 0,.int .i64 0] 51 (0,0))) := Lib.hid (hW1 ▸ blk_new _ _)
 have hS1 := h.boxed hb
 have HIn := Lib.hid (hin W1 _ _ _ x hS1)
 have hl1 := blk_lt hb1
 have hl2 := blk_lt hb2
 have c1 : W1.cell? ⟨b1,0,none⟩ = some (ptrV a.g) := (hb.cell (p := ⟨b1,0,none⟩) hl1).trans (blk_cell hb1 0)
 have c2 : ∀ j,W1.cell? ⟨b2,j,none⟩ = w.cell? ⟨b2,j,none⟩ := fun j => hb.cell (p := ⟨b2,j,none⟩) hl2
 have d0 : W1.cell? ⟨b2,0,none⟩ = some (.int .i64 e.task) := (c2 0).trans (blk_cell hb2 0)
 have d1 : W1.cell? ⟨b2,1,none⟩ = some (.int .u8 e.kind) := (c2 1).trans (blk_cell hb2 1)
 have d2 : W1.cell? ⟨b2,2,none⟩ = some (.int .i64 e.number) := (c2 2).trans (blk_cell hb2 2)
 have d3 : W1.cell? ⟨b2,3,none⟩ = some (.int .i64 e.shard) := (c2 3).trans (blk_cell hb2 3)
 have d4 : W1.cell? ⟨b2,4,none⟩ = some (.int .i64 e.count) := (c2 4).trans (blk_cell hb2 4)
 have d5 : W1.cell? ⟨b2,5,none⟩ = some (.int .i64 e.mark) := (c2 5).trans (blk_cell hb2 5)
 unfold Ev.v at HIn
 have H := Lib.hid h
 have HBl := Lib.hid hb
 have Hz := Lib.hid hz
 have HW1 := Lib.hid hW1
 clear hin hS1 c2 h hb hz hb1 hb2
 unfold ptrV at *
 rw [hW1] at c1
 rw [hW1] at d0 d1 d2 d3 d4 d5
 go_enter Tryz.func43,Tryz.ntmps43
 go_wp2_with fail
 rw [← HW1.out]
 refine HIn.out.mono ?_
 rintro e1 w2 hte
 have HT := Lib.hid hte
 obtain ⟨φ',x',rfl,-⟩ := hte
 have HE2 : Hid (w2.heap[w.heap.size]? = some (.cells #[.int .i64 0,.int .u8 0,.int .i64 0,.int .i64 0,.int .i64 0,.int .i64 0] 51 (0,0))) := Lib.hid ((HT.out.box (Nat.le_refl _) (by have := Hz.out; omega)).trans HE1.out)
 simp only [Ev.v]
 have g0 := blk_cell HE2.out 0
 have g1 := blk_cell HE2.out 1
 have g2 := blk_cell HE2.out 2
 have g3 := blk_cell HE2.out 3
 have g4 := blk_cell HE2.out 4
 have g5 := blk_cell HE2.out 5
 have k0 := blk_frozen HE2.out 0
 have k1 := blk_frozen HE2.out 1
 have k2 := blk_frozen HE2.out 2
 have k3 := blk_frozen HE2.out 3
 have k4 := blk_frozen HE2.out 4
 have k5 := blk_frozen HE2.out 5
 go_wp2_with fail
 obtain ⟨X0,hX0⟩ : ∃ X0,X0 = ((((((w2.setCell ⟨w.heap.size,0,none⟩ (.int .i64 r0)).setCell ⟨w.heap.size,1,none⟩ (.int .u8 r1)).setCell ⟨w.heap.size,2,none⟩ (.int .i64 r2)).setCell ⟨w.heap.size,3,none⟩ (.int .i64 r3)).setCell ⟨w.heap.size,4,none⟩ (.int .i64 r4)).setCell ⟨w.heap.size,5,none⟩ (.int .i64 r5)) := ⟨_,rfl⟩
 rw [← hX0]
 obtain ⟨hXk,y0,y1,y2,y3,y4,y5⟩ := ev_box HE2.out rfl _ _ _ _ _ _ hX0
 clear hX0
 refine bodyPost_ret (v := .tuple #[.int .u8 rk,.agg #[.int .i64 r0,.int .u8 r1,.int .i64 r2,.int .i64 r3,.int .i64 r4,.int .i64 r5],.bool rb]) (by simp [results,Tryz.results43,go_sem,y0,y1,y2,y3,y4,y5]) rfl (TaskEnd.lift H.out HBl.out HT.out (Nat.le_refl _) (by have := Hz.out; omega) hXk)
set_option maxHeartbeats 2000000 in
theorem clos2_any (φ : Nat→Nat) (Bo : Nat) (c : Cfg) (rs rs' : List RTx) (by_ : List Int) (a : SA) (x : SG) (s : TS) (w : World) (e : Ev) (b1 b2 : Nat) (r : TrA × TS) (h : StAt w φ Bo c rs rs' by_ a x s) (hb1 : w.heap[b1]? = some (.cells #[ptrV a.g] 58 (0,0))) (hb2 : w.heap[b2]? = some (.cells #[.int .i64 e.task,.int .u8 e.kind,.int .i64 e.number,.int .i64 e.shard,.int .i64 e.count,.int .i64 e.mark] 51 (0,0))) (hc : c.ok = true) (het : 0≤e.task) (het2 : e.task≤1000) (hp1 : φ b1 = 30) (hp2 : φ b2 = 30)
    (hin : ∀ (W : World) (ψ : Nat→Nat) (N : Nat) (F : Nat→Option Obj) (x2 : SG),StAt W ψ Bo c rs rs' by_ { a with N := N,F := F } x2 s→Calls Tryz.prog 41 #[ptrV a.g,.int .i64 (e.task - c.lanes - 1)] W (TaskEnd W ψ Bo c rs rs' by_ { a with N := N,F := F } r)) :
    Calls Tryz.prog 40 #[.pointer (some ⟨b1,0,none⟩),.pointer (some ⟨b2,0,none⟩)] w (TaskEnd w φ Bo c rs rs' by_ a r) := by
 obtain ⟨⟨rk,⟨r0,r1,r2,r3,r4,r5⟩,rb⟩,rs2⟩ := r
 obtain ⟨W1,hW1⟩ : ∃ W1,W1 = (w.alloc (.cells #[.int .i64 0,.int .u8 0,.int .i64 0,.int .i64 0,.int .i64 0,.int .i64 0] 51)).drew := ⟨_,rfl⟩
 have hb : Below w.heap.size w W1 := hW1 ▸ bel_drew (bel_alloc (Below.refl _ _) _)
 have hz : W1.heap.size = w.heap.size+1 := by rw [hW1]; simp
 have HE1 : Hid (W1.heap[w.heap.size]? = some (.cells #[.int .i64 0,.int .u8 0,.int .i64 0,.int .i64 0,.int .i64 0,.int .i64 0] 51 (0,0))) := Lib.hid (by rw [hW1]; exact blk_new _ _)
 have hS1 := h.boxed hb
 have HIn := Lib.hid (hin W1 _ _ _ x hS1)
 have hl1 := blk_lt hb1
 have hl2 := blk_lt hb2
 have c1 : W1.cell? ⟨b1,0,none⟩ = some (ptrV a.g) := (hb.cell (p := ⟨b1,0,none⟩) hl1).trans (blk_cell hb1 0)
 have c2 : ∀ j,W1.cell? ⟨b2,j,none⟩ = w.cell? ⟨b2,j,none⟩ := fun j => hb.cell (p := ⟨b2,j,none⟩) hl2
 have d0 : W1.cell? ⟨b2,0,none⟩ = some (.int .i64 e.task) := (c2 0).trans (blk_cell hb2 0)
 have hcl : 1≤c.lanes∧c.lanes≤16 := by simp [Cfg.ok,inB] at hc; omega
 have hwr1 : IntKind.i64.wrap (e.task - c.lanes) = e.task - c.lanes := by rw [IntKind.wrap_i64]; omega
 have hwr2 : IntKind.i64.wrap (e.task - c.lanes - 1) = e.task - c.lanes - 1 := by rw [IntKind.wrap_i64]; omega
 have dg : W1.cell? ⟨a.g,0,none⟩ = some (.int .i64 c.lanes) := blk_cell (hS1.st (fun h => h)) 0
 have HQ0 : Hid (W1.cell? ⟨b1,0,none⟩ = some (.pointer (some ⟨a.g,0,none⟩))∧W1.cell? ⟨b2,0,none⟩ = some (.int .i64 e.task)∧W1.cell? ⟨a.g,0,none⟩ = some (.int .i64 c.lanes)) := Lib.hid ⟨c1,d0,dg⟩
 have Hp1 := Lib.hid (show (fun b => if b < w.heap.size then φ b else 30) b1 = 30 by simp only [if_pos hl1]; exact hp1)
 have Hp2 := Lib.hid (show (fun b => if b < w.heap.size then φ b else 30) b2 = 30 by simp only [if_pos hl2]; exact hp2)
 have hgl : a.g < w.heap.size := h.fst.2.2
 clear hp1 hp2 dg d0
 have H := Lib.hid h
 have HBl := Lib.hid hb
 have Hz := Lib.hid hz
 have HW1 := Lib.hid hW1
 clear hin hS1 c2 h hb hz hb1 hb2
 unfold ptrV at *
 rw [hW1] at c1
 clear c1
 go_enter Tryz.func40,Tryz.ntmps40
 go_wp2_with fail
 go_region_held3 (fun X => X.cell? ⟨b1,0,none⟩ = some (.pointer (some ⟨a.g,0,none⟩))∧X.cell? ⟨b2,0,none⟩ = some (.int .i64 e.task)∧X.cell? ⟨a.g,0,none⟩ = some (.int .i64 c.lanes))
  (first | (rw [← hW1]; with_reducible exact HQ0.out) | with_reducible exact HQ2.out | with_reducible exact HQ3.out _ _ _ _ _ _)
  (first | (go_at_call 41; rw [← hW1]; refine HIn.out.mono ?_; rintro e1 w2 hte; have HT := Lib.hid hte; obtain ⟨φ',x',rfl,-⟩ := hte; have HQ2 : Hid (w2.cell? ⟨b1,0,none⟩ = some (.pointer (some ⟨a.g,0,none⟩))∧w2.cell? ⟨b2,0,none⟩ = some (.int .i64 e.task)∧w2.cell? ⟨a.g,0,none⟩ = some (.int .i64 c.lanes)) := Lib.hid ⟨(cell_of_blk (HT.out.box2 Hp1.out (by have := Hz.out; omega))).trans HQ0.out.1,(cell_of_blk (HT.out.box2 Hp2.out (by have := Hz.out; omega))).trans HQ0.out.2.1,HT.out.word.1⟩; have HQ3 : Hid (∀ v0 v1 v2 v3 v4 v5,((((((w2.setCell ⟨w.heap.size,0,none⟩ v0).setCell ⟨w.heap.size,1,none⟩ v1).setCell ⟨w.heap.size,2,none⟩ v2).setCell ⟨w.heap.size,3,none⟩ v3).setCell ⟨w.heap.size,4,none⟩ v4).setCell ⟨w.heap.size,5,none⟩ v5).cell? ⟨b1,0,none⟩ = some (.pointer (some ⟨a.g,0,none⟩))∧((((((w2.setCell ⟨w.heap.size,0,none⟩ v0).setCell ⟨w.heap.size,1,none⟩ v1).setCell ⟨w.heap.size,2,none⟩ v2).setCell ⟨w.heap.size,3,none⟩ v3).setCell ⟨w.heap.size,4,none⟩ v4).setCell ⟨w.heap.size,5,none⟩ v5).cell? ⟨b2,0,none⟩ = some (.int .i64 e.task)∧((((((w2.setCell ⟨w.heap.size,0,none⟩ v0).setCell ⟨w.heap.size,1,none⟩ v1).setCell ⟨w.heap.size,2,none⟩ v2).setCell ⟨w.heap.size,3,none⟩ v3).setCell ⟨w.heap.size,4,none⟩ v4).setCell ⟨w.heap.size,5,none⟩ v5).cell? ⟨a.g,0,none⟩ = some (.int .i64 c.lanes)) := Lib.hid (fun v0 v1 v2 v3 v4 v5 => ⟨(cell_set6 _ _ _ _ _ _ (by omega)).trans HQ2.out.1,(cell_set6 _ _ _ _ _ _ (by omega)).trans HQ2.out.2.1,(cell_set6 _ _ _ _ _ _ (by omega)).trans HQ2.out.2.2⟩); have HE2 : Hid (w2.heap[w.heap.size]? = some (.cells #[.int .i64 0,.int .u8 0,.int .i64 0,.int .i64 0,.int .i64 0,.int .i64 0] 51 (0,0))) := Lib.hid ((HT.out.box (Nat.le_refl _) (by have := Hz.out; omega)).trans HE1.out); simp only [Ev.v]; have g0 := blk_cell HE2.out 0; have g1 := blk_cell HE2.out 1; have g2 := blk_cell HE2.out 2; have g3 := blk_cell HE2.out 3; have g4 := blk_cell HE2.out 4; have g5 := blk_cell HE2.out 5; have k0 := blk_frozen HE2.out 0; have k1 := blk_frozen HE2.out 1; have k2 := blk_frozen HE2.out 2; have k3 := blk_frozen HE2.out 3; have k4 := blk_frozen HE2.out 4; have k5 := blk_frozen HE2.out 5))
 obtain ⟨X0,hX0⟩ : ∃ X0,X0 = ((((((w2.setCell ⟨w.heap.size,0,none⟩ (.int .i64 r0)).setCell ⟨w.heap.size,1,none⟩ (.int .u8 r1)).setCell ⟨w.heap.size,2,none⟩ (.int .i64 r2)).setCell ⟨w.heap.size,3,none⟩ (.int .i64 r3)).setCell ⟨w.heap.size,4,none⟩ (.int .i64 r4)).setCell ⟨w.heap.size,5,none⟩ (.int .i64 r5)) := ⟨_,rfl⟩
 rw [← hX0]
 obtain ⟨hXk,y0,y1,y2,y3,y4,y5⟩ := ev_box HE2.out rfl _ _ _ _ _ _ hX0
 clear hX0
 go_wp2_with fail
 refine bodyPost_ret (v := .tuple #[.int .u8 rk,.agg #[.int .i64 r0,.int .u8 r1,.int .i64 r2,.int .i64 r3,.int .i64 r4,.int .i64 r5],.bool rb]) (by simp [results,Tryz.results40,go_sem,y0,y1,y2,y3,y4,y5]) rfl (TaskEnd.lift H.out HBl.out HT.out (Nat.le_refl _) (by have := Hz.out; omega) hXk)
end Go.Proofs.YtcjmppjppmiggaaGreat

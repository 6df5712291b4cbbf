/- Lemmas and contracts of functions that statements of this seat stand on, many texts in one; each holds under the premises typed in its head. -/
import Derived.Test.YtcjmppjppmiggaaGreatSt8
import Derived.Test.YtcjmppjppmiggaaGreatM3
import Derived.Test.YtcjmppjppmiggaaGreatCli
/- A trace's story at its beginning. -/
namespace Go.Proofs.YtcjmppjppmiggaaGreat
open Go.RowKit
set_option linter.unusedVariables false
set_option linter.unusedSimpArgs false

open Go.Maps
set_option maxRecDepth 100000
def TS.start (c : Cfg) (M : Nat) (bs : List Nat) : TS := ⟨M,false,E0 M,⟨M,bs⟩,[],[],List.replicate c.lanes.toNat ⟨0,[],0,0⟩,List.replicate c.shards.toNat [],[]⟩
theorem nums_zero : ∀ n,nums (List.replicate n (⟨0,[],0,0⟩ : Ln)) = []
 | 0 => rfl
 | n+1 => by rw [List.replicate_succ,nums_cons]; simp [nums_zero n]
theorem SInv.start {c : Cfg} {rs rs' : List RTx} {M : Nat} {bs : List Nat} (hc : c.ok = true) (hM : M≤rs.length) (hG : (⟨M,bs⟩ : Gt).Ok) : SInv c rs rs' M 0 (TS.start c M bs) := by
 have hcl : 1≤c.lanes∧c.lanes≤16∧1≤c.shards∧c.shards≤16 := by simp [Cfg.ok,inB] at hc; omega
 have hqc : 0≤c.queue := by simp [Cfg.ok,inB] at hc; omega
 refine ⟨hM,by simp [TS.start,TS.m],by simp [TS.start],fun j hj => ?_,?_,?_,by simp [TS.start]; omega,fun h hh => ?_,by simp [TS.start]; omega,fun q hq => ?_,fun t x hx => by simp [TS.start,mget] at hx,hG⟩
 · simp [TS.start,TS.m] at hj; simp [TS.start,E0]; omega
 · simp [TS.start,nums_zero]
 · simp [TS.start,nums_zero]
 · simp only [TS.start] at hh; obtain ⟨-,rfl⟩ := List.mem_replicate.1 hh; simp
 · simp only [TS.start] at hq; obtain ⟨-,rfl⟩ := List.mem_replicate.1 hq; simpa using hqc
theorem rises_nat {n : Int} : ∀ {l : List Int} {than : Int},0≤than→risesB n l than = true→∃ bs : List Nat,l = ints bs∧bs.Pairwise (· < ·)∧∀ b ∈ bs,than < (b : Int)∧(b : Int)≤n
 | [],_,_,_ => ⟨[],rfl,List.Pairwise.nil,by simp⟩
 | x :: r,than,ht,h => by
   simp only [risesB,Bool.and_eq_true,decide_eq_true_eq] at h
   obtain ⟨bs,h1,h2,h3⟩ := rises_nat (by omega) h.2
   refine ⟨x.toNat :: bs,by rw [h1]; simp [ints]; omega,List.pairwise_cons.2 ⟨fun b hb => by have := h3 b hb; omega,h2⟩,fun b hb => ?_⟩
   rcases List.mem_cons.1 hb with rfl | hb
   · omega
   · have := h3 b hb; omega
theorem place_nat {n : Nat} {mark : Int} {by_ : List Int} (h : placeB n mark by_ = true) (hn : n≤65536) : ∃ (M : Nat) (bs : List Nat),mark = M∧by_ = ints bs∧M≤n∧(⟨M,bs⟩ : Gt).Ok∧∀ b ∈ by_,(M : Int)+2≤b := by
 simp only [placeB,Bool.and_eq_true,decide_eq_true_eq] at h
 obtain ⟨bs,h1,h2,h3⟩ := rises_nat (by omega) h.2
 refine ⟨mark.toNat,bs,by omega,h1,by omega,⟨by simp only; omega,h2,fun b hb => by have := h3 b hb; simp only; omega⟩,fun b hb => ?_⟩
 rw [h1] at hb
 obtain ⟨y,hy,rfl⟩ := List.mem_map.1 (show b ∈ bs.map (fun x : Nat => (x : Int)) from hb)
 have := h3 y hy
 omega
theorem rise_len {N : Nat} : ∀ {bs : List Nat} {a : Nat},bs.Pairwise (· < ·)→(∀ b ∈ bs,a < b∧b≤N)→a+bs.length≤max a N
 | [],a,_,_ => by simp; omega
 | x :: r,a,h,hb => by
   rw [List.pairwise_cons] at h
   have h1 := hb x (by simp)
   have := rise_len (a := x) h.2 (fun b hb2 => ⟨h.1 b hb2,(hb b (by simp [hb2])).2⟩)
   simp; omega
theorem row_nat {w : World} {B n : Nat} {A : Option Addr} {bs : List Nat} (h : IsAt w B A n (ints bs)) : RowAt (fun (x : Nat) => [Value.int .i64 x]) 1 w B A n bs := by
 refine ⟨by rw [← h.len]; simp [ints],fun hn => ?_⟩
 obtain ⟨b,off,e,hb,hc⟩ := h.2 hn
 exact ⟨b,off,e,hb,fun i x hx j u hu => hc i (x : Int) (by simp [ints,hx]) j u hu⟩
end Go.Proofs.YtcjmppjppmiggaaGreat

/- A trace's story at its beginning, at memory; what its makers make. -/
namespace Go.Proofs.YtcjmppjppmiggaaGreat
open Go.RowKit
set_option linter.unusedVariables false
set_option linter.unusedSimpArgs false

open Go.Maps
set_option maxRecDepth 100000
theorem info_heldT : (Tryz.prog.info? 126).map (fun i => (i.zero,i.size,i.bytes)) = some (some (.agg #[.int .i64 0,.slice none 0 0,.int .i64 0,.int .i64 0]),4,48) := by kernel_rfl
theorem info_askS : (Tryz.prog.info? 129).map (fun i => (i.zero,i.size,i.bytes)) = some (some (.slice none 0 0),1,24) := by kernel_rfl
def ownS (v : Value) (b : Nat) : Prop := ∃ ad n c,v = .slice (some ad) n c∧b = ad.block
def ownP (v : Value) (b : Nat) : Prop := ∃ h,v = ptrV (h+3)∧h≤b∧b≤h+3
def ownMp (v : Value) (b : Nat) : Prop := v = .map (some b)
theorem Makes.slice {P : Program} {o : Oper} {a : Act} {R : Value→World→Prop} {X X' : World} {t : TypeId} {l c : Operand} {n : Nat} {v : Value} (hop : o.op = Op.makeSlice t l c) (hl : a.eval l = .int .i64 (n : Int)) (hc : a.eval c = .int .i64 (n : Int))
    (hrun : (Instr.makeSlice t (.int .i64 (n : Int)) (.int .i64 (n : Int))).run P X = .ok v X') (hb : Below X.heap.size X X') (hR : R v X') : Makes P o a R X := by
 unfold Makes
 simp [execOp,hop,hl,hc,hrun,Result.andThen]
 exact ⟨hb,hR⟩
theorem Makes.map {P : Program} {o : Oper} {a : Act} {R : Value→World→Prop} {X : World} {t : TypeId} (hop : o.op = Op.makeMap t none) (hR : R (.map (some X.heap.size)) (X.alloc (.map #[] 0))) : Makes P o a R X := by
 unfold Makes
 have := @run_makeMap P t X
 simp [execOp,hop,this,Result.andThen]
 exact ⟨bel_alloc (Below.refl _ _) _,hR⟩
theorem Makes.call {P : Program} {o : Oper} {a : Act} {R : Value → World → Prop} {X : World} {f : FuncId} {xs : Array Operand} {ts : Array TypeId} {vs : Array Value} (hop : o.op = .call { callee := .value (.func f), args := xs, argTypes := ts }) (hv : xs.map a.eval = vs) (hf : (P.funcs[f]?).any (fun fn => !(fn.name == "runtime.NumGoroutine") && fn.body.isSome) = true)
    (hC : Calls P f vs X fun e X'' => ∃ v,e = .returned v∧Below X.heap.size X X''∧R v X'') : Makes P o a R X := by
 unfold Makes
 have e : (execOp a.eval o).run P X = .ok (.enter f vs) X := by
  have e2 : a.eval (Operand.func f) = .func (.func f) #[] #[] := rfl
  cases hq : P.funcs[f]? with
  | none => rw [hq] at hf; simp at hf
  | some fn =>
    rw [hq] at hf
    simp only [Option.any_some,Bool.and_eq_true,Bool.not_eq_true',beq_eq_false_iff_ne] at hf
    obtain ⟨h1,h2⟩ := hf
    obtain ⟨c,hc⟩ := Option.isSome_iff_exists.1 h2
    simp [execOp,hop,resolve,invoke,hv,e2,Deferred.ofValue,Result.andThen,callFunc,hq,h1,hc]
 rw [e]
 exact ⟨rfl,hC⟩
theorem run_make_any {P : Program} (t e : TypeId) (z : Value) (size bytes : Nat) (ht : P.underlying t = some (.slice e)) (hinfo : (P.info? e).map (fun i => (i.zero,i.size,i.bytes)) = some (some z,size,bytes)) (n : Nat) (hb : bytes * n≤281474976710656) (hn : n≤9223372036854775807) (w : World) :
    (Instr.makeSlice t (.int .i64 (n : Int)) (.int .i64 (n : Int))).run P w = .ok (.slice (some ⟨w.heap.size,0,none⟩) n n) (w.alloc (.cells (madeCells z.cells (n * size)) e)) := by
 obtain ⟨i,hi,hzz⟩ := Option.map_eq_some_iff.1 hinfo
 simp only [Prod.mk.injEq] at hzz
 obtain ⟨hz,hs,hby⟩ := hzz
 have hb' : (i.bytes : Int) * (n : Int)≤281474976710656 := by
  have h : ((i.bytes * n : Nat) : Int)≤281474976710656 := by rw [hby]; omega
  rwa [Int.natCast_mul] at h
 have hr := run_make (P := P) w t e i z ht hi hz .i64 .i64 n n (by omega) (Int.le_refl _) hb' (by omega)
 simpa only [Int.toNat_natCast,hs] using hr
theorem pick_all {l : List Oper} : ∀ ks : List Nat,(∀ k ∈ ks,k < l.length)→ks.map (fun k => l.toArray[k]?) = (ks.filterMap fun k => l[k]?).map some
 | [],_ => rfl
 | k :: r,h => by
   have hk := h k (by simp)
   have ih := pick_all r (fun j hj => h j (by simp [hj]))
   have e : l[k]? = some l[k] := List.getElem?_eq_getElem hk
   have e2 : l.toArray[k]? = some l[k] := by simp
   rw [List.map_cons,List.filterMap_cons,e,e2,ih]
   rfl
theorem wp_region_makers2 {P : Program} {id : Nat} {Q : Exit→Act→World→Prop} {a : Act} {w : World} {l : List Oper} (ks : List Nat) (L : List Mk) (n : Nat) (hm : P.follows .mixedOrders = true)
    (hlo : ks.all (fun k => decide (k < l.length)) = true) (hrd : (ks.filterMap (fun k => l[k]?)).all (fun o => rdB o.op) = true) (hB : mkB l ks (L.map fun m => (m.j,m.d)) n = true) (hQ : ∀ c a d v w,Q (.panic c) (a.put d v) w→Q (.panic c) a w)
    (hgrow : ∀ m ∈ L,∀ v X X',m.R v X→Below X.heap.size X X'→m.R v X')
    (h : wpQuiet P l.toArray (fun w' => ∃ m : Ext w,w' = m.X) (fun b => (∀ m ∈ L,∀ o,l[m.j]? = some o→∀ X,Below w.heap.size w X→Makes P o b (m.RF X) X) ∧
      ∀ (v : Nat→Value) (X : World),Below w.heap.size w X→MkInv w L (fun j => some (v j)) X→tailC P l.toArray Q (fun w' => ∃ m : Ext w,w' = m.X) (l.drop n) (puts (fun j => some (v j)) L b) X) (ks.filterMap (fun k => l[k]?)) a) : (Code.region id l.toArray true).wp P Q a w :=
 wp_region_makers ks _ L n hm (pick_all ks fun k hk => by simpa using List.all_eq_true.1 hlo k hk) hrd hB hQ hgrow h
def rBey (Bo n : Nat) (l : List Int) (v : Value) (X : World) : Prop := ∃ A cp,v = .slice A n cp∧TkAt Icell 1 3 X Bo A n cp l
def rTab (v : Value) (X : World) : Prop := ∃ h,v = ptrV (h+3)∧TabAt X ⟨h+3,h,h+1,h+2⟩ ⟨[],[],[],0⟩
def rRow (n size : Nat) (z : Value) (e : TypeId) (v : Value) (X : World) : Prop := ∃ g,v = .slice (some ⟨g,0,none⟩) n n∧X.heap[g]? = some (.cells (madeCells z.cells (n * size)) e (0,0))
def rMap (v : Value) (X : World) : Prop := ∃ g,v = .map (some g)∧OwnM (Value.int .i64) ptrV X g []
def mkL (Bo n L S : Nat) (l : List Int) : List Mk := [⟨6,51,rBey Bo n l,ownS⟩,⟨7,52,rTab,ownP⟩,⟨11,56,rRow L 4 (.agg #[.int .i64 0,.slice none 0 0,.int .i64 0,.int .i64 0]) 126,ownS⟩,⟨14,59,rRow S 1 (.slice none 0 0) 129,ownS⟩,⟨15,60,rMap,ownMp⟩]
theorem mk_grow (Bo n L S : Nat) (l : List Int) : ∀ m ∈ mkL Bo n L S l,∀ v X X',m.R v X→Below X.heap.size X X'→m.R v X' := by
 intro m hm v X X' hR hb
 simp only [mkL,List.mem_cons,List.not_mem_nil,or_false] at hm
 rcases hm with rfl | rfl | rfl | rfl | rfl
 · obtain ⟨A,cp,e,hT⟩ := hR; exact ⟨A,cp,e,hT.below hb⟩
 · obtain ⟨h,e,hT⟩ := hR; exact ⟨h,e,hT.kept (Kept.of_below (X := fun _ => False) hb) (fun _ _ h => h)⟩
 · obtain ⟨g,e,hT⟩ := hR; exact ⟨g,e,(hb.block _ (blk_lt hT)).trans hT⟩
 · obtain ⟨g,e,hT⟩ := hR; exact ⟨g,e,(hb.block _ (blk_lt hT)).trans hT⟩
 · obtain ⟨g,e,hT⟩ := hR; exact ⟨g,e,hT.of_block (hb.block _ hT.lt)⟩
theorem mk_bey {w X : World} {A2 : Option Addr} {n2 c2 : Nat} {l : List Int} (hb : IsAt w w.heap.size A2 n2 l) (hn : A2 = none→c2 = 0) (hl : n2≤65536) (hX : Below w.heap.size w X) :
    Calls Tryz.prog 20 #[.slice A2 n2 c2] X fun e X'' => ∃ v,e = .returned v∧Below X.heap.size X X''∧(⟨6,51,rBey w.heap.size n2 l,ownS⟩ : Mk).RF X v X'' := by
 refine (clonei_any A2 n2 c2 l X ((hb.below hX).more hX.size) hn (by omega)).mono ?_
 rintro e X2 ⟨v,rfl,hO,hB⟩
 obtain ⟨A,cp,rfl,h1,h2⟩ := TkAt.own (cells := Icell) (fun _ _ => rfl) hO hX.size
 rw [hb.len] at h2 ⊢
 refine ⟨_,rfl,hB,⟨A,cp,rfl,h2⟩,?_⟩
 rintro b ⟨ad,n,c,e,rfl⟩
 injection e with e _ _
 exact ⟨h1 ad e,(h2.lt e).2⟩
theorem mk_tab (X : World) : Calls Tryz.prog 21 #[] X fun e X'' => ∃ v,e = .returned v∧Below X.heap.size X X''∧(⟨7,52,rTab,ownP⟩ : Mk).RF X v X'' := by
 refine (new_any X).mono ?_
 rintro e X2 ⟨rfl,hT,hB⟩
 refine ⟨_,rfl,hB,⟨_,rfl,hT⟩,?_⟩
 rintro b ⟨h,e,h1,h2⟩
 simp only [ptrV,Value.pointer.injEq,Option.some.injEq,Addr.mk.injEq] at e
 have := blk_lt hT.cell
 simp only at this
 omega
theorem mk_row {X : World} {j n size bytes : Nat} {d : Tmp} {z : Value} {t e : TypeId} (ht : Tryz.prog.underlying t = some (.slice e)) (hinfo : (Tryz.prog.info? e).map (fun i => (i.zero,i.size,i.bytes)) = some (some z,size,bytes)) (hb : bytes * n≤281474976710656) (hn : n≤9223372036854775807) :
    ∃ v X',(Instr.makeSlice t (.int .i64 (n : Int)) (.int .i64 (n : Int))).run Tryz.prog X = .ok v X'∧Below X.heap.size X X'∧(⟨j,d,rRow n size z e,ownS⟩ : Mk).RF X v X' := by
 refine ⟨_,_,run_make_any t e z size bytes ht hinfo n hb hn X,bel_alloc (Below.refl _ _) _,⟨_,rfl,blk_new _ _⟩,?_⟩
 rintro b ⟨ad,n,c,e,rfl⟩
 injection e with e _ _
 injection e with e
 subst e
 simp
theorem mk_map (X : World) : (⟨15,60,rMap,ownMp⟩ : Mk).RF X (.map (some X.heap.size)) (X.alloc (.map #[] 0)) := by
 refine ⟨⟨_,rfl,OwnM.made _ _ _⟩,?_⟩
 intro b e
 simp only [ownMp,Value.map.injEq,Option.some.injEq] at e
 subst e
 simp
theorem mk_all {w X : World} {n L S : Nat} {l : List Int} {v : Nat→Value} (hI : MkInv w (mkL w.heap.size n L S l) (fun j => some (v j)) X) :
    ∃ (A : Option Addr) (cp h ln qb cb : Nat),v 6 = .slice A n cp∧v 7 = ptrV (h+3)∧v 11 = .slice (some ⟨ln,0,none⟩) L L∧v 14 = .slice (some ⟨qb,0,none⟩) S S∧v 15 = .map (some cb) ∧
     TkAt Icell 1 3 X w.heap.size A n cp l∧TabAt X ⟨h+3,h,h+1,h+2⟩ ⟨[],[],[],0⟩∧X.heap[ln]? = some (.cells (madeCells (Value.agg #[.int .i64 0,.slice none 0 0,.int .i64 0,.int .i64 0]).cells (L * 4)) 126 (0,0)) ∧
     X.heap[qb]? = some (.cells (madeCells (Value.slice none 0 0).cells (S * 1)) 129 (0,0))∧OwnM (Value.int .i64) ptrV X cb []∧(w.heap.size≤h∧w.heap.size≤ln∧w.heap.size≤qb∧w.heap.size≤cb)∧(qb≠ln∧cb≠ln∧cb≠qb) ∧
     (∀ b,h≤b→b≤h+3→b≠ln∧b≠qb∧b≠cb)∧∀ ad,A = some ad→w.heap.size≤ad.block∧ad.block≠ln∧ad.block≠qb∧ad.block≠cb∧¬ (h≤ad.block∧ad.block≤h+3) := by
 have m6 : (⟨6,51,rBey w.heap.size n l,ownS⟩ : Mk) ∈ mkL w.heap.size n L S l := by simp [mkL]
 have m7 : (⟨7,52,rTab,ownP⟩ : Mk) ∈ mkL w.heap.size n L S l := by simp [mkL]
 have m11 : (⟨11,56,rRow L 4 (.agg #[.int .i64 0,.slice none 0 0,.int .i64 0,.int .i64 0]) 126,ownS⟩ : Mk) ∈ mkL w.heap.size n L S l := by simp [mkL]
 have m14 : (⟨14,59,rRow S 1 (.slice none 0 0) 129,ownS⟩ : Mk) ∈ mkL w.heap.size n L S l := by simp [mkL]
 have m15 : (⟨15,60,rMap,ownMp⟩ : Mk) ∈ mkL w.heap.size n L S l := by simp [mkL]
 obtain ⟨⟨A,cp,e6,t6⟩,o6⟩ := hI.1 _ m6 _ rfl
 obtain ⟨⟨h,e7,t7⟩,o7⟩ := hI.1 _ m7 _ rfl
 obtain ⟨⟨ln,e11,t11⟩,o11⟩ := hI.1 _ m11 _ rfl
 obtain ⟨⟨qb,e14,t14⟩,o14⟩ := hI.1 _ m14 _ rfl
 obtain ⟨⟨cb,e15,t15⟩,o15⟩ := hI.1 _ m15 _ rfl
 have w11 : ownS (v 11) ln := ⟨_,_,_,e11,rfl⟩
 have w14 : ownS (v 14) qb := ⟨_,_,_,e14,rfl⟩
 have w15 : ownMp (v 15) cb := e15
 have w7 : ∀ b,h≤b→b≤h+3→ownP (v 7) b := fun b h1 h2 => ⟨h,e7,h1,h2⟩
 have w6 : ∀ ad,A = some ad→ownS (v 6) ad.block := fun ad e => ⟨ad,n,cp,by rw [← e]; exact e6,rfl⟩
 refine ⟨A,cp,h,ln,qb,cb,e6,e7,e11,e14,e15,t6,t7,t11,t14,t15,⟨(o7 h (w7 h (Nat.le_refl _) (by omega))).1,(o11 ln w11).1,(o14 qb w14).1,(o15 cb w15).1⟩,⟨fun e => ?_,fun e => ?_,fun e => ?_⟩,fun b h1 h2 => ⟨fun e => ?_,fun e => ?_,fun e => ?_⟩,fun ad e => ⟨(o6 _ (w6 ad e)).1,fun e2 => ?_,fun e2 => ?_,fun e2 => ?_,fun e2 => ?_⟩⟩
 · exact hI.2 _ m14 _ m11 (by simp) _ _ rfl rfl _ w14 (e ▸ w11)
 · exact hI.2 _ m15 _ m11 (by simp) _ _ rfl rfl _ w15 (e ▸ w11)
 · exact hI.2 _ m15 _ m14 (by simp) _ _ rfl rfl _ w15 (e ▸ w14)
 · exact hI.2 _ m7 _ m11 (by simp) _ _ rfl rfl _ (w7 b h1 h2) (e ▸ w11)
 · exact hI.2 _ m7 _ m14 (by simp) _ _ rfl rfl _ (w7 b h1 h2) (e ▸ w14)
 · exact hI.2 _ m7 _ m15 (by simp) _ _ rfl rfl _ (w7 b h1 h2) (e ▸ w15)
 · exact hI.2 _ m6 _ m11 (by simp) _ _ rfl rfl _ (w6 ad e) (e2 ▸ w11)
 · exact hI.2 _ m6 _ m14 (by simp) _ _ rfl rfl _ (w6 ad e) (e2 ▸ w14)
 · exact hI.2 _ m6 _ m15 (by simp) _ _ rfl rfl _ (w6 ad e) (e2 ▸ w15)
 · exact hI.2 _ m6 _ m7 (by simp) _ _ rfl rfl _ (w6 ad e) (w7 _ e2.1 e2.2)
theorem story_built (c0 c1 c2 c3 m : Int) (A : Option Addr) (n cp : Nat) (A5 : Option Addr) (n5 c5 : Nat) (tb gt ln qb cb L S : Nat) :
    Tryz.prog.built 65 [(0,.agg #[.int .i64 c0,.int .i64 c1,.int .i64 c2,.int .i64 c3]),(1,.slice A n cp),(2,.int .i64 m),(4,.slice A5 n5 c5),(5,ptrV tb),(6,ptrV gt),(9,.slice (some ⟨ln,0,none⟩) L L),(10,.slice (some ⟨qb,0,none⟩) S S),(11,.map (some cb))] =
     some #[.int .i64 c0,.int .i64 c1,.int .i64 c2,.int .i64 c3,.slice A n cp,.int .i64 m,.bool false,.slice A5 n5 c5,ptrV tb,ptrV gt,.slice none 0 0,.slice none 0 0,.slice (some ⟨ln,0,none⟩) L L,.slice (some ⟨qb,0,none⟩) S S,.map (some cb)] := by kernel_rfl
section
variable {c : Cfg} {rs rs' : List RTx} {by_ : List Int} {s s2 : TS} {ev e : Ev} {r : List Ev} {rk : Int} {rb : Bool}
theorem tale_no (h : ((rk,e,rb),s2) = s.step c rs rs' by_ ev) (hno : ¬ (rb = true∧ev = ⟨ev.task,rk,e.number,e.shard,e.count,s2.G.mark⟩)) : tale c rs rs' by_ (ev :: r) s = 0 := by
 unfold tale TS.fits
 simp only [← h]
 rw [if_neg]
 intro hh
 simp only [Bool.and_eq_true,decide_eq_true_eq] at hh
 exact hno hh
theorem tale_yes (h : ((rk,e,rb),s2) = s.step c rs rs' by_ ev) (h1 : rb = true) (h2 : ev = ⟨ev.task,rk,e.number,e.shard,e.count,s2.G.mark⟩) : tale c rs rs' by_ (ev :: r) s = tale c rs rs' by_ r s2+1 := by
 conv => lhs; unfold tale TS.fits
 simp only [← h]
 rw [if_pos]
 simp only [Bool.and_eq_true,decide_eq_true_eq]
 exact ⟨h1,h2⟩
end
set_option maxHeartbeats 1000000 in
theorem story_begins {X : World} {Bo : Nat} {c : Cfg} {rs : List RTx} {by_ : List Int} {M : Nat} {bs : List Nat} {a : SA} (hN : a.N = 0)
    (hlo : Bo≤X.heap.size) (hlog : TxsAt X Bo a.A a.n rs) (hst : X.heap[a.g]? = some (.cells (storyC c a ⟨⟨none,0,0⟩,⟨none,0,0⟩,List.replicate c.shards.toNat ⟨none,0,0⟩,List.replicate c.lanes.toNat ⟨none,0,0⟩,[],⟨[],[],[],0⟩⟩ (TS.start c M bs)) 65 (0,0)))
    (hB : TkAt Icell 1 3 X Bo a.B.A a.B.n a.B.c by_) (ht : TabAt X a.t ⟨[],[],[],0⟩) (hln : X.heap[a.ln]? = some (.cells (madeCells (Value.agg #[.int .i64 0,.slice none 0 0,.int .i64 0,.int .i64 0]).cells (c.lanes.toNat * 4)) 126 (0,0)))
    (hqb : X.heap[a.qb]? = some (.cells (madeCells (Value.slice none 0 0).cells (c.shards.toNat * 1)) 129 (0,0))) (hcb : OwnM (Value.int .i64) ptrV X a.cb []) (hgt : GtAt X a.gt ⟨M,bs⟩)
    (h0 : Bo≤a.g∧Bo≤a.ln∧Bo≤a.qb∧Bo≤a.cb∧Bo≤a.gt∧∀ b,a.t.has b→Bo≤b)
    (h1 : a.ln≠a.g∧a.qb≠a.g∧a.qb≠a.ln∧a.cb≠a.g∧a.cb≠a.ln∧a.cb≠a.qb∧a.gt≠a.g∧a.gt≠a.ln∧a.gt≠a.qb∧a.gt≠a.cb)
    (h2 : ∀ b,a.t.has b→b≠a.g∧b≠a.ln∧b≠a.qb∧b≠a.cb∧b≠a.gt)
    (h3 : ∀ ad,a.B.A = some ad→ad.block≠a.g∧ad.block≠a.ln∧ad.block≠a.qb∧ad.block≠a.cb∧ad.block≠a.gt∧¬ a.t.has ad.block) :
    ∃ φ x,StAt X φ Bo c rs (maskL M by_ rs) by_ a x (TS.start c M bs) := by
 obtain ⟨b1,b2,b3,b4,b5,b6⟩ := h0
 obtain ⟨d1,d2,d3,d4,d5,d6,d7,d8,d9,d10⟩ := h1
 refine ⟨fun b => if b < Bo then 0 else if b = a.g then 1 else if b = a.ln then 2 else if b = a.qb then 3 else if b = a.cb then 4 else if b = a.gt then 9 else if b = a.t.g∨b = a.t.p∨b = a.t.q∨b = a.t.r then 8 else 30,_,hlo,fun b hb => if_pos hb,hlog,⟨hB,fun ad e => ?_⟩,fun _ => hst,⟨?_,b1,blk_lt hst⟩,fun _ => ?_,⟨?_,b2,blk_lt hln⟩,fun _ => ⟨by simp [TS.start],fun i h l e1 e2 => ?_⟩,fun _ => ⟨?_,by simp [TS.start]⟩,⟨?_,b3,blk_lt hqb⟩,fun i q l e1 e2 _ => ?_,fun _ => ⟨TkAt.nil _ _,At.none_ _⟩,fun _ => ⟨TkAt.nil _ _,At.none_ _⟩,fun _ => ⟨hcb,fun t => by simp [TS.start,mget]⟩,⟨?_,b4,hcb.lt⟩,fun t p v e => by (simp [mget] at e),fun _ => hgt,⟨?_,b5,hgt.lt⟩,fun _ => ⟨ht,TIG.start _ M fun i hi => maskL_ws (Or.inl hi)⟩,fun b hb => ⟨?_,b6 b hb,ht.has_lt hb⟩,⟨by rw [hN]; omega,fun b hb => by rw [hN] at hb; omega⟩⟩
 · have := h3 ad e
   have := (hB.lt e).1
   have h7 : ¬ (ad.block = a.t.g∨ad.block = a.t.p∨ad.block = a.t.q∨ad.block = a.t.r) := fun h => (h3 ad e).2.2.2.2.2 h
   simp only
   rw [if_neg (by omega),if_neg (h3 ad e).1,if_neg (h3 ad e).2.1,if_neg (h3 ad e).2.2.1,if_neg (h3 ad e).2.2.2.1,if_neg (h3 ad e).2.2.2.2.1,if_neg h7]
 · show (if a.g < Bo then 0 else if a.g = a.g then 1 else _) = 1; rw [if_neg (by omega),if_pos rfl]
 · rw [hln]
   congr 2
   simp only [TS.start,lanesC]
   rw [List.zip_replicate']
   refine Array.ext (by simp [madeCells,laneC]) fun i h1 h2 => ?_
   have h1' : i < c.lanes.toNat * 4 := by simpa [madeCells] using h1
   have : ((List.replicate c.lanes.toNat ((⟨0,[],0,0⟩ : Ln),(⟨none,0,0⟩ : SL))).flatMap fun p => laneC p.1 p.2)[i]? = some (([.int .i64 0,.slice none 0 0,.int .i64 0,.int .i64 0] : List Value)[i % 4]'(by simp; omega)) := by
    have hq := flat_get (cells := fun p : Ln × SL => laneC p.1 p.2) (size := 4) (List.replicate c.lanes.toNat ((⟨0,[],0,0⟩ : Ln),(⟨none,0,0⟩ : SL))) (fun x _ => rfl) (i / 4) ((⟨0,[],0,0⟩ : Ln),(⟨none,0,0⟩ : SL)) (by rw [List.getElem?_replicate,if_pos (by omega)]) (i % 4) (([.int .i64 0,.slice none 0 0,.int .i64 0,.int .i64 0] : List Value)[i % 4]'(by simp; omega)) (List.getElem?_eq_getElem (by simp [laneC]; omega))
    rwa [show i / 4 * 4+i % 4 = i by omega] at hq
   obtain ⟨_,hq⟩ := List.getElem?_eq_some_iff.1 this
   simp only [List.getElem_toArray]
   refine Eq.trans ?_ hq.symm
   have h4 : i % 4 < ([.int .i64 0,.slice none 0 0,.int .i64 0,.int .i64 0] : List Value).length := by simp; omega
   simp [madeCells,Value.cells,List.getElem?_eq_getElem h4]
 · show (if a.ln < Bo then 0 else if a.ln = a.g then 1 else if a.ln = a.ln then 2 else _) = 2; rw [if_neg (by omega),if_neg d1,if_pos rfl]
 · simp only [TS.start] at e1
   rw [List.getElem?_replicate] at e1 e2
   split at e1
   · injection e1 with e1
     split at e2
     · injection e2 with e2
       subst e1 e2
       exact ⟨TkAt.nil _ _,At.none_ _⟩
     · omega
   · cases e1
 · rw [hqb,List.map_replicate]
   congr 2
   refine Array.ext (by simp [madeCells]) fun i h1 h2 => by simp [madeCells,Value.cells,Nat.mod_one,SL.v]
 · show (if a.qb < Bo then 0 else if a.qb = a.g then 1 else if a.qb = a.ln then 2 else if a.qb = a.qb then 3 else _) = 3; rw [if_neg (by omega),if_neg d2,if_neg d3,if_pos rfl]
 · simp only [TS.start] at e1
   rw [List.getElem?_replicate] at e1 e2
   split at e1
   · injection e1 with e1
     split at e2
     · injection e2 with e2
       subst e1 e2
       exact ⟨TkAt.nil _ _,At.none_ _⟩
     · omega
   · cases e1
 · show (if a.cb < Bo then 0 else if a.cb = a.g then 1 else if a.cb = a.ln then 2 else if a.cb = a.qb then 3 else if a.cb = a.cb then 4 else _) = 4; rw [if_neg (by omega),if_neg d4,if_neg d5,if_neg d6,if_pos rfl]
 · show (if a.gt < Bo then 0 else if a.gt = a.g then 1 else if a.gt = a.ln then 2 else if a.gt = a.qb then 3 else if a.gt = a.cb then 4 else if a.gt = a.gt then 9 else _) = 9; rw [if_neg (by omega),if_neg d7,if_neg d8,if_neg d9,if_neg d10,if_pos rfl]
 · obtain ⟨g1,g2,g3,g4,g5⟩ := h2 b hb
   have h7 : b = a.t.g∨b = a.t.p∨b = a.t.q∨b = a.t.r := hb
   rw [if_neg (by have := b6 b hb; omega),if_neg g1,if_neg g2,if_neg g3,if_neg g4,if_neg g5,if_pos h7]
theorem logErr_all : ∀ {rs : List RTx} {k : Int},logErr rs k = 0→∀ (i : Nat) (r : RTx),rs[i]? = some r→txB r.number r.ws = true∧r.number = k+(i : Int)
 | [],_,_,i,r,hr => by simp at hr
 | x :: rs,k,h,0,r,hr => by
   simp at hr; subst hr
   simp only [logErr] at h
   split at h
   · split at h
     · exact ⟨by assumption,by simpa using by assumption⟩
     · cases h
   · cases h
 | x :: rs,k,h,i+1,r,hr => by
   simp only [logErr] at h
   split at h
   · split at h
     · have := logErr_all h i r (by simpa using hr)
       exact ⟨this.1,by rw [this.2]; push_cast; omega⟩
     · cases h
   · cases h
theorem logErr_le {rs : List RTx} (h : logErr rs 1 = 0) : rs.length≤65536 := by
 rcases Nat.lt_or_ge 65536 rs.length with hl | hl
 · obtain ⟨h1,h2⟩ := logErr_all h 65536 _ (List.getElem?_eq_getElem hl)
   have h3 := h1
   simp only [txB,Bool.and_eq_true,decide_eq_true_eq] at h3
   omega
 · exact hl
theorem log_ws {rs : List RTx} (h : logErr rs 1 = 0) (p : Nat) : (wsOf rs p).length≤32∧∀ x ∈ wsOf rs p,wrB x = true := by
 unfold wsOf
 cases hr : rs[p]? with
 | none => simp
 | some r =>
   have h1 := (logErr_all h p r hr).1
   simp only [txB,Bool.and_eq_true,decide_eq_true_eq,List.all_eq_true] at h1
   simpa using ⟨h1.1.2,h1.2⟩
end Go.Proofs.YtcjmppjppmiggaaGreat


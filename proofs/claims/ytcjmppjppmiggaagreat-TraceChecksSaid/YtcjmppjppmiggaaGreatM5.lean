/- Lemmas and contracts of functions that statements of this seat stand on, many texts in one; each holds under the premises typed in its head. -/
import Derived.Test.YtcjmppjppmiggaaGreatLg
import Derived.Test.YtcjmppjppmiggaaGreatEv
import Derived.ProofKit
import Derived.Deep.Slices
import Derived.Deep.Fields
import Derived.ChangeSame
import Derived.Lib.SmallJoins
import Derived.SizedLaws
import Derived.Test.YtcjmppjppmiggaaGreatTg
/- XOpz: out of XOpen XOpen2 XOpenP XOpd XOpenQ (pick.py). -/
namespace Go.Proofs.YtcjmppjppmiggaaGreat
open Go.RowKit
set_option linter.unusedVariables false
set_option linter.unusedSimpArgs false

section
open Go.ChangeShapes Go.WideShapes Go.Deep

theorem list_of {α : Type} {Q : Nat→α→Prop} : ∀ n,(∀ i,i < n→∃ x,Q i x)→∃ l : List α,l.length = n∧∀ i x,l[i]? = some x→Q i x
 | 0,_ => ⟨[],rfl,by simp⟩
 | n+1,h => by
   obtain ⟨l,hl,hQ⟩ := list_of n fun i hi => h i (by omega)
   obtain ⟨x,hx⟩ := h n (by omega)
   refine ⟨l ++ [x],by simp [hl],fun i y hy => ?_⟩
   rw [List.getElem?_append] at hy
   split at hy
   · exact hQ i y hy
   · rename_i hi
     have : i = n := by
      have := (List.getElem?_eq_some_iff.1 hy).1
      simp at this; omega
     subst this
     simp [hl] at hy
     exact hy ▸ hx

theorem spot_add {a : Addr} (h : (a.add 0).spot = none) : ∃ b off,a = ⟨b,off,none⟩ := by
 obtain ⟨b,off,s⟩ := a
 have : s = none := by simpa [Addr.add] using h
 exact ⟨b,off,by rw [this]⟩

end
section
open Go.ChangeShapes Go.WideShapes Go.Deep

variable {H : Type} {enc : TypeId × Value→H} {P : Program} {w : World} {base : Nat} {spare : Nat→Bool} {held : Bool}
theorem open_slice_fields {t e : TypeId} {fs : Array Field} {fuel : Nat} {cs : List Value} {x : DataW H × List MemPlace} (ht : P.underlying t = some (.slice e)) (he : P.underlying e = some (.struct fs))
    (hone : oneCellFields P fs = true) (hC : P.cellsOf e = fs.size) (h : DataW.trod enc P w base spare held fuel t cs = some x) :
    (cs = [.slice none 0 0]∧x = (.nil,[])) ∨
    ∃ (a : Addr) (len cap m : Nat) (D : Nat→DataW H) (Pl : Nat→List MemPlace),cs = [.slice (some a) len cap]∧base≤a.block∧len≤cap∧cap≤maxLen∧m = (if spare a.block then cap else len) ∧
     x = (.slice ((List.range len).map D) ((List.range (m - len)).map fun j => D (len+j)),MemPlace.row a (m * fs.size) ++ (List.range m).flatMap Pl) ∧
     ∀ i,i < m→∃ (ys : List (DataW H × List MemPlace)) (n : Nat),D i = .agg (ys.map (·.1))∧Pl i = ys.flatMap (·.2)∧ys.length = fs.size ∧
      ∀ (j : Nat) (f : Field),fs[j]? = some f→∃ (v : Value) (y : DataW H × List MemPlace),w.cell? (a.add (i * fs.size+j)) = some v∧ys[j]? = some y∧DataW.trod enc P w base spare held n f.type [v] = some y := by
 rcases open_slice ht h with h0 | ⟨a,len,cap,m,n,D,Pl,hcs,hb,hl,hm,hmm,hx,hi⟩
 · exact .inl h0
 · refine .inr ⟨a,len,cap,m,D,Pl,hcs,hb,hl,hm,hmm,by rw [hC] at hx; exact hx,fun i him => ?_⟩
   obtain ⟨cs',hc,ht'⟩ := hi i him
   rw [hC] at hc
   obtain ⟨ys,n',hn',hy,hlen,hyl,hf⟩ := DataW.trod_struct he ht'
   obtain ⟨_,hcl,hat⟩ := World.cells?_some hc
   simp only [Prod.mk.injEq] at hy
   refine ⟨ys,n',hy.1,hy.2,hyl,fun j f hj => ?_⟩
   obtain ⟨ho,hk⟩ := hone_of hone j f hj
   have hjl : j < fs.size := (Array.getElem?_eq_some_iff.1 hj).1
   have hcell := hat j hjl
   have hv : cs'[j]? = some (cs'[j]'(by omega)) := List.getElem?_eq_getElem (by omega)
   have h1 := hf j f hj
   rw [ho,hk] at h1
   have hone' : (cs'.drop j).take 1 = [cs'[j]'(by omega)] := by
    rw [List.drop_eq_getElem_cons (by omega)]
    rfl
   rw [hone'] at h1
   have hys : ys[j]? = some (ys[j]'(by omega)) := List.getElem?_eq_getElem (by omega)
   refine ⟨_,_,?_,hys,h1.trans hys⟩
   rw [← Go.Deep.add_add,hcell,hv]

theorem shape_slice {t e : TypeId} {fuel : Nat} {v : Value} {x : DataW H × List MemPlace} (ht : P.underlying t = some (.slice e)) (h : DataW.trod enc P w base spare held fuel t [v] = some x) : ∃ A len cap,v = .slice A len cap := by
 rcases open_slice ht h with ⟨hcs,-⟩ | ⟨a,len,cap,m,n,D,Pl,hcs,-⟩
 · simp at hcs; exact ⟨_,_,_,hcs⟩
 · simp at hcs; exact ⟨_,_,_,hcs⟩
end
section
open Go.ChangeShapes Go.WideShapes Go.Deep

theorem weightsAll_mem {H : Type} {P : Program} {e : TypeId} : ∀ {l : List (DataW H)} {d : DataW H},d ∈ l→∀ n ∈ d.weights P e,n ∈ DataW.weightsAll P e l
 | d' :: r,d,hd,n,hn => by
   simp only [DataW.weightsAll,List.mem_append]
   rcases List.mem_cons.1 hd with rfl | h
   · exact Or.inl hn
   · exact Or.inr (weightsAll_mem h n hn)
def Wt {H : Type} (P : Program) (t : TypeId) (d : DataW H) : Prop := ∀ n ∈ d.weights P t,n≤reachBytes
theorem wt_arg {H : Type} {P : Program} {ts : List TypeId} {ds : List (DataW H)} (h : (DataW.weightsEach P ts ds).all (·≤reachBytes) = true) {j : Nat} {t : TypeId} {d : DataW H} (ht : ts[j]? = some t) (hd : ds[j]? = some d) : Wt P t d :=
 fun n hn => by simpa using List.all_eq_true.1 h _ (DataW.weights_mem_each ht hd n hn)
theorem wt_field {H : Type} {P : Program} {t : TypeId} {fs : Array Field} {ys : List (DataW H)} (hu : P.underlying t = some (.struct fs)) (h : Wt P t (.agg ys)) {j : Nat} {f : Field} {y : DataW H} (hf : fs[j]? = some f) (hy : ys[j]? = some y) : Wt P f.type y :=
 fun n hn => h n (by
  simp only [DataW.weights,hu]
  exact DataW.weights_mem_each (j := j) (by rw [List.getElem?_map,Array.getElem?_toList,hf]; rfl) hy n hn)
theorem wt_elem {H : Type} {P : Program} {t e : TypeId} {es sp : List (DataW H)} (hu : P.underlying t = some (.slice e)) (h : Wt P t (.slice es sp)) {d : DataW H} (hd : d ∈ es) : Wt P e d :=
 fun n hn => h n (by
  simp only [DataW.weights,hu,List.mem_cons,List.mem_append]
  exact Or.inr (Or.inl (weightsAll_mem hd n hn)))
theorem wt_slice {H : Type} {P : Program} {t e : TypeId} {es sp : List (DataW H)} (hu : P.underlying t = some (.slice e)) (h : Wt P t (.slice es sp)) : (es.length+sp.length) * P.bytesOf e≤reachBytes :=
 h _ (by simp [DataW.weights,hu])

end
section
open Go.ChangeShapes Go.WideShapes Go.Deep

variable {H : Type} {enc : TypeId × Value→H} {P : Program} {w : World} {base : Nat} {spare : Nat→Bool} {held : Bool}
theorem open_row2 {α : Type} {cells : α→List Value} {Q : α→Prop} {t e : TypeId} {fs : Array Field} {fuel : Nat} {A : Option Addr} {len cap : Nat} {x : DataW H × List MemPlace} (ht : P.underlying t = some (.slice e)) (he : P.underlying e = some (.struct fs))
    (hone : oneCellFields P fs = true) (hC : P.cellsOf e = fs.size) (h0 : 0 < fs.size)
    (hel : ∀ (g : Nat→Value) (n : Nat),(∀ (j : Nat) (f : Field),fs[j]? = some f→∃ y,DataW.trod enc P w base spare held n f.type [g j] = some y∧Wt P f.type y.1)→∃ x,Q x∧(cells x).length = fs.size∧∀ (j : Nat) (u : Value),(cells x)[j]? = some u→g j = u)
    (h : DataW.trod enc P w base spare held fuel t [.slice A len cap] = some x) (hwt : Wt P t x.1) :
    ∃ xs,RowAt cells fs.size w w.heap.size A len xs∧(∀ x ∈ xs,Q x)∧len≤cap∧cap≤maxLen∧(A = none→cap = 0)∧len * P.bytesOf e≤reachBytes := by
 rcases open_slice_fields ht he hone hC h with ⟨hcs,-⟩ | ⟨a,len',cap',m,D,Pl,hcs,hb,hl,hm,hmm,hx,hi⟩
 · simp at hcs
   obtain ⟨rfl,rfl,rfl⟩ := hcs
   exact ⟨[],RowAt.nil_,by simp,Nat.le_refl _,by simp [maxLen],fun _ => rfl,by simp⟩
 · simp at hcs
   obtain ⟨rfl,rfl,rfl⟩ := hcs
   have hlm : len≤m := by rw [hmm]; split <;> omega
   rw [hx] at hwt
   have hby : len * P.bytesOf e≤reachBytes := by
    have := wt_slice ht hwt
    simp only [List.length_map,List.length_range] at this
    exact Nat.le_trans (Nat.mul_le_mul_right _ (by omega)) this
   have hall : ∀ i,i < len→∃ x,Q x∧(cells x).length = fs.size∧∀ (j : Nat) (u : Value),(cells x)[j]? = some u→w.cell? (a.add (i * fs.size+j)) = some u := by
    intro i hil
    obtain ⟨ys,n,hD,-,-,hf⟩ := hi i (by omega)
    have hwi : Wt P e (D i) := wt_elem ht hwt (List.mem_map.2 ⟨i,List.mem_range.2 hil,rfl⟩)
    rw [hD] at hwi
    have hg : ∀ j,∃ v,∀ f : Field,fs[j]? = some f→w.cell? (a.add (i * fs.size+j)) = some v∧∃ y,DataW.trod enc P w base spare held n f.type [v] = some y∧Wt P f.type y.1 := by
     intro j
     cases hj : fs[j]? with
     | none => exact ⟨default,fun f hf => by cases hf⟩
     | some f =>
       obtain ⟨v,y,h1,hy,h2⟩ := hf j f hj
       exact ⟨v,fun f' hf' => by injection hf' with e; subst e; exact ⟨h1,y,h2,wt_field he hwi hj (by rw [List.getElem?_map,hy]; rfl)⟩⟩
    obtain ⟨g,hg⟩ := Classical.axiomOfChoice hg
    obtain ⟨x,hQ,hlen,hx⟩ := hel g n fun j f hj => (hg j f hj).2
    refine ⟨x,hQ,hlen,fun j u hu => ?_⟩
    have hj : j < fs.size := by rw [← hlen]; exact (List.getElem?_eq_some_iff.1 hu).1
    rw [← hx j u hu]
    exact (hg j _ (Array.getElem?_eq_getElem hj)).1
   obtain ⟨xs,hxl,hxs⟩ := list_of (Q := fun i x => Q x∧(cells x).length = fs.size∧∀ (j : Nat) (u : Value),(cells x)[j]? = some u→w.cell? (a.add (i * fs.size+j)) = some u) len hall
   refine ⟨xs,⟨hxl,fun hpos => ?_⟩,fun x hx => ?_,hl,hm,(fun h => by cases h),hby⟩
   · have hx0 : xs[0]? = some (xs[0]'(by omega)) := List.getElem?_eq_getElem (by omega)
     obtain ⟨-,hl0,hc0⟩ := hxs 0 _ hx0
     have hu0 := List.getElem?_eq_getElem (l := cells xs[0]) (i := 0) (by omega)
     have hcell0 := hc0 0 _ hu0
     rw [Nat.zero_mul,Nat.zero_add] at hcell0
     obtain ⟨b,off,rfl⟩ := spot_add (World.cell?_spot hcell0)
     refine ⟨b,off,rfl,?_,fun i x hx j u hu => ?_⟩
     · have := World.block_lt_of_cell? w _ hcell0
       simpa [Addr.add] using this
     · have := (hxs i x hx).2.2 j u hu
       rwa [Addr.add_lit,← Nat.add_assoc] at this
   · obtain ⟨i,hi⟩ := List.getElem?_of_mem hx
     exact (hxs i x hi).1

theorem fs_types {fs : Array Field} {ts : List TypeId} (hfs : fs.toList.map (·.type) = ts) : fs.size = ts.length∧∀ (j : Nat) (f : Field),fs[j]? = some f→ts[j]? = some f.type := by
 subst hfs
 exact ⟨by simp,fun j f hj => by rw [List.getElem?_map,Array.getElem?_toList,hj]; rfl⟩
theorem fs_at {fs : Array Field} {ts : List TypeId} (hfs : fs.toList.map (·.type) = ts) (j : Nat) {t : TypeId} (ht : ts[j]? = some t) : ∃ f,fs[j]? = some f∧f.type = t := by
 obtain ⟨h1,h2⟩ := fs_types hfs
 have hj : j < fs.size := by rw [h1]; exact (List.getElem?_eq_some_iff.1 ht).1
 have e : fs[j]? = some fs[j] := Array.getElem?_eq_getElem hj
 exact ⟨_,e,by have := h2 j _ e; rw [ht] at this; exact (Option.some.inj this).symm⟩

theorem wt_string {t : TypeId} {s : ByteArray} (h : Wt P t (.lit (.string s.data.toList) : DataW H)) : s.size≤140737488351232 := by
 have := h s.data.toList.length (by simp [DataW.weights])
 simp [reachBytes] at this
 exact this
end
section
open Go.ChangeShapes Go.WideShapes Go.Deep
variable {H : Type} {enc : TypeId × Value→H} {P : Program} {w : World} {base : Nat} {spare : Nat→Bool} {held : Bool}
theorem fld_at {fs : Array Field} {l : List (TypeId × Nat)} (hfs : fs.toList.map (fun f => (f.type,f.offset)) = l) (j : Nat) {t : TypeId} {o : Nat} (ht : l[j]? = some (t,o)) : ∃ f,fs[j]? = some f∧f.type = t∧f.offset = o := by
 subst hfs
 rw [List.getElem?_map,Array.getElem?_toList] at ht
 cases hj : fs[j]? with
 | none => rw [hj] at ht; cases ht
 | some f => rw [hj] at ht; simp at ht; exact ⟨f,rfl,ht.1,ht.2⟩
end
section
open Go.ChangeShapes Go.WideShapes Go.Deep

variable {H : Type} {enc : TypeId × Value→H} {P : Program} {w : World} {base : Nat} {spare : Nat→Bool} {held : Bool}
theorem open_es {t e ti tk : TypeId} {fs : Array Field} {fuel : Nat} {A : Option Addr} {len cap : Nat} {x : DataW H × List MemPlace} (ht : P.underlying t = some (.slice e)) (he : P.underlying e = some (.struct fs))
    (hone : oneCellFields P fs = true) (hC : P.cellsOf e = 6) (hB : P.bytesOf e = 48) (hfs : fs.toList.map (·.type) = [ti,tk,ti,ti,ti,ti]) (hti : P.underlying ti = some (.int .i64)) (htk : P.underlying tk = some (.int .u8))
    (h : DataW.trod enc P w base spare held fuel t [.slice A len cap] = some x) (hwt : Wt P t x.1) : ∃ es,EsAt w w.heap.size A len es∧len≤cap∧len * 48≤140737488351232∧(∀ x ∈ es,(Lit.int .u8 x.kind).wf = true∧(Lit.int .i64 x.task).wf = true∧(Lit.int .i64 x.number).wf = true∧(Lit.int .i64 x.shard).wf = true∧(Lit.int .i64 x.count).wf = true∧(Lit.int .i64 x.mark).wf = true) := by
 have hsz : fs.size = 6 := (fs_types hfs).1
 obtain ⟨f0,e0,g0⟩ := fs_at hfs 0 rfl
 obtain ⟨f1,e1,g1⟩ := fs_at hfs 1 rfl
 obtain ⟨f2,e2,g2⟩ := fs_at hfs 2 rfl
 obtain ⟨f3,e3,g3⟩ := fs_at hfs 3 rfl
 obtain ⟨f4,e4,g4⟩ := fs_at hfs 4 rfl
 obtain ⟨f5,e5,g5⟩ := fs_at hfs 5 rfl
 obtain ⟨xs,h1,h2,h3,h4,h5,h6⟩ := open_row2 (cells := Ev.cells) (Q := fun x : Ev => (Lit.int .u8 x.kind).wf = true∧(Lit.int .i64 x.task).wf = true∧(Lit.int .i64 x.number).wf = true∧(Lit.int .i64 x.shard).wf = true∧(Lit.int .i64 x.count).wf = true∧(Lit.int .i64 x.mark).wf = true) ht he hone (by rw [hC,hsz]) (by omega) (fun g n hg => by
  obtain ⟨y0,hy0,-⟩ := hg 0 _ e0
  obtain ⟨y1,hy1,-⟩ := hg 1 _ e1
  obtain ⟨y2,hy2,-⟩ := hg 2 _ e2
  obtain ⟨y3,hy3,-⟩ := hg 3 _ e3
  obtain ⟨y4,hy4,-⟩ := hg 4 _ e4
  obtain ⟨y5,hy5,-⟩ := hg 5 _ e5
  rw [g0] at hy0
  rw [g1] at hy1
  rw [g2] at hy2
  rw [g3] at hy3
  rw [g4] at hy4
  rw [g5] at hy5
  obtain ⟨a,ha,-,wa⟩ := DataW.trod_int hti hy0
  obtain ⟨b,hb,-,wb⟩ := DataW.trod_int htk hy1
  obtain ⟨c,hc,-,wc⟩ := DataW.trod_int hti hy2
  obtain ⟨d,hd,-,wd⟩ := DataW.trod_int hti hy3
  obtain ⟨p,hp,-,wp⟩ := DataW.trod_int hti hy4
  obtain ⟨q,hq,-,wq⟩ := DataW.trod_int hti hy5
  simp at ha hb hc hd hp hq
  refine ⟨⟨a,b,c,d,p,q⟩,⟨wb,wa,wc,wd,wp,wq⟩,hsz.symm,fun j u hu => ?_⟩
  match j,hu with
  | 0,hu => simp [Ev.cells] at hu; rw [ha,hu]
  | 1,hu => simp [Ev.cells] at hu; rw [hb,hu]
  | 2,hu => simp [Ev.cells] at hu; rw [hc,hu]
  | 3,hu => simp [Ev.cells] at hu; rw [hd,hu]
  | 4,hu => simp [Ev.cells] at hu; rw [hp,hu]
  | 5,hu => simp [Ev.cells] at hu; rw [hq,hu]) h hwt
 rw [hsz] at h1
 rw [hB] at h6
 exact ⟨xs,h1,h3,h6,h2⟩
end
section
open Go.ChangeShapes Go.WideShapes Go.Deep
variable {H : Type} {enc : TypeId × Value→H} {P : Program} {w : World} {base : Nat} {spare : Nat→Bool} {held : Bool}
theorem open_is2 {t e : TypeId} {fuel : Nat} {A : Option Addr} {len cap : Nat} {x : DataW H × List MemPlace} (ht : P.underlying t = some (.slice e)) (he : P.underlying e = some (.int .i64)) (hC : P.cellsOf e = 1) (hB : P.bytesOf e = 8)
    (h : DataW.trod enc P w base spare held fuel t [.slice A len cap] = some x) (hwt : Wt P t x.1) : ∃ l : List Int,RowAt Icell 1 w w.heap.size A len l∧len≤17592186043904∧(A = none→cap = 0) := by
 rcases open_ints ht he hC h with ⟨hcs,hx⟩ | ⟨a,len',cap',zs,hcs,hb,hl,hm,hz,hx,hcell,hwz⟩
 · simp at hcs
   obtain ⟨rfl,rfl,rfl⟩ := hcs
   exact ⟨[],RowAt.nil_,by simp,fun _ => rfl⟩
 · simp at hcs
   obtain ⟨rfl,rfl,rfl⟩ := hcs
   have hby : len * 8≤140737488351232 := by
    rw [hx] at hwt
    have := wt_slice ht hwt
    rw [hB] at this
    simp only [lits,List.length_map,List.length_take,List.length_drop,reachBytes] at this
    split at hz <;> omega
   have hlz : len≤zs.length := by rw [hz]; split <;> omega
   refine ⟨zs.take len,⟨by simp; omega,fun hpos => ?_⟩,by omega,fun h => by cases h⟩
   have h0 := hcell 0 (by omega)
   obtain ⟨b,off,rfl⟩ := spot_add (World.cell?_spot h0)
   refine ⟨b,off,rfl,by simpa [Addr.add] using World.block_lt_of_cell? w _ h0,fun i x hx j u hu => ?_⟩
   have hi : i < len := by have := (List.getElem?_eq_some_iff.1 hx).1; simp at this; omega
   have h1 := hcell i (by omega)
   rw [List.getElem?_take_of_lt hi] at hx
   match j,hu with
   | 0,hu =>
     simp [Icell] at hu
     rw [Addr.add_lit] at h1
     rw [show zs.getD i 0 = x by simp [List.getD,hx]] at h1
     rw [Nat.mul_one,Nat.add_zero,← hu]
     exact h1
end
end Go.Proofs.YtcjmppjppmiggaaGreat

/- What trace.Check takes (a configuration, a log, where it began, events), opened. Over any program. -/

namespace Go.Proofs.YtcjmppjppmiggaaGreat
open Go.RowKit
set_option linter.unusedVariables false
set_option linter.unusedSimpArgs false

open Go.ChangeShapes Go.WideShapes Go.Deep
section
variable {H : Type} {enc : TypeId × Value→H} {P : Program} {w : World} {base : Nat} {spare : Nat→Bool} {held : Bool}
theorem open_fields {t : TypeId} {fs : Array Field} {l : List (TypeId × Nat)} {fuel : Nat} {cs : List Value} {x : DataW H × List MemPlace} (hr : P.underlying t = some (.struct fs)) (hfs : fs.toList.map (fun f => (f.type,f.offset)) = l)
    (h : DataW.trod enc P w base spare held fuel t cs = some x) (hwt : Wt P t x.1) : cs.length = P.cellsOf t∧∃ n,∀ (j : Nat) (t' : TypeId) (o : Nat),l[j]? = some (t',o)→∃ y,DataW.trod enc P w base spare held n t' ((cs.drop o).take (P.cellsOf t')) = some y∧Wt P t' y.1 := by
 obtain ⟨ys,n,-,hx,hcl,hyl,hf⟩ := DataW.trod_struct hr h
 rw [hx] at hwt
 refine ⟨hcl,n,fun j t' o hj => ?_⟩
 obtain ⟨f,e,g,o'⟩ := fld_at hfs j hj
 subst g o'
 have hjl : j < ys.length := by rw [hyl]; exact (Array.getElem?_eq_some_iff.1 e).1
 have hy : ys[j]? = some ys[j] := List.getElem?_eq_getElem hjl
 exact ⟨ys[j],(hf j f e).trans hy,wt_field hr hwt e (by rw [List.getElem?_map,hy]; rfl)⟩
theorem open_cfgc {tc ti : TypeId} {fs : Array Field} {fuel : Nat} {cs : List Value} {x : DataW H × List MemPlace} (hr : P.underlying tc = some (.struct fs)) (hC : P.cellsOf tc = 4) (hfs : fs.toList.map (fun f => (f.type,f.offset)) = [(ti,0),(ti,1),(ti,2),(ti,3)])
    (hti : P.underlying ti = some (.int .i64)) (hci : P.cellsOf ti = 1) (h : DataW.trod enc P w base spare held fuel tc cs = some x) (hwt : Wt P tc x.1) : ∃ a b c d : Int,cs = [.int .i64 a,.int .i64 b,.int .i64 c,.int .i64 d]∧(Lit.int .i64 a).wf = true∧(Lit.int .i64 b).wf = true∧(Lit.int .i64 c).wf = true∧(Lit.int .i64 d).wf = true := by
 obtain ⟨hl,n,hf⟩ := open_fields hr hfs h hwt
 rw [hC] at hl
 obtain ⟨y0,h0,-⟩ := hf 0 _ _ rfl
 obtain ⟨y1,h1,-⟩ := hf 1 _ _ rfl
 obtain ⟨y2,h2,-⟩ := hf 2 _ _ rfl
 obtain ⟨y3,h3,-⟩ := hf 3 _ _ rfl
 rw [hci] at h0 h1 h2 h3
 obtain ⟨a,ha,-,wa⟩ := DataW.trod_int hti h0
 obtain ⟨b,hb,-,wb⟩ := DataW.trod_int hti h1
 obtain ⟨c,hc,-,wc⟩ := DataW.trod_int hti h2
 obtain ⟨d,hd,-,wd⟩ := DataW.trod_int hti h3
 match cs,hl with
 | [a0,a1,a2,a3],_ =>
   simp at ha hb hc hd
   exact ⟨a,b,c,d,by simp [ha,hb,hc,hd],wa,wb,wc,wd⟩
end
end Go.Proofs.YtcjmppjppmiggaaGreat

/- XOpv: out of XOpenH (pick.py). -/
namespace Go.Proofs.YtcjmppjppmiggaaGreat
open Go.RowKit
set_option linter.unusedVariables false
set_option linter.unusedSimpArgs false

section
open Go.ChangeShapes Go.WideShapes Go.Deep
variable {H : Type} {enc : TypeId × Value→H} {P : Program} {w : World} {base : Nat} {spare : Nat→Bool} {held : Bool}
theorem open_vers {t e ti ts tb : TypeId} {fs : Array Field} {fuel : Nat} {A : Option Addr} {len cap : Nat} {x : DataW H × List MemPlace} (ht : P.underlying t = some (.slice e)) (he : P.underlying e = some (.struct fs))
    (hone : oneCellFields P fs = true) (hC : P.cellsOf e = 3) (hB : P.bytesOf e = 32) (hfs : fs.toList.map (·.type) = [ti,ts,tb]) (hti : P.underlying ti = some (.int .i64)) (hts : P.underlying ts = some .string) (htb : P.underlying tb = some .bool)
    (h : DataW.trod enc P w base spare held fuel t [.slice A len cap] = some x) (hwt : Wt P t x.1) : ∃ vs : List Ver,VsAt w w.heap.size A len vs∧len≤cap∧len≤4398046510976∧(A = none→cap = 0) := by
 have hsz : fs.size = 3 := (fs_types hfs).1
 obtain ⟨f0,e0,g0⟩ := fs_at hfs 0 rfl
 obtain ⟨f1,e1,g1⟩ := fs_at hfs 1 rfl
 obtain ⟨f2,e2,g2⟩ := fs_at hfs 2 rfl
 obtain ⟨xs,h1,h2,h3,h4,h5,h6⟩ := open_row2 (cells := Ver.cells) (Q := fun _ => True) ht he hone (by rw [hC,hsz]) (by omega) (fun g n hg => by
  obtain ⟨y0,hy0,-⟩ := hg 0 _ e0
  obtain ⟨y1,hy1,-⟩ := hg 1 _ e1
  obtain ⟨y2,hy2,-⟩ := hg 2 _ e2
  rw [g0] at hy0
  rw [g1] at hy1
  rw [g2] at hy2
  obtain ⟨k,hk,-,-⟩ := DataW.trod_int hti hy0
  obtain ⟨v,hv,-,-⟩ := DataW.trod_string hts hy1
  obtain ⟨d,hd,-⟩ := DataW.trod_bool htb hy2
  simp at hk hv hd
  refine ⟨⟨k,v,d⟩,trivial,hsz.symm,fun j u hu => ?_⟩
  match j,hu with
  | 0,hu => simp [Ver.cells] at hu; rw [hk,hu]
  | 1,hu => simp [Ver.cells] at hu; rw [hv,hu]
  | 2,hu => simp [Ver.cells] at hu; rw [hd,hu]) h hwt
 rw [hsz] at h1
 rw [hB] at h6
 exact ⟨xs,h1,h3,by simp [reachBytes] at h6; omega,h5⟩
theorem open_heldsl2 {t e ts tv e2 ti tb : TypeId} {fs gs : Array Field} {fuel : Nat} {A : Option Addr} {len cap : Nat} {x : DataW H × List MemPlace} (ht : P.underlying t = some (.slice e)) (he : P.underlying e = some (.struct fs))
    (hone : oneCellFields P fs = true) (hC : P.cellsOf e = 2) (hB : P.bytesOf e = 40) (hfs : fs.toList.map (·.type) = [ts,tv]) (hts : P.underlying ts = some .string) (htv : P.underlying tv = some (.slice e2))
    (he2 : P.underlying e2 = some (.struct gs)) (hone2 : oneCellFields P gs = true) (hC2 : P.cellsOf e2 = 3) (hB2 : P.bytesOf e2 = 32) (hgs : gs.toList.map (·.type) = [ti,ts,tb]) (hti : P.underlying ti = some (.int .i64)) (htb : P.underlying tb = some .bool)
    (h : DataW.trod enc P w base spare held fuel t [.slice A len cap] = some x) (hwt : Wt P t x.1) : ∃ hs : List HR,HdsAt w w.heap.size A len hs∧len≤cap∧len≤3518437208780∧(∀ h ∈ hs,h.len≤4398046510976)∧(A = none→cap = 0) := by
 have hsz : fs.size = 2 := (fs_types hfs).1
 obtain ⟨f0,e0,g0⟩ := fs_at hfs 0 rfl
 obtain ⟨f1,e1,g1⟩ := fs_at hfs 1 rfl
 obtain ⟨xs,h1,h2,h3,h4,h5,h6⟩ := open_row2 (cells := HR.cells) (Q := fun x : HR => (VsAt w w.heap.size x.A x.len x.vs∧x.len≤x.cap∧(x.A = none→x.cap = 0))∧x.len≤4398046510976) ht he hone (by rw [hC,hsz]) (by omega) (fun g n hg => by
  obtain ⟨y0,hy0,-⟩ := hg 0 _ e0
  obtain ⟨y1,hy1,w1⟩ := hg 1 _ e1
  rw [g0] at hy0
  rw [g1] at hy1 w1
  obtain ⟨k,hk,-,-⟩ := DataW.trod_string hts hy0
  obtain ⟨A',len',cap',hsl⟩ := shape_slice htv hy1
  rw [hsl] at hy1
  obtain ⟨vs,v1,v2,v3,v4⟩ := open_vers htv he2 hone2 hC2 hB2 hgs hti hts htb hy1 w1
  simp at hk
  refine ⟨⟨k,A',len',cap',vs⟩,⟨⟨v1,v2,v4⟩,v3⟩,hsz.symm,fun j u hu => ?_⟩
  match j,hu with
  | 0,hu => simp [HR.cells] at hu; rw [hk,hu]
  | 1,hu => simp [HR.cells] at hu; rw [hsl,hu]) h hwt
 rw [hsz] at h1
 rw [hB] at h6
 exact ⟨xs,⟨h1,fun x hx => (h2 x hx).1⟩,h3,by simp [reachBytes] at h6; omega,fun x hx => (h2 x hx).2,h5⟩
end
end Go.Proofs.YtcjmppjppmiggaaGreat

/- What trace.Check takes, opened whole. (Printed by gen_opw.py.) Over any program. -/

namespace Go.Proofs.YtcjmppjppmiggaaGreat
open Go.RowKit
set_option linter.unusedVariables false
set_option linter.unusedSimpArgs false

open Go.ChangeShapes Go.WideShapes Go.Deep
section
variable {H : Type} {enc : TypeId × Value→H} {P : Program} {w : World} {base : Nat} {spare : Nat→Bool} {held : Bool}
theorem open_ws3 {t e ts tb : TypeId} {fs : Array Field} {fuel : Nat} {A : Option Addr} {len cap : Nat} {x : DataW H × List MemPlace} (ht : P.underlying t = some (.slice e)) (he : P.underlying e = some (.struct fs))
    (hone : oneCellFields P fs = true) (hC : P.cellsOf e = 3) (hB : P.bytesOf e = 40) (hfs : fs.toList.map (·.type) = [ts,ts,tb]) (hts : P.underlying ts = some .string) (htb : P.underlying tb = some .bool)
    (h : DataW.trod enc P w base spare held fuel t [.slice A len cap] = some x) (hwt : Wt P t x.1) : ∃ ws,WsAt w w.heap.size A len ws∧len≤cap∧len * 40≤140737488351232∧(∀ x ∈ ws,x.key.size≤140737488351232∧x.val.size≤140737488351232)∧(A = none→cap = 0) := by
 have hsz : fs.size = 3 := (fs_types hfs).1
 obtain ⟨f0,e0,g0⟩ := fs_at hfs 0 rfl
 obtain ⟨f1,e1,g1⟩ := fs_at hfs 1 rfl
 obtain ⟨f2,e2,g2⟩ := fs_at hfs 2 rfl
 obtain ⟨xs,h1,h2,h3,h4,h5,h6⟩ := open_row2 (cells := Wr.cells) (Q := fun x : Wr => x.key.size≤140737488351232∧x.val.size≤140737488351232) ht he hone (by rw [hC,hsz]) (by omega) (fun g n hg => by
  obtain ⟨y0,hy0,w0⟩ := hg 0 _ e0
  obtain ⟨y1,hy1,w1⟩ := hg 1 _ e1
  obtain ⟨y2,hy2,-⟩ := hg 2 _ e2
  rw [g0] at hy0 w0
  rw [g1] at hy1 w1
  rw [g2] at hy2
  obtain ⟨k,hk,ek,-⟩ := DataW.trod_string hts hy0
  obtain ⟨v,hv,ev,-⟩ := DataW.trod_string hts hy1
  rw [ek] at w0
  rw [ev] at w1
  have zk := wt_string w0
  have zv := wt_string w1
  obtain ⟨d,hd,-⟩ := DataW.trod_bool htb hy2
  simp at hk hv hd
  refine ⟨⟨k,v,d⟩,⟨zk,zv⟩,hsz.symm,fun j u hu => ?_⟩
  match j,hu with
  | 0,hu => simp [Wr.cells] at hu; rw [hk,hu]
  | 1,hu => simp [Wr.cells] at hu; rw [hv,hu]
  | 2,hu => simp [Wr.cells] at hu; rw [hd,hu]) h hwt
 rw [hsz] at h1
 rw [hB] at h6
 exact ⟨xs,h1,h3,h6,h2,h5⟩
theorem open_txs3 {t e ti tw ew ts tb : TypeId} {fs fw : Array Field} {fuel : Nat} {A : Option Addr} {len cap : Nat} {x : DataW H × List MemPlace} (ht : P.underlying t = some (.slice e)) (he : P.underlying e = some (.struct fs))
    (hone : oneCellFields P fs = true) (hC : P.cellsOf e = 2) (hB : P.bytesOf e = 32) (hfs : fs.toList.map (·.type) = [ti,tw]) (hti : P.underlying ti = some (.int .i64)) (htw : P.underlying tw = some (.slice ew)) (hew : P.underlying ew = some (.struct fw))
    (honew : oneCellFields P fw = true) (hCw : P.cellsOf ew = 3) (hBw : P.bytesOf ew = 40) (hfw : fw.toList.map (·.type) = [ts,ts,tb]) (hts : P.underlying ts = some .string) (htb : P.underlying tb = some .bool)
    (h : DataW.trod enc P w base spare held fuel t [.slice A len cap] = some x) (hwt : Wt P t x.1) : ∃ rs,TxsAt w w.heap.size A len rs∧len≤cap∧len * 32≤140737488351232∧(∀ r ∈ rs,((Lit.int .i64 r.number).wf = true∧r.len≤r.cap∧(r.A = none→r.cap = 0))∧∀ x ∈ r.ws,x.key.size≤140737488351232∧x.val.size≤140737488351232) := by
 have hsz : fs.size = 2 := (fs_types hfs).1
 obtain ⟨f0,e0,g0⟩ := fs_at hfs 0 rfl
 obtain ⟨f1,e1,g1⟩ := fs_at hfs 1 rfl
 obtain ⟨xs,h1,h2,h3,h4,h5,h6⟩ := open_row2 (cells := RTx.cells) (Q := fun r : RTx => (WsAt w w.heap.size r.A r.len r.ws∧r.len * 40≤140737488351232)∧((Lit.int .i64 r.number).wf = true∧r.len≤r.cap∧(r.A = none→r.cap = 0))∧∀ x ∈ r.ws,x.key.size≤140737488351232∧x.val.size≤140737488351232) ht he hone (by rw [hC,hsz]) (by omega) (fun g n hg => by
  obtain ⟨y0,hy0,-⟩ := hg 0 _ e0
  obtain ⟨y1,hy1,w1⟩ := hg 1 _ e1
  rw [g0] at hy0
  rw [g1] at hy1 w1
  obtain ⟨k,hk,-,wk⟩ := DataW.trod_int hti hy0
  obtain ⟨A',len',cap',hv⟩ := shape_slice htw hy1
  rw [hv] at hy1
  obtain ⟨ws,hws,hlc,hl40,hwz,hnn⟩ := open_ws3 htw hew honew hCw hBw hfw hts htb hy1 w1
  simp at hk
  refine ⟨⟨k,A',len',cap',ws⟩,⟨⟨hws,hl40⟩,⟨wk,hlc,hnn⟩,hwz⟩,hsz.symm,fun j u hu => ?_⟩
  match j,hu with
  | 0,hu => simp [RTx.cells] at hu; rw [hk,hu]
  | 1,hu => simp [RTx.cells] at hu; rw [hv,hu]) h hwt
 rw [hsz] at h1
 rw [hB] at h6
 exact ⟨xs,⟨h1,fun r hr => (h2 r hr).1⟩,h3,h6,fun r hr => (h2 r hr).2⟩
theorem open_savedc3 {ts ti tl th te tst tb tw2 : TypeId} {fs : Array Field} {fuel : Nat} {cs : List Value} {x : DataW H × List MemPlace} (hr : P.underlying ts = some (.struct fs)) (hC : P.cellsOf ts = 3) (hfs : fs.toList.map (fun f => (f.type,f.offset)) = [(ti,0),(tl,1),(th,2)])
    (hti : P.underlying ti = some (.int .i64)) (hci : P.cellsOf ti = 1) (hBi : P.bytesOf ti = 8) (htl : P.underlying tl = some (.slice ti)) (hcl : P.cellsOf tl = 1) (hth : P.underlying th = some (.slice te)) (hch : P.cellsOf th = 1)
    {te2 : TypeId} {fh fv : Array Field} (heh : P.underlying te = some (.struct fh)) (honeh : oneCellFields P fh = true) (hCh : P.cellsOf te = 2) (hBh : P.bytesOf te = 40) (hfh : fh.toList.map (·.type) = [tst,tw2]) (htw2 : P.underlying tw2 = some (.slice te2)) (he2 : P.underlying te2 = some (.struct fv)) (hone2 : oneCellFields P fv = true) (hC2 : P.cellsOf te2 = 3) (hB2 : P.bytesOf te2 = 32) (hgs : fv.toList.map (·.type) = [ti,tst,tb]) (htst : P.underlying tst = some .string) (htb : P.underlying tb = some .bool)
    (h : DataW.trod enc P w base spare held fuel ts cs = some x) (hwt : Wt P ts x.1) : ∃ (m : Int) (A2 : Option Addr) (n2 c2 : Nat) (A3 : Option Addr) (n3 c3 : Nat) (by_ : List Int),cs = [.int .i64 m,.slice A2 n2 c2,.slice A3 n3 c3]∧RowAt Icell 1 w w.heap.size A2 n2 by_∧(A2 = none→c2 = 0)∧n2≤17592186043904∧(Lit.int .i64 m).wf = true∧∃ hs : List HR,HdsAt w w.heap.size A3 n3 hs∧n3≤3518437208780∧∀ h ∈ hs,h.len≤4398046510976 := by
 obtain ⟨hl,n,hf⟩ := open_fields hr hfs h hwt
 rw [hC] at hl
 obtain ⟨y0,h0,-⟩ := hf 0 _ _ rfl
 obtain ⟨y1,h1,w1⟩ := hf 1 _ _ rfl
 obtain ⟨y2,h2,w2⟩ := hf 2 _ _ rfl
 rw [hci] at h0
 rw [hcl] at h1
 rw [hch] at h2
 obtain ⟨m,hm,-,wm⟩ := DataW.trod_int hti h0
 match cs,hl with
 | [a0,a1,a2],_ =>
   have h1' : DataW.trod enc P w base spare held n tl [a1] = some y1 := h1
   have h2' : DataW.trod enc P w base spare held n th [a2] = some y2 := h2
   obtain ⟨A2,n2,c2,rfl⟩ := shape_slice htl h1'
   obtain ⟨A3,n3,c3,rfl⟩ := shape_slice hth h2'
   obtain ⟨l,g1,g2,g3⟩ := open_is2 htl hti hci hBi h1' w1
   obtain ⟨hs,q1,-,q3,q4,-⟩ := open_heldsl2 hth heh honeh hCh hBh hfh htst htw2 he2 hone2 hC2 hB2 hgs hti htb h2' w2
   simp at hm
   exact ⟨m,A2,n2,c2,A3,n3,c3,l,by simp [hm],g1,g3,g2,wm,hs,q1,q3,q4⟩
theorem open_told3 {tt tc tg tw ew tg1 ts tl th te tw2 ti tv ev tk tst tb : TypeId} {fs fc fg fw fsv fe : Array Field} {fuel : Nat} {cs : List Value} {x : DataW H × List MemPlace} (hr : P.underlying tt = some (.struct fs)) (hC : P.cellsOf tt = 9) (hfs : fs.toList.map (fun f => (f.type,f.offset)) = [(tc,0),(tg,4),(ts,5),(tv,8)])
    (hc : P.underlying tc = some (.struct fc)) (hCc : P.cellsOf tc = 4) (hfc : fc.toList.map (fun f => (f.type,f.offset)) = [(ti,0),(ti,1),(ti,2),(ti,3)]) (hti : P.underlying ti = some (.int .i64)) (hci : P.cellsOf ti = 1) (hBi : P.bytesOf ti = 8)
    (htg : P.underlying tg = some (.slice tg1)) (hcg : P.cellsOf tg = 1) (hg1 : P.underlying tg1 = some (.struct fg)) (hone : oneCellFields P fg = true) (hCg : P.cellsOf tg1 = 2) (hBg : P.bytesOf tg1 = 32) (hfg : fg.toList.map (·.type) = [ti,tw]) (htw : P.underlying tw = some (.slice ew)) (hew : P.underlying ew = some (.struct fw))
    (honew : oneCellFields P fw = true) (hCw : P.cellsOf ew = 3) (hBw : P.bytesOf ew = 40) (hfw : fw.toList.map (·.type) = [tst,tst,tb]) (htst : P.underlying tst = some .string) (htb : P.underlying tb = some .bool)
    (hs : P.underlying ts = some (.struct fsv)) (hCs : P.cellsOf ts = 3) (hfsv : fsv.toList.map (fun f => (f.type,f.offset)) = [(ti,0),(tl,1),(th,2)]) (htl : P.underlying tl = some (.slice ti)) (hcl : P.cellsOf tl = 1) (hth : P.underlying th = some (.slice te)) (hch : P.cellsOf th = 1)
    (htv : P.underlying tv = some (.slice ev)) (hcv : P.cellsOf tv = 1) (hev : P.underlying ev = some (.struct fe)) (honee : oneCellFields P fe = true) (hCe : P.cellsOf ev = 6) (hBe : P.bytesOf ev = 48) (hfe : fe.toList.map (·.type) = [ti,tk,ti,ti,ti,ti]) (htk : P.underlying tk = some (.int .u8))
    {te2 : TypeId} {fh fv : Array Field} (heh : P.underlying te = some (.struct fh)) (honeh : oneCellFields P fh = true) (hCh : P.cellsOf te = 2) (hBh : P.bytesOf te = 40) (hfh : fh.toList.map (·.type) = [tst,tw2]) (htw2 : P.underlying tw2 = some (.slice te2)) (he2 : P.underlying te2 = some (.struct fv)) (hone2 : oneCellFields P fv = true) (hC2 : P.cellsOf te2 = 3) (hB2 : P.bytesOf te2 = 32) (hgs : fv.toList.map (·.type) = [ti,tst,tb])
    (h : DataW.trod enc P w base spare held fuel tt cs = some x) (hwt : Wt P tt x.1) :
    ∃ (a b c d : Int) (A : Option Addr) (len cap : Nat) (m : Int) (A2 : Option Addr) (n2 c2 : Nat) (A3 : Option Addr) (n3 c3 : Nat) (A4 : Option Addr) (n4 c4 : Nat) (rs : List RTx) (by_ : List Int) (l : List Ev),
     cs = [.int .i64 a,.int .i64 b,.int .i64 c,.int .i64 d,.slice A len cap,.int .i64 m,.slice A2 n2 c2,.slice A3 n3 c3,.slice A4 n4 c4] ∧
     TxsAt w w.heap.size A len rs∧len * 32≤140737488351232∧(∀ r ∈ rs,r.len≤r.cap)∧(∀ r ∈ rs,r.A = none→r.cap = 0)∧(∃ hs : List HR,HdsAt w w.heap.size A3 n3 hs∧n3≤3518437208780∧∀ h ∈ hs,h.len≤4398046510976)∧RowAt Icell 1 w w.heap.size A2 n2 by_∧(A2 = none→c2 = 0)∧n2≤17592186043904∧EsAt w w.heap.size A4 n4 l∧n4≤c4∧n4 * 48≤140737488351232 ∧
     ((Lit.int .i64 a).wf = true∧(Lit.int .i64 b).wf = true∧(Lit.int .i64 c).wf = true∧(Lit.int .i64 d).wf = true∧(Lit.int .i64 m).wf = true)∧∀ x ∈ l,(Lit.int .u8 x.kind).wf = true∧(Lit.int .i64 x.task).wf = true∧(Lit.int .i64 x.number).wf = true∧(Lit.int .i64 x.shard).wf = true∧(Lit.int .i64 x.count).wf = true∧(Lit.int .i64 x.mark).wf = true := by
 obtain ⟨hlen,n,hf⟩ := open_fields hr hfs h hwt
 rw [hC] at hlen
 obtain ⟨y0,h0,w0⟩ := hf 0 _ _ rfl
 obtain ⟨y1,h1,w1⟩ := hf 1 _ _ rfl
 obtain ⟨y2,h2,w2⟩ := hf 2 _ _ rfl
 obtain ⟨y3,h3,w3⟩ := hf 3 _ _ rfl
 rw [hCc] at h0
 rw [hcg] at h1
 rw [hCs] at h2
 rw [hcv] at h3
 match cs,hlen with
 | [a0,a1,a2,a3,a4,a5,a6,a7,a8],_ =>
   have h1' : DataW.trod enc P w base spare held n tg [a4] = some y1 := h1
   have h3' : DataW.trod enc P w base spare held n tv [a8] = some y3 := h3
   obtain ⟨a,b,c,d,e0,wfs⟩ := open_cfgc hc hCc hfc hti hci h0 w0
   obtain ⟨m,A2,n2,c2,A3,n3,c3,by_,e2,g1,g2,g3,wm,gh⟩ := open_savedc3 hs hCs hfsv hti hci hBi htl hcl hth hch heh honeh hCh hBh hfh htw2 he2 hone2 hC2 hB2 hgs htst htb h2 w2
   obtain ⟨A,len,cap,rfl⟩ := shape_slice htg h1'
   obtain ⟨A4,n4,c4,rfl⟩ := shape_slice htv h3'
   obtain ⟨rs,r1,r2,r3,r4⟩ := open_txs3 htg hg1 hone hCg hBg hfg hti htw hew honew hCw hBw hfw htst htb h1' w1
   obtain ⟨l,l1,l2,l3,l4⟩ := open_es htv hev honee hCe hBe hfe hti htk h3' w3
   simp only [List.drop_zero,List.take_succ_cons,List.take_zero,List.cons.injEq,and_true] at e0
   obtain ⟨rfl,rfl,rfl,rfl⟩ := e0
   simp only [List.drop_succ_cons,List.drop_zero,List.take_succ_cons,List.take_zero,List.cons.injEq,and_true] at e2
   obtain ⟨rfl,rfl,rfl⟩ := e2
   exact ⟨a,b,c,d,A,len,cap,m,A2,n2,c2,A3,n3,c3,A4,n4,c4,rs,by_,l,rfl,r1,r3,fun r hr => (r4 r hr).1.2.1,fun r hr => (r4 r hr).1.2.2,gh,g1,g2,g3,l1,l2,l3,⟨wfs.1,wfs.2.1,wfs.2.2.1,wfs.2.2.2,wm⟩,l4⟩
end
end Go.Proofs.YtcjmppjppmiggaaGreat


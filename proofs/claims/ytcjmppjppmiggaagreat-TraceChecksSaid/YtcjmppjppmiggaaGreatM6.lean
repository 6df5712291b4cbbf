/- Lemmas and contracts of functions that statements of this seat stand on, many texts in one; each holds under the premises typed in its head. -/
import Derived.Test.YtcjmppjppmiggaaGreatTg
import Derived.Test.YtcjmppjppmiggaaGreatM3
/- What a story's plain machine needs of a log: numbers and writes, not where they lie. What is saved: twins. -/
namespace Go.Proofs.YtcjmppjppmiggaaGreat
open Go.RowKit
set_option linter.unusedVariables false
set_option linter.unusedSimpArgs false

open Go.Maps
set_option maxRecDepth 100000
section
variable {rs rs2 r1 r2 : List RTx}
theorem lastN_congr (hw : wsOf rs = wsOf rs2) (k : ByteArray) : ∀ n,lastN rs k n = lastN rs2 k n
 | 0 => rfl
 | n+1 => by rw [lastN,lastN,hw,lastN_congr hw k n]
theorem depB_congr (hw : wsOf rs = wsOf rs2) : depB rs = depB rs2 := by
 funext a b
 simp only [depB,hw,lastN_congr hw]
theorem depL_congr (hw : wsOf rs = wsOf rs2) : depL rs = depL rs2 := by
 funext E a
 simp only [depL,depB_congr hw]
theorem freeL_congr (hw : wsOf rs = wsOf rs2) : freeL rs = freeL rs2 := by
 funext m E n
 simp only [freeL,depL_congr hw]
theorem step_congr (hl : rs.length = rs2.length) (hw : wsOf rs = wsOf rs2) (hw' : wsOf r1 = wsOf r2) (c : Cfg) (by_ : List Int) (e : Ev) (s : TS) : s.step c rs r1 by_ e = s.step c rs2 r2 by_ e := by
 simp only [TS.step,TS.feed,TS.lane,TS.gates,hl,hw,depL_congr hw',freeL_congr hw']
theorem tale_congr (hl : rs.length = rs2.length) (hw : wsOf rs = wsOf rs2) (hw' : wsOf r1 = wsOf r2) (c : Cfg) (by_ : List Int) : ∀ (l : List Ev) (s : TS),tale c rs r1 by_ l s = tale c rs2 r2 by_ l s
 | [],_ => rfl
 | e :: r,s => by
   have h : s.fits c rs r1 by_ e = s.fits c rs2 r2 by_ e := by simp only [TS.fits,step_congr hl hw hw']
   simp only [tale,h,tale_congr hl hw hw' c by_ r]
theorem wsOf_map (h : rs.map (fun r => (r.number,r.ws)) = rs2.map (fun r => (r.number,r.ws))) : wsOf rs = wsOf rs2 := by
 funext p
 have h2 := congrArg (fun l : List (Int × List Wr) => ((l[p]?).map Prod.snd).getD []) h
 simp only [List.getElem?_map,Option.map_map] at h2
 exact h2
theorem maskL_map (M : Nat) (by_ : List Int) (h : rs.map (fun r => (r.number,r.ws)) = rs2.map (fun r => (r.number,r.ws))) : wsOf (maskL M by_ rs) = wsOf (maskL M by_ rs2) := by
 have hw := wsOf_map h
 funext p
 have h2 := congrFun hw p
 unfold wsOf at h2 ⊢
 rw [maskL_get,maskL_get]
 by_cases hc : p+1≤M∨by_.contains ((p : Int)+1) = true
 · simp only [if_pos hc,Option.map_map]
   cases rs[p]? <;> cases rs2[p]? <;> rfl
 · simp only [if_neg hc]
   cases h3 : rs[p]? <;> cases h4 : rs2[p]? <;> simp [h3,h4] at h2 ⊢ <;> exact h2
theorem logErr_map : ∀ {rs rs2 : List RTx} (_ : rs.map (fun r => (r.number,r.ws)) = rs2.map (fun r => (r.number,r.ws))) (k : Int),logErr rs k = logErr rs2 k
 | [],[],_,_ => rfl
 | [],_ :: _,h,_ => by cases h
 | _ :: _,[],h,_ => by cases h
 | a :: l,b :: m,h,k => by
   simp only [List.map_cons,List.cons.injEq,Prod.mk.injEq] at h
   simp only [logErr,h.1.1,h.1.2,logErr_map h.2]
theorem checkR_map (h : rs.map (fun r => (r.number,r.ws)) = rs2.map (fun r => (r.number,r.ws))) (c : Cfg) (mark : Int) (by_ : List Int) (l : List Ev) : checkR c rs mark by_ l = checkR c rs2 mark by_ l := by
 have hl : rs.length = rs2.length := by simpa using congrArg List.length h
 have hn : ∀ M bs,checkN c rs M bs l = checkN c rs2 M bs l := fun M bs => tale_congr hl (wsOf_map h) (maskL_map M (ints bs) h) c (ints bs) l _
 simp only [checkR,logErr_map h,hl,hn]
end
def rIntT (B n : Nat) (l : List Int) (v : Value) (X : World) : Prop := ∃ g,B≤g∧v = .slice (some ⟨g,0,none⟩) n (n+1)∧X.heap[g]? = some (.cells ((l ++ [spI]).flatMap Icell).toArray 3 (0,0))
def rHdT (B n : Nat) (hs : List HR) (v : Value) (X : World) : Prop := ∃ g hs',B≤g∧v = .slice (some ⟨g,0,none⟩) n (n+1)∧hs'.length = n∧X.heap[g]? = some (.cells ((hs' ++ [spH]).flatMap HR.cells).toArray 89 (0,0))∧HwAll X g hs hs'
def mkT (B n2 n3 : Nat) (l : List Int) (hs : List HR) : List Mk := [⟨4,7,rIntT B n2 l,fun _ _ => False⟩,⟨7,10,rHdT B n3 hs,fun _ _ => False⟩]
theorem rIntT.kept {B n b : Nat} {l : List Int} {v : Value} {X X' : World} (h : rIntT B n l v X) (k : Kept X X' (fun q => q = b)) (hb : b < B) : rIntT B n l v X' := by
 obtain ⟨g,hg,e,hT⟩ := h
 exact ⟨g,hg,e,k.blk hT (blk_lt hT) (by omega)⟩
theorem rHdT.kept {B n b : Nat} {hs : List HR} {v : Value} {X X' : World} (h : rHdT B n hs v X) (k : Kept X X' (fun q => q = b)) (hb : b < B) : rHdT B n hs v X' := by
 obtain ⟨g,hs',hg,e,hl,hT,hA⟩ := h
 exact ⟨g,hs',hg,e,hl,k.blk hT (blk_lt hT) (by omega),hA.keep k.size fun q h1 h2 => k.block q h2 (by omega)⟩
theorem rIntT.grow {B n : Nat} {l : List Int} {v : Value} {X X' : World} (h : rIntT B n l v X) (hb : Below X.heap.size X X') : rIntT B n l v X' := by
 obtain ⟨g,hg,e,hT⟩ := h
 exact ⟨g,hg,e,(hb.block _ (blk_lt hT)).trans hT⟩
theorem rHdT.grow {B n : Nat} {hs : List HR} {v : Value} {X X' : World} (h : rHdT B n hs v X) (hb : Below X.heap.size X X') : rHdT B n hs v X' := by
 obtain ⟨g,hs',hg,e,hl,hT,hA⟩ := h
 exact ⟨g,hs',hg,e,hl,(hb.block _ (blk_lt hT)).trans hT,hA.keep hb.size fun b _ h2 => hb.block b h2⟩
theorem rIntT.less {B B' n : Nat} {l : List Int} {v : Value} {X : World} (h : rIntT B n l v X) (hB : B'≤B) : rIntT B' n l v X := by
 obtain ⟨g,hg,e,hT⟩ := h
 exact ⟨g,by omega,e,hT⟩
theorem rHdT.less {B B' n : Nat} {hs : List HR} {v : Value} {X : World} (h : rHdT B n hs v X) (hB : B'≤B) : rHdT B' n hs v X := by
 obtain ⟨g,hs',hg,e,hl,hT,hA⟩ := h
 exact ⟨g,hs',by omega,e,hl,hT,hA⟩
theorem mkT_grow (B n2 n3 : Nat) (l : List Int) (hs : List HR) : ∀ m ∈ mkT B n2 n3 l hs,∀ v X X',m.R v X→Below X.heap.size X X'→m.R v X' := by
 intro m hm v X X' hR hb
 simp only [mkT,List.mem_cons,List.not_mem_nil,or_false] at hm
 rcases hm with rfl | rfl
 · exact rIntT.grow hR hb
 · exact rHdT.grow hR hb
def TwinSavedEnd (w : World) (m : Int) (n2 n3 : Nat) (l : List Int) (hs : List HR) (e : Ending) (w' : World) : Prop := ∃ u v,e = .returned (.agg #[.int .i64 m,u,v])∧rIntT w.heap.size n2 l u w'∧rHdT w.heap.size n3 hs v w'∧Below w.heap.size w w'
set_option maxHeartbeats 4000000 in
theorem twinsaved_any (m : Int) (A2 : Option Addr) (n2 c2 : Nat) (by_ : List Int) (A3 : Option Addr) (n3 c3 : Nat) (hs : List HR) (w : World) (hb : IsAt w w.heap.size A2 n2 by_) (hh : HdsAt w w.heap.size A3 n3 hs) (hn2 : n2 * 8≤140737488351232) (hlv : ∀ h ∈ hs,h.len * 32≤140737488351232) (hn3 : n3 * 40≤140737488351232) :
    Calls Tryz.prog 5 #[.agg #[.int .i64 m,.slice A2 n2 c2,.slice A3 n3 c3]] w (TwinSavedEnd w m n2 n3 by_ hs) := by
 obtain ⟨W2,hW2⟩ : ∃ W2 : World,W2 = (w.alloc (.cells #[.int .i64 m,.slice A2 n2 c2,.slice A3 n3 c3] 28)).alloc (.cells #[.int .i64 0,.slice none 0 0,.slice none 0 0] 28) := ⟨_,rfl⟩
 have hz : W2.heap.size = w.heap.size+2 := by rw [hW2]; simp
 have hB : Below w.heap.size w W2 := by rw [hW2]; exact bel_alloc (bel_alloc (Below.refl _ _) _) _
 have HX2 : Hid (W2.heap[w.heap.size]? = some (.cells #[.int .i64 m,.slice A2 n2 c2,.slice A3 n3 c3] 28 (0,0))) := Lib.hid (by rw [hW2,Below.heap_alloc _ _ _ (by simp)]; exact blk_new _ _)
 have HR2 : Hid (W2.heap[w.heap.size+1]? = some (.cells #[.int .i64 0,.slice none 0 0,.slice none 0 0] 28 (0,0))) := Lib.hid (by rw [hW2]; have := blk_new (w.alloc (.cells #[.int .i64 m,.slice A2 n2 c2,.slice A3 n3 c3] 28)) (.cells #[.int .i64 0,.slice none 0 0,.slice none 0 0] 28); simpa using this)
 have Hb := Lib.hid ((hb.below hB).more hB.size)
 have Hh := Lib.hid ((hh.below hB).more hB.size)
 have HB := Lib.hid hB
 have HW2 := Lib.hid hW2
 have Hz := Lib.hid hz
 have Hlv := Lib.hid hlv
 clear hb hh hB hW2 hz hlv
 go_enter Tryz.func5,Tryz.ntmps5
 go_wp2_with fail
 rw [← HW2.out]
 have k0 : ∀ n : Ext W2,n.X.cell? ⟨w.heap.size,0,none⟩ = some (.int .i64 m) := fun n => (n.h.cell (p := ⟨w.heap.size,0,none⟩) (blk_lt HX2.out)).trans (blk_cell HX2.out 0)
 have k1 : ∀ n : Ext W2,n.X.cell? ⟨w.heap.size,1,none⟩ = some (.slice A2 n2 c2) := fun n => (n.h.cell (p := ⟨w.heap.size,1,none⟩) (blk_lt HX2.out)).trans (blk_cell HX2.out 1)
 have k2 : ∀ n : Ext W2,n.X.cell? ⟨w.heap.size,2,none⟩ = some (.slice A3 n3 c3) := fun n => (n.h.cell (p := ⟨w.heap.size,2,none⟩) (blk_lt HX2.out)).trans (blk_cell HX2.out 2)
 have Hmk := Lib.hid (mkT_grow W2.heap.size n2 n3 by_ hs)
 refine wp_region_makers2 [0,1,2,3,5,6] (mkT W2.heap.size n2 n3 by_ hs) 8 (by kernel_rfl) (by kernel_rfl) (by kernel_rfl) (by kernel_rfl) (fun _ _ d _ _ h => by cases d <;> exact h) Hmk.out ?_
 change wpQuiet _ _ _ _ (_ :: _ :: _ :: _ :: _ :: _ :: []) _
 repeat (go_big_quiet_step (fail))
 refine wpQuiet_nil ⟨?_,?_⟩
 · as_aux_lemma =>
   intro q hq o ho X hX
   simp only [mkT,List.mem_cons,List.not_mem_nil,or_false] at hq
   rcases hq with rfl | rfl
   · simp only [List.getElem?_cons_succ,List.getElem?_cons_zero,Option.some.injEq] at ho
     subst ho
     refine Makes.call (vs := #[.slice A2 n2 c2]) rfl (by simp only [List.map_toArray,List.map_cons,List.map_nil]; rfl) (by kernel_rfl) ((twinI_any A2 n2 c2 by_ X ((Hb.out.below hX).more hX.size) hn2).mono ?_)
     rintro e X2 ⟨rfl,h1,h2⟩
     exact ⟨_,rfl,h2,⟨_,hX.size,rfl,h1⟩,fun b hb => hb.elim⟩
   · simp only [List.getElem?_cons_succ,List.getElem?_cons_zero,Option.some.injEq] at ho
     subst ho
     refine Makes.call (vs := #[.slice A3 n3 c3]) rfl (by simp only [List.map_toArray,List.map_cons,List.map_nil]; rfl) (by kernel_rfl) ((twinH_any A3 n3 c3 hs X ((Hh.out.below hX).more hX.size) Hlv.out hn3).mono ?_)
     rintro e X2 ⟨hs',h0,rfl,h1,h2,h3⟩
     exact ⟨_,rfl,h3,⟨_,hs',hX.size,rfl,h0,h1,h2⟩,fun b hb => hb.elim⟩
 · intro v X hX hI
   have r4 := (hI.1 ⟨4,7,rIntT W2.heap.size n2 by_,fun _ _ => False⟩ (by simp [mkT]) _ rfl).1
   have r7 := (hI.1 ⟨7,10,rHdT W2.heap.size n3 hs,fun _ _ => False⟩ (by simp [mkT]) _ rfl).1
   have HX := Lib.hid hX
   obtain ⟨u4,hu4⟩ : ∃ u,u = v 4 := ⟨_,rfl⟩
   obtain ⟨u7,hu7⟩ : ∃ u,u = v 7 := ⟨_,rfl⟩
   simp only [← hu4] at r4
   simp only [← hu7] at r7
   have R4 := Lib.hid r4
   have R7 := Lib.hid r7
   obtain ⟨g4,-,e4,-⟩ := r4
   obtain ⟨g7,hs',-,e7,-⟩ := r7
   simp only [mkT,puts,← hu4,← hu7]
   clear hu4 hu7 hI k0 k1 k2 hX v
   simp only [List.drop_succ_cons,List.drop_zero,Act.put,List.setIfInBounds_toArray,List.set_cons_succ,List.set_cons_zero]
   subst e4 e7
   have HR3 := Lib.hid ((HX.out.block _ (blk_lt HR2.out)).trans HR2.out)
   have d0 := blk_cell HR3.out 0
   have d1 := blk_cell HR3.out 1
   have d2 := blk_cell HR3.out 2
   have f0 := blk_frozen HR3.out 0
   have f1 := blk_frozen HR3.out 1
   have f2 := blk_frozen HR3.out 2
   refine tailC_one rfl ?_
   go_wp2_with fail
   refine QT.normal ⟨fun _ => ⟨⟨X,HX.out⟩,rfl⟩,?_⟩
   refine tailC_one rfl ?_
   go_wp2_with fail
   refine QT.normal ⟨by simp,?_⟩
   refine tailC_nil ?_
   obtain ⟨X3,hX3⟩ : ∃ X3,X3 = (((X.setCell ⟨w.heap.size+1,0,none⟩ (.int .i64 m)).setCell ⟨w.heap.size+1,1,none⟩ (.slice (some ⟨g4,0,none⟩) n2 (n2+1))).setCell ⟨w.heap.size+1,2,none⟩ (.slice (some ⟨g7,0,none⟩) n3 (n3+1))) := ⟨_,rfl⟩
   have HR4 : X3.heap[w.heap.size+1]? = some (.cells #[.int .i64 m,.slice (some ⟨g4,0,none⟩) n2 (n2+1),.slice (some ⟨g7,0,none⟩) n3 (n3+1)] 28 (0,0)) := by rw [hX3]; exact blk_set (blk_set (blk_set HR3.out 0 _) 1 _) 2 _
   have hk3 : Kept X X3 (fun q => q = w.heap.size+1) := hX3 ▸ (((Kept.refl X (fun q => q = w.heap.size+1)).setCell (p := ⟨w.heap.size+1,0,none⟩) (Or.inl rfl) _).setCell (p := ⟨w.heap.size+1,1,none⟩) (Or.inl rfl) _).setCell (p := ⟨w.heap.size+1,2,none⟩) (Or.inl rfl) _
   rw [← hX3]
   have e0 := blk_cell HR4 0
   have e1 := blk_cell HR4 1
   have e2 := blk_cell HR4 2
   have Hk3 := Lib.hid hk3
   clear hX3 hk3 HR4 d0 d1 d2 f0 f1 f2
   go_wp2_with fail
   have hz := Hz.out
   have hxs := HX.out.size
   refine bodyPost_ret (v := .agg #[.int .i64 m,.slice (some ⟨g4,0,none⟩) n2 (n2+1),.slice (some ⟨g7,0,none⟩) n3 (n3+1)]) (by simp [results,Tryz.results5,go_sem,e0,e1,e2]) rfl ⟨_,_,rfl,(R4.out.kept Hk3.out (by omega)).less (by omega),(R7.out.kept Hk3.out (by omega)).less (by omega),HB.out.trans ((HX.out.mono HB.out.size).trans (Hk3.out.below (by omega) fun q e => by omega))⟩
theorem LeftSaved_pre (m : Int) (A2 : Option Addr) (n2 c2 : Nat) (by_ : List Int) (A3 : Option Addr) (n3 c3 : Nat) (hs : List HR) (u v : Value) (B : Nat) (w : World) (hu : rIntT B n2 by_ u w) (hv : rHdT B n3 hs v w) (hb : IsAt w w.heap.size A2 n2 by_) (hh : HdsAt w w.heap.size A3 n3 hs) (hn2 : n2 * 8≤140737488351232) (hlv : ∀ h ∈ hs,h.len * 32≤140737488351232) (hn3 : n3 * 40≤140737488351232) :
    ∃ g4 g7 : Nat,u = .slice (some ⟨g4,0,none⟩) n2 (n2+1)∧v = .slice (some ⟨g7,0,none⟩) n3 (n3+1)∧(∀ X,Below w.heap.size w X→Calls Tryz.prog 31 #[.slice (some ⟨g4,0,none⟩) n2 (n2+1),.slice A2 n2 c2] X fun e w' => e = .returned (.bool true)∧Below X.heap.size X w') ∧
     ∀ X,Below w.heap.size w X→Calls Tryz.prog 32 #[.slice (some ⟨g7,0,none⟩) n3 (n3+1),.slice A3 n3 c3] X fun e w' => e = .returned (.bool true)∧Below X.heap.size X w' := by
 obtain ⟨g4,-,rfl,h4⟩ := hu
 obtain ⟨g7,hs',-,rfl,hl7,h7,hA7⟩ := hv
 exact ⟨g4,g7,rfl,rfl,fun X hX => leftI_any g4 A2 n2 c2 by_ X ((hX.block _ (blk_lt h4)).trans h4) ((hb.below hX).more hX.size) hn2,fun X hX => leftH_any g7 A3 n3 c3 hs hs' X hl7 ((hX.block _ (blk_lt h7)).trans h7) (hA7.keep hX.size fun b _ h2 => hX.block b h2) ((hh.below hX).more hX.size) hlv hn3⟩
set_option maxHeartbeats 4000000 in
theorem leftsaved_any (m : Int) (A2 : Option Addr) (n2 c2 : Nat) (by_ : List Int) (A3 : Option Addr) (n3 c3 : Nat) (hs : List HR) (u v : Value) (B : Nat) (w : World) (hu : rIntT B n2 by_ u w) (hv : rHdT B n3 hs v w) (hb : IsAt w w.heap.size A2 n2 by_) (hh : HdsAt w w.heap.size A3 n3 hs) (hn2 : n2 * 8≤140737488351232) (hlv : ∀ h ∈ hs,h.len * 32≤140737488351232) (hn3 : n3 * 40≤140737488351232) :
    Calls Tryz.prog 10 #[.agg #[.int .i64 m,u,v],.agg #[.int .i64 m,.slice A2 n2 c2,.slice A3 n3 c3]] w fun e w' => e = .returned (.bool true)∧Below w.heap.size w w' := by
 obtain ⟨g4,g7,rfl,rfl,hI,hH⟩ := LeftSaved_pre m A2 n2 c2 by_ A3 n3 c3 hs u v B w hu hv hb hh hn2 hlv hn3
 obtain ⟨W2,hW2⟩ : ∃ W2 : World,W2 = (w.alloc (.cells #[.int .i64 m,.slice (some ⟨g4,0,none⟩) n2 (n2+1),.slice (some ⟨g7,0,none⟩) n3 (n3+1)] 28)).alloc (.cells #[.int .i64 m,.slice A2 n2 c2,.slice A3 n3 c3] 28) := ⟨_,rfl⟩
 have hB : Below w.heap.size w W2 := by rw [hW2]; exact bel_alloc (bel_alloc (Below.refl _ _) _) _
 have HX2 : Hid (W2.heap[w.heap.size]? = some (.cells #[.int .i64 m,.slice (some ⟨g4,0,none⟩) n2 (n2+1),.slice (some ⟨g7,0,none⟩) n3 (n3+1)] 28 (0,0))) := Lib.hid (by rw [hW2,Below.heap_alloc _ _ _ (by simp)]; exact blk_new _ _)
 have HR2 : Hid (W2.heap[w.heap.size+1]? = some (.cells #[.int .i64 m,.slice A2 n2 c2,.slice A3 n3 c3] 28 (0,0))) := Lib.hid (by rw [hW2]; have := blk_new (w.alloc (.cells #[.int .i64 m,.slice (some ⟨g4,0,none⟩) n2 (n2+1),.slice (some ⟨g7,0,none⟩) n3 (n3+1)] 28)) (.cells #[.int .i64 m,.slice A2 n2 c2,.slice A3 n3 c3] 28); simpa using this)
 have HI := Lib.hid hI
 have HH := Lib.hid hH
 have HB := Lib.hid hB
 have HW2 := Lib.hid hW2
 clear hb hh hB hW2 hlv hu hv hI hH
 go_enter Tryz.func10,Tryz.ntmps10
 go_wp2_with fail
 rw [← HW2.out]
 have a0 := blk_cell HX2.out 0
 have a1 := blk_cell HX2.out 1
 have a2 := blk_cell HX2.out 2
 have e0 := blk_cell HR2.out 0
 have e1 := blk_cell HR2.out 1
 have e2 := blk_cell HR2.out 2
 go_wp2_with fail
 refine (HI.out W2 HB.out).mono ?_
 rintro e w3 ⟨rfl,hb3⟩
 have HB3 := Lib.hid (HB.out.trans (hb3.mono HB.out.size))
 have a2 := blk_cell ((hb3.block _ (blk_lt HX2.out)).trans HX2.out) 2
 have e2 := blk_cell ((hb3.block _ (blk_lt HR2.out)).trans HR2.out) 2
 clear hb3
 go_wp2_with fail
 refine (HH.out w3 HB3.out).mono ?_
 rintro e w4 ⟨rfl,hb4⟩
 have HB4 := Lib.hid (HB3.out.trans (hb4.mono HB3.out.size))
 clear hb4
 go_wp2_with fail
 go_ret
 exact ⟨rfl,HB4.out⟩
end Go.Proofs.YtcjmppjppmiggaaGreat

/- TraceChecks: the law's walk. -/

namespace Go.Proofs.YtcjmppjppmiggaaGreat
open Go.RowKit
set_option linter.unusedVariables false
set_option linter.unusedSimpArgs false

set_option maxRecDepth 100000
def toldV (c : Cfg) (A : Option Addr) (len cap : Nat) (mark : Int) (A2 : Option Addr) (n2 c2 : Nat) (A3 : Option Addr) (n3 c3 : Nat) (A4 : Option Addr) (n4 c4 : Nat) : Array Value :=
 #[.int .i64 c.lanes,.int .i64 c.shards,.int .i64 c.window,.int .i64 c.queue,.slice A len cap,.int .i64 mark,.slice A2 n2 c2,.slice A3 n3 c3,.slice A4 n4 c4]
theorem tcheck_twin {w : World} {g len : Nat} {rs rs' : List RTx} {g4 n2 : Nat} {by_ : List Int} {g5 n4 : Nat} {l : List Ev} (c : Cfg) (mark : Int) (A3 : Option Addr) (n3 c3 : Nat) (hlen : rs.length = len) (hl' : rs'.length = len) (hblk : w.heap[g]? = some (.cells ((rs' ++ [spT]).flatMap RTx.cells).toArray 45 (0,0))) (htw : TwAll w g rs rs') (hrl : ∀ r ∈ rs,r.len * 40≤140737488351232)
    (hby : w.heap[g4]? = some (.cells ((by_ ++ [spI]).flatMap Icell).toArray 3 (0,0))) (hn2 : by_.length = n2) (hes : w.heap[g5]? = some (.cells ((l ++ [spEv]).flatMap Ev.cells).toArray 51 (0,0))) (hn4 : l.length = n4) (h1 : n4≤4398046511104) (h2 : len≤4398046511104) (h3 : n2≤4398046511104000) :
    Calls Tryz.prog 7 #[.agg #[.int .i64 c.lanes,.int .i64 c.shards,.int .i64 c.window,.int .i64 c.queue],.slice (some ⟨g,0,none⟩) len (len+1),.agg #[.int .i64 mark,.slice (some ⟨g4,0,none⟩) n2 (n2+1),.slice A3 n3 c3],.slice (some ⟨g5,0,none⟩) n4 (n4+1)] w fun e w' => e = .returned (.tuple #[.int .i64 (checkR c rs mark by_ l).1,.int .i64 (checkR c rs mark by_ l).2])∧Below w.heap.size w w' := by
 have hx := txs_of_twin hl' hlen hblk htw hrl
 have hs := tw_same htw (by rw [hl',hlen])
 have hb := row_of_blk (len_int _) hby (blk_lt hby)
 have he := row_of_blk (len_ev _) hes (blk_lt hes)
 rw [hn2] at hb
 rw [hn4] at he
 rw [← checkR_map hs c mark by_ l]
 refine tcheck_any c rs' (some ⟨g,0,none⟩) len (len+1) mark (some ⟨g4,0,none⟩) n2 (n2+1) by_ A3 n3 c3 (some ⟨g5,0,none⟩) n4 (n4+1) l w hx hb.prefix_ he.prefix_ (fun e => by cases e) (fun r hr => ?_) h1 h2 h3
 obtain ⟨i,hi⟩ := List.getElem?_of_mem hr
 have hil : i < rs.length := by have := (List.getElem?_eq_some_iff.1 hi).1; omega
 obtain ⟨e1,e2,e3,b,h4,h5,h6,h7,h8,h9⟩ := htw i _ r (List.getElem?_eq_getElem hil) hi
 omega
set_option maxHeartbeats 4000000 in
theorem lawchecks_any (c : Cfg) (rs : List RTx) (A : Option Addr) (len cap : Nat) (mark : Int) (A2 : Option Addr) (n2 c2 : Nat) (by_ : List Int) (A3 : Option Addr) (n3 c3 : Nat) (hs : List HR) (A4 : Option Addr) (n4 c4 : Nat) (l : List Ev) (w : World) (hl : TxsAt w w.heap.size A len rs) (hb : IsAt w w.heap.size A2 n2 by_) (hh : HdsAt w w.heap.size A3 n3 hs) (he : EsAt w w.heap.size A4 n4 l) (hn : A2 = none→c2 = 0) (hcap : ∀ r ∈ rs,r.len≤r.cap) (hnl : ∀ r ∈ rs,r.A = none→r.cap = 0)
    (hn4 : n4 * 48≤140737488351232) (hlen : len * 32≤140737488351232) (hn2 : n2 * 8≤140737488351232) (hlv : ∀ h ∈ hs,h.len * 32≤140737488351232) (hn3 : n3 * 40≤140737488351232) :
    Calls Tryz.prog 3 #[.agg (toldV c A len cap mark A2 n2 c2 A3 n3 c3 A4 n4 c4)] w fun e w' => e = .returned (.bool true)∧Below w.heap.size w w' := by
 unfold toldV
 obtain ⟨W0,hW0⟩ : ∃ W0,W0 = w.alloc (.cells #[.int .i64 c.lanes,.int .i64 c.shards,.int .i64 c.window,.int .i64 c.queue,.slice A len cap,.int .i64 mark,.slice A2 n2 c2,.slice A3 n3 c3,.slice A4 n4 c4] 31) := ⟨_,rfl⟩
 have hb0 : Below w.heap.size w W0 := hW0 ▸ bel_alloc (Below.refl _ _) _
 have hT0 : W0.heap[w.heap.size]? = some (.cells #[.int .i64 c.lanes,.int .i64 c.shards,.int .i64 c.window,.int .i64 c.queue,.slice A len cap,.int .i64 mark,.slice A2 n2 c2,.slice A3 n3 c3,.slice A4 n4 c4] 31 (0,0)) := hW0 ▸ blk_new _ _
 have hlr := Lib.hid hl.1.len
 have hll := Lib.hid he.len
 have hlb := Lib.hid hb.len
 have Hrl := Lib.hid (fun r hr => (hl.2 r hr).2)
 have HL : Hid (∀ X,Below W0.heap.size W0 X→TxsAt X X.heap.size A len rs) := Lib.hid fun X hX => (((hl.below hb0).more hb0.size).below hX).more hX.size
 have HY : Hid (∀ X,Below W0.heap.size W0 X→IsAt X X.heap.size A2 n2 by_) := Lib.hid fun X hX => (((hb.below hb0).more hb0.size).below hX).more hX.size
 have HH : Hid (∀ X,Below W0.heap.size W0 X→HdsAt X X.heap.size A3 n3 hs) := Lib.hid fun X hX => (((hh.below hb0).more hb0.size).below hX).more hX.size
 have HE : Hid (∀ X,Below W0.heap.size W0 X→EsAt X X.heap.size A4 n4 l) := Lib.hid fun X hX => (((he.below hb0).more hb0.size).below hX).more hX.size
 have HT : Hid (∀ X,Below W0.heap.size W0 X→X.heap[w.heap.size]? = some (.cells #[.int .i64 c.lanes,.int .i64 c.shards,.int .i64 c.window,.int .i64 c.queue,.slice A len cap,.int .i64 mark,.slice A2 n2 c2,.slice A3 n3 c3,.slice A4 n4 c4] 31 (0,0))) := Lib.hid fun X hX => (hX.block _ (blk_lt hT0)).trans hT0
 have HB0 := Lib.hid hb0
 have HW0 := Lib.hid hW0
 have Hn := Lib.hid hn
 have Hcap := Lib.hid hcap
 have Hnl := Lib.hid hnl
 have Hlv := Lib.hid hlv
 clear hl hb hh he hT0 hW0 hb0 hn hcap hnl hlv
 go_enter Tryz.func3,Tryz.ntmps3
 go_wp2_with fail
 rw [← HW0.out]
 have a4 := blk_cell (HT.out W0 (Below.refl _ _)) 4
 go_wp2_with fail
 refine (twins_any A len cap rs W0 (HL.out W0 (Below.refl _ _)) hlen).mono ?_
 rintro e w1 ⟨rs',hl',rfl,hblk,htw,hb1⟩
 have HB1 := Lib.hid hb1
 have Hblk : Hid (∀ X,Below w1.heap.size w1 X→X.heap[W0.heap.size]? = some (.cells ((rs' ++ [spT]).flatMap RTx.cells).toArray 45 (0,0))∧TwAll X W0.heap.size rs rs') := Lib.hid fun X hX => ⟨(hX.block _ (blk_lt hblk)).trans hblk,htw.keep hX.size fun b _ h2 => hX.block b h2⟩
 have Hl' := Lib.hid hl'
 have a5 := blk_cell (HT.out w1 HB1.out) 5
 have a6 := blk_cell (HT.out w1 HB1.out) 6
 have a7 := blk_cell (HT.out w1 HB1.out) 7
 clear hb1 hblk htw a4 hl'
 go_wp2_with fail
 refine (twinsaved_any mark A2 n2 c2 by_ A3 n3 c3 hs w1 (HY.out w1 HB1.out) (HH.out w1 HB1.out) hn2 Hlv.out hn3).mono ?_
 rintro e w2 ⟨u,v,rfl,hu,hv,hb2⟩
 have HU := Lib.hid hu
 have HV := Lib.hid hv
 obtain ⟨g4,hg4,rfl,h4⟩ := hu
 obtain ⟨g7,hs',hg7,rfl,-⟩ := hv
 have HB2 := Lib.hid (HB1.out.trans (hb2.mono HB1.out.size))
 have H12 := Lib.hid hb2
 have H4 := Lib.hid h4
 clear hb2 a5 a6 a7 h4
 go_upto_region 3 with fail
 obtain ⟨W3,hW3⟩ : ∃ W3,W3 = w2.alloc (.cells #[.int .i64 mark,.slice (some ⟨g4,0,none⟩) n2 (n2+1),.slice (some ⟨g7,0,none⟩) n3 (n3+1)] 28) := ⟨_,rfl⟩
 have hb3 : Below w2.heap.size w2 W3 := hW3 ▸ bel_alloc (Below.refl _ _) _
 have hF3 : W3.heap[w2.heap.size]? = some (.cells #[.int .i64 mark,.slice (some ⟨g4,0,none⟩) n2 (n2+1),.slice (some ⟨g7,0,none⟩) n3 (n3+1)] 28 (0,0)) := hW3 ▸ blk_new _ _
 rw [← hW3]
 have HB3 := Lib.hid (HB2.out.trans (hb3.mono HB2.out.size))
 have H13 := Lib.hid (H12.out.trans (hb3.mono H12.out.size))
 have HF : Hid (∀ X,Below W3.heap.size W3 X→X.heap[w2.heap.size]? = some (.cells #[.int .i64 mark,.slice (some ⟨g4,0,none⟩) n2 (n2+1),.slice (some ⟨g7,0,none⟩) n3 (n3+1)] 28 (0,0))) := Lib.hid fun X hX => (hX.block _ (blk_lt hF3)).trans hF3
 have HU3 : Hid (∀ X,Below W3.heap.size W3 X→rIntT w1.heap.size n2 by_ (.slice (some ⟨g4,0,none⟩) n2 (n2+1)) X∧rHdT w1.heap.size n3 hs (.slice (some ⟨g7,0,none⟩) n3 (n3+1)) X∧X.heap[g4]? = some (.cells ((by_ ++ [spI]).flatMap Icell).toArray 3 (0,0))) :=
  Lib.hid fun X hX => by
   have hb := hb3.trans (hX.mono hb3.size)
   exact ⟨HU.out.grow hb,HV.out.grow hb,(hb.block _ (blk_lt H4.out)).trans H4.out⟩
 have a8 := blk_cell (HT.out W3 HB3.out) 8
 clear hW3 hb3 hF3 HU HV H4 HB2 H12
 go_wp2_with fail
 refine (twinEv_any A4 n4 c4 l W3 (HE.out W3 HB3.out) hn4).mono ?_
 rintro e w4 ⟨rfl,h5,hb4⟩
 obtain ⟨g5,hg5⟩ : ∃ g5,g5 = W3.heap.size := ⟨_,rfl⟩
 rw [← hg5] at h5
 rw [← hg5]
 have HB4 := Lib.hid (HB3.out.trans (hb4.mono HB3.out.size))
 have H14 := Lib.hid (H13.out.trans (hb4.mono H13.out.size))
 have H34 := Lib.hid hb4
 have HE5 : Hid (∀ X,Below w4.heap.size w4 X→X.heap[g5]? = some (.cells ((l ++ [spEv]).flatMap Ev.cells).toArray 51 (0,0))) := Lib.hid fun X hX => (hX.block _ (blk_lt h5)).trans h5
 clear hb4 h5 hg5 a8 H13 HB3
 have a0 := blk_cell (HT.out w4 HB4.out) 0
 have a1 := blk_cell (HT.out w4 HB4.out) 1
 have a2 := blk_cell (HT.out w4 HB4.out) 2
 have a3 := blk_cell (HT.out w4 HB4.out) 3
 have f0 := blk_cell (HF.out w4 H34.out) 0
 have f1 := blk_cell (HF.out w4 H34.out) 1
 have f2 := blk_cell (HF.out w4 H34.out) 2
 have Hck := Lib.hid (tcheck_twin c mark (some ⟨g7,0,none⟩) n3 (n3+1) hlr.out Hl'.out (Hblk.out w4 H14.out).1 (Hblk.out w4 H14.out).2 Hrl.out (HU3.out w4 H34.out).2.2 hlb.out (HE5.out w4 (Below.refl _ _)) hll.out (by omega) (by omega) (by omega))
 go_wp2_with fail
 refine Hck.out.mono ?_
 rintro e w5 ⟨rfl,hb5⟩
 have HB5 := Lib.hid (HB4.out.trans (hb5.mono HB4.out.size))
 have H15 := Lib.hid (H14.out.trans (hb5.mono H14.out.size))
 have H35 := Lib.hid (H34.out.trans (hb5.mono H34.out.size))
 have H45 := Lib.hid hb5
 clear hb5 Hck a0 a1 a2 a3 f0 f1 f2 HB4 H14 H34
 have a0 := blk_cell (HT.out w5 HB5.out) 0
 have a1 := blk_cell (HT.out w5 HB5.out) 1
 have a2 := blk_cell (HT.out w5 HB5.out) 2
 have a3 := blk_cell (HT.out w5 HB5.out) 3
 have a4 := blk_cell (HT.out w5 HB5.out) 4
 have a5 := blk_cell (HT.out w5 HB5.out) 5
 have a6 := blk_cell (HT.out w5 HB5.out) 6
 have a7 := blk_cell (HT.out w5 HB5.out) 7
 have a8 := blk_cell (HT.out w5 HB5.out) 8
 have Hrk := Lib.hid (rcheck_any c rs A len cap mark A2 n2 c2 by_ A3 n3 c3 A4 n4 c4 l w5 (HL.out w5 HB5.out) (HY.out w5 HB5.out) (HE.out w5 HB5.out) Hn.out Hcap.out Hnl.out (by omega) (by omega) (by omega))
 go_wp2_with fail
 refine Hrk.out.mono ?_
 rintro e w6 ⟨rfl,hb6⟩
 have HB6 := Lib.hid (HB5.out.trans (hb6.mono HB5.out.size))
 have H16 := Lib.hid (H15.out.trans (hb6.mono H15.out.size))
 have H36 := Lib.hid (H35.out.trans (hb6.mono H35.out.size))
 have H46 := Lib.hid (H45.out.trans (hb6.mono H45.out.size))
 clear hb6 Hrk a0 a1 a2 a3 a4 a5 a6 a7 a8 HB5 H15 H35 H45
 obtain ⟨n,hn⟩ : ∃ n,n = (checkR c rs mark by_ l).1 := ⟨_,rfl⟩
 obtain ⟨m,hm⟩ : ∃ m,m = (checkR c rs mark by_ l).2 := ⟨_,rfl⟩
 rw [← hn,← hm]
 clear hn hm
 have a4 := blk_cell (HT.out w6 HB6.out) 4
 have Hlf := Lib.hid (lefts_any W0.heap.size A len cap rs rs' w6 Hl'.out (Hblk.out w6 H16.out).1 (Hblk.out w6 H16.out).2 (HL.out w6 HB6.out) hlen)
 go_wp2_with fail
 refine Hlf.out.mono ?_
 rintro e w7 ⟨rfl,hb7⟩
 have HB7 := Lib.hid (HB6.out.trans (hb7.mono HB6.out.size))
 have H37 := Lib.hid (H36.out.trans (hb7.mono H36.out.size))
 have H47 := Lib.hid (H46.out.trans (hb7.mono H46.out.size))
 clear hb7 Hlf a4 HB6 H16 H36 H46
 have a5 := blk_cell (HT.out w7 HB7.out) 5
 have a6 := blk_cell (HT.out w7 HB7.out) 6
 have a7 := blk_cell (HT.out w7 HB7.out) 7
 have f0 := blk_cell (HF.out w7 H37.out) 0
 have f1 := blk_cell (HF.out w7 H37.out) 1
 have f2 := blk_cell (HF.out w7 H37.out) 2
 have Hls := Lib.hid (leftsaved_any mark A2 n2 c2 by_ A3 n3 c3 hs _ _ w1.heap.size w7 (HU3.out w7 H37.out).1 (HU3.out w7 H37.out).2.1 (HY.out w7 HB7.out) (HH.out w7 HB7.out) hn2 Hlv.out hn3)
 go_wp2_with fail
 refine Hls.out.mono ?_
 rintro e w8 ⟨rfl,hb8⟩
 have HB8 := Lib.hid (HB7.out.trans (hb8.mono HB7.out.size))
 have H48 := Lib.hid (H47.out.trans (hb8.mono H47.out.size))
 clear hb8 Hls a5 a6 a7 f0 f1 f2 HB7 H37 H47
 have a8 := blk_cell (HT.out w8 HB8.out) 8
 have Hle := Lib.hid (leftEv_any g5 A4 n4 c4 l w8 (HE5.out w8 H48.out) (HE.out w8 HB8.out) hn4)
 go_wp2_with fail
 refine Hle.out.mono ?_
 rintro e w9 ⟨rfl,hb9⟩
 have HB9 := Lib.hid (HB8.out.trans (hb9.mono HB8.out.size))
 clear hb9 Hle a8 HB8 H48
 have Hlv2 := Lib.hid (lives21_any w9)
 go_wp2_with fail
 refine Hlv2.out.mono ?_
 rintro e w10 ⟨rfl,hb10⟩
 have HB10 := Lib.hid (HB9.out.trans (hb10.mono HB9.out.size))
 clear hb10 Hlv2
 go_wp2_with fail
 go_ret
 exact ⟨rfl,HB0.out.trans (HB10.out.mono HB0.out.size)⟩
end Go.Proofs.YtcjmppjppmiggaaGreat


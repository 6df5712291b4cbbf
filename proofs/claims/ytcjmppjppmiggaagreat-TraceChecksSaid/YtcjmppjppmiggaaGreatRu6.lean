/- The document's story: a call's step. (Printed by gen_ru6.py.) -/
import Derived.Test.YtcjmppjppmiggaaGreatRu5
import Derived.Test.YtcjmppjppmiggaaGreatSt6
namespace Go.Proofs.YtcjmppjppmiggaaGreat
open Go.RowKit
set_option linter.unusedVariables false
set_option linter.unusedSimpArgs false

open Go.Maps
set_option maxRecDepth 100000
def RCallEnd (w : World) (φ : Nat→Nat) (Bo : Nat) (c : Cfg) (rs rs' : List RTx) (by_ : List Int) (a : RA) (bd : Nat) (kd : Int) (r : TrA × TS) (e : Ending) (w' : World) : Prop :=
 ∃ (k n sh ct : Int) (b : Bool),e = .returned (.tuple #[.agg #[.int .i64 0,.int .u8 k,.int .i64 n,.int .i64 sh,.int .i64 ct,.int .i64 0],.bool b])∧(Below Bo w w'∧MarkOk w' φ a)∧(b && decide (k = kd)) = (r.1.2.2 && decide (r.1.1 = kd)) ∧
  (b = true→k = kd→n = r.1.2.1.number∧sh = r.1.2.1.shard∧ct = r.1.2.1.count∧∃ φ' x',(∀ b,b < w.heap.size→φ' b = φ b)∧RsAt w' φ' Bo c rs rs' by_ a x' r.2∧x'.bd≤bd+1)
theorem RTaskEnd.lift {w w' : World} {φ : Nat→Nat} {Bo : Nat} {c : Cfg} {rs rs' : List RTx} {by_ : List Int} {a : RA} {bd : Nat} {kd : Int} {r : TrA × TS} {e : Ending} (h : RTaskEnd w φ Bo c rs rs' by_ a bd r e w') : RCallEnd w φ Bo c rs rs' by_ a bd kd r e w' := by
 obtain ⟨k,n,sh,ct,h1,h2,h3⟩ := h
 refine ⟨k,n,sh,ct,_,h1,h2,?_,fun hb _ => ?_⟩
 · cases hb : r.1.2.2 with
   | false => rfl
   | true => rw [(h3 hb).1]
 · exact (h3 hb).2
def lastC (cs : List RC) (t : Int) : Nat→Option Nat
 | 0 => none
 | j+1 => match cs[j]? with
   | some r => if r.num = t then some j else lastC cs t j
   | none => lastC cs t j
theorem lastC_none {cs : List RC} {t : Int} : ∀ {n : Nat},lastC cs t n = none→∀ j,j < n→∀ r,cs[j]? = some r→r.num≠t
 | 0,_,j,hj,_,_ => by omega
 | n+1,h,j,hj,r,hr => by
   rw [lastC] at h
   cases hc : cs[n]? with
   | none =>
     rw [hc] at h
     by_cases e : j = n
     · subst e; rw [hr] at hc; cases hc
     · exact lastC_none h j (by omega) r hr
   | some q =>
     rw [hc] at h
     simp only at h
     split at h
     · cases h
     · rename_i hq
       by_cases e : j = n
       · subst e; rw [hr] at hc; injection hc with hc; subst hc; exact hq
       · exact lastC_none h j (by omega) r hr
theorem lastC_some {cs : List RC} {t : Int} : ∀ {n j : Nat},lastC cs t n = some j→j < n∧∃ r,cs[j]? = some r∧r.num = t
 | 0,j,h => by cases h
 | n+1,j,h => by
   rw [lastC] at h
   cases hc : cs[n]? with
   | none =>
     rw [hc] at h
     obtain ⟨h1,h2⟩ := lastC_some h
     exact ⟨by omega,h2⟩
   | some q =>
     rw [hc] at h
     simp only at h
     split at h
     · injection h with h; subst h
       rename_i hq
       exact ⟨by omega,q,hc,hq⟩
     · obtain ⟨h1,h2⟩ := lastC_some h
       exact ⟨by omega,h2⟩
theorem CallsFit.at_ {k : Nat} {m : List (Int × (Int × Bool))} {cs : List RC} (h : CallsFit k m cs) {r : RC} (hr : r ∈ cs) : mget m r.num = some ((r.asked : Int) - r.served,r.ended) := by
 rw [h.fit r.num]
 cases hf : cs.find? (fun q => decide (q.num = r.num)) with
 | none => rw [List.find?_eq_none] at hf; exact absurd (by simp : decide (r.num = r.num) = true) (hf r hr)
 | some q =>
   have hq := List.mem_of_find?_eq_some hf
   have hn : q.num = r.num := by simpa using List.find?_some hf
   have : q = r := by
    obtain ⟨i,hi⟩ := List.mem_iff_getElem?.1 hq
    obtain ⟨j,hj⟩ := List.mem_iff_getElem?.1 hr
    obtain ⟨i1,i2⟩ := List.getElem?_eq_some_iff.1 hi
    obtain ⟨j1,j2⟩ := List.getElem?_eq_some_iff.1 hj
    have hp := List.pairwise_iff_getElem.1 (List.pairwise_map.1 h.nodup)
    rcases Nat.lt_trichotomy i j with hl | hl | hl
    · exact absurd (by rw [i2,j2]; exact hn) (hp i j i1 j1 hl)
    · subst hl; rw [← i2,← j2]
    · exact absurd (by rw [i2,j2]; exact hn.symm) (hp j i j1 i1 hl)
   rw [this]; rfl
theorem CallsFit.none_ {k : Nat} {m : List (Int × (Int × Bool))} {cs : List RC} (h : CallsFit k m cs) {t : Int} (ht : ∀ r ∈ cs,r.num≠t) : mget m t = none := by
 rw [h.fit t]
 have : cs.find? (fun q => decide (q.num = t)) = none := by rw [List.find?_eq_none]; exact fun r hr => by simpa using ht r hr
 rw [this]; rfl
theorem map_updC_set {f : Int} {g : RC→RC} {r : RC} : ∀ {cs : List RC} {j : Nat},(cs.map RC.num).Nodup→cs[j]? = some r→r.num = f→cs.map (updC f g) = cs.set j (g r)
 | [],j,_,h,_ => by cases h
 | q :: l,0,hn,h,hf => by
   injection h with h; subst h
   rw [List.map_cons,List.nodup_cons] at hn
   rw [List.map_cons,List.set_cons_zero]
   congr 1
   · unfold updC; rw [if_pos hf]
   · conv => rhs; rw [← List.map_id l]
     refine List.map_congr_left fun q2 hq => ?_
     unfold updC
     rw [if_neg fun e => hn.1 (List.mem_map.2 ⟨q2,hq,by rw [e,hf]⟩)]
     rfl
 | q :: l,j+1,hn,h,hf => by
   rw [List.map_cons,List.nodup_cons] at hn
   have hm : r ∈ l := List.mem_of_getElem? (by simpa using h)
   rw [List.map_cons,List.set_cons_succ,map_updC_set hn.2 (by simpa using h) hf]
   congr 1
   unfold updC
   rw [if_neg fun e => hn.1 (List.mem_map.2 ⟨r,hm,by rw [e,hf]⟩)]
section
variable {w w' : World} {φ φ' : Nat→Nat} {Bo : Nat} {I J : Nat→Prop} {c : Cfg} {rs rs' : List RTx} {by_ : List Int} {a : RA} {x : RG} {s : TS}
theorem RsH.ccell (h : RsAt w φ Bo c rs rs' by_ a x s) {bc oc j : Nat} (jj : Nat) {r : RC} {u : Value} (eA : x.C.A = some ⟨bc,oc,none⟩) (hr : x.cs[j]? = some r) (hu : (RC.cells r)[jj]? = some u) : w.cell? ⟨bc,oc+j * 4+jj,none⟩ = some u∧w.frozen? ⟨bc,oc+j * 4+jj,none⟩ = false := by
 obtain ⟨hT,-,-⟩ := h.calls (fun h => h)
 have hj : j < x.C.n := by have := hT.len; have := (List.getElem?_eq_some_iff.1 hr).1; omega
 obtain ⟨b',o',q,e1,-,hx,hc⟩ := hT.row.at_ hj
 rw [eA] at e1; injection e1 with e1; injection e1 with e1 e2; subst e1 e2
 rw [hr] at hx; injection hx with hx; subst hx
 obtain ⟨cs2,h2⟩ := hT.ty eA
 exact ⟨hc jj u hu,blk_frozen h2 _⟩
theorem RsH.setCall (h : RsAt w φ Bo c rs rs' by_ a x s) {bc oc j jj : Nat} {r r' : RC} {v v' : Int × Bool} {u : Value} {bd' : Nat} (eA : x.C.A = some ⟨bc,oc,none⟩) (hr : x.cs[j]? = some r) (hn : r'.num = r.num) (hjj : jj < 4) (hc : RC.cells r' = (RC.cells r).set jj u)
    (hm : mget s.calls r.num = some v) (hv : ((r'.asked : Int) - r'.served,r'.ended) = v') (hb : x.bd≤bd') (hs : r'.asked≤bd'∧r'.served≤bd') :
    RsAt (w.setCell ⟨bc,oc+j * 4+jj,none⟩ u) φ Bo c rs rs' by_ a { x with cs := x.cs.set j r',bd := bd' } { s with calls := mput s.calls r.num v' }∧Kept w (w.setCell ⟨bc,oc+j * 4+jj,none⟩ u) (fun b => b = bc) := by
 obtain ⟨hT,hA,hF⟩ := h.calls (fun h => h)
 have k : Kept w (w.setCell ⟨bc,oc+j * 4+jj,none⟩ u) (fun b => b = bc) := (Kept.refl w (fun b => b = bc)).setCell (p := ⟨bc,oc+j * 4+jj,none⟩) (Or.inl rfl) u
 have hF2 := hF.upd (k' := bd') (f := r.num) (g := fun q => { r' with num := q.num }) (v' := v') (fun _ => rfl) hm (fun _ _ _ _ => hv) hb (fun _ _ _ => hs)
 rw [map_updC_set hF.nodup hr rfl,show ({ r' with num := r.num } : RC) = r' by rw [← hn]] at hF2
 refine ⟨h.setCalls (k.mono fun b e => by rw [e]; exact hA _ eA) ?_ hF2,k⟩
 rw [eA] at hT ⊢
 exact hT.setc hr (fun _ => rfl) hjj hc
end
theorem info_rcalled : (Tryz.prog.info? 142).map (fun i => (i.zero,i.size,i.bytes)) = some (some (.agg #[.int .i64 0,.int .i64 0,.int .i64 0,.bool false]),4,32) := by kernel_rfl
set_option maxHeartbeats 16000000 in
theorem r21call_any (φ : Nat→Nat) (Bo : Nat) (c : Cfg) (rs rs' : List RTx) (by_ : List Int) (M k : Nat) (a : RA) (x : RG) (s : TS) (e : Ev) (w : World) (h0 : RsAt w φ Bo c rs rs' by_ a x s) (hi : SInv c rs rs' M k s) (hc : c.ok = true) (hk : k≤4398046511000) (hbd : x.bd≤4398046511000) :
    Calls Tryz.prog 48 #[ptrV a.g,.agg #[.int .i64 e.task,.int .u8 e.kind,.int .i64 e.number,.int .i64 e.shard,.int .i64 e.count,.int .i64 e.mark]] w (RCallEnd w φ Bo c rs rs' by_ a x.bd e.kind (s.call c e)) := by
 obtain ⟨et,ek,en,es,ec,em⟩ := e
 simp only
 obtain ⟨φ0,hφ0⟩ : ∃ φ0 : Nat→Nat,φ0 = fun b => if b < w.heap.size then φ b else 50 := ⟨_,rfl⟩
 have hφ1 : ∀ b,b < w.heap.size→φ0 b = φ b := fun b hb => by rw [hφ0]; simp only [if_pos hb]
 have hφ2 : ∀ b,w.heap.size≤b→φ0 b = 50 := fun b hb => by rw [hφ0]; simp only [if_neg (show ¬ b < w.heap.size by omega)]
 have h : RsAt w φ0 Bo c rs rs' by_ a x s := h0.relabel hφ1
 have Hφ1 := Lib.hid hφ1
 have Hφ2 := Lib.hid hφ2
 clear hφ0 hφ1 hφ2 h0
 have H := Lib.hid h
 have HI := Lib.hid hi
 obtain ⟨W0,hW0⟩ : ∃ W0,W0 = (w.alloc (.cells #[.int .i64 et,.int .u8 ek,.int .i64 en,.int .i64 es,.int .i64 ec,.int .i64 em] 51)).alloc (.cells #[.int .i64 0,.int .u8 0,.int .i64 0,.int .i64 0,.int .i64 0,.int .i64 0] 51) := ⟨_,rfl⟩
 have hb0 : Below w.heap.size w W0 := hW0 ▸ bel_alloc (bel_alloc (Below.refl _ _) _) _
 have hz0 : W0.heap.size = w.heap.size+2 := by rw [hW0]; simp
 have HE0 : Hid (W0.heap[(w.heap.size+1)]? = some evBox) := Lib.hid (by rw [hW0]; have := blk_new (w.alloc (.cells #[.int .i64 et,.int .u8 ek,.int .i64 en,.int .i64 es,.int .i64 ec,.int .i64 em] 51)) (.cells #[.int .i64 0,.int .u8 0,.int .i64 0,.int .i64 0,.int .i64 0,.int .i64 0] 51); simpa [evBox] using this)
 have HV0 : Hid (W0.heap[w.heap.size]? = some (.cells #[.int .i64 et,.int .u8 ek,.int .i64 en,.int .i64 es,.int .i64 ec,.int .i64 em] 51 (0,0))) := Lib.hid (by rw [hW0]; exact (Below.heap_alloc _ _ _ (by simp)).trans (blk_new _ _))
 have HS0 := Lib.hid (h.below hb0 (fun h => h) (fun h => h))
 have HB0 : Hid (Below Bo w W0) := Lib.hid (hb0.mono h.lo)
 have HZ0 := Lib.hid hz0
 have HW0 := Lib.hid hW0
 clear h hi hb0 hz0 hW0
 have hL : 1≤c.shards∧c.shards≤16∧1≤c.queue∧c.queue≤1024 := by simp [Cfg.ok,inB] at hc; omega
 obtain ⟨S,hS1⟩ : ∃ S : Nat,c.shards = S := ⟨c.shards.toNat,by omega⟩
 obtain ⟨R,hR⟩ : ∃ R,R = s.call c ⟨et,ek,en,es,ec,em⟩ := ⟨_,rfl⟩
 rw [← hR]
 unfold TS.call at hR
 simp only at hR
 have HR0 := Lib.hid hR
 have HLc := Lib.hid (And.intro trivial hS1)
 have HL := Lib.hid hL
 unfold ptrV
 obtain ⟨hTC,hAC,hFC⟩ := H.out.calls (fun h => h)
 have HTC := Lib.hid hTC
 have HAC := Lib.hid hAC
 have HFC := Lib.hid hFC
 have hCl : x.cs.length = x.C.n := hTC.len
 have HCl := Lib.hid hCl
 have hCn : x.C.n≤4398046511000 := by have := hFC.len; omega
 obtain ⟨W1,hW1⟩ : ∃ W1,W1 = W0.alloc (.cells #[.int .i64 0,.int .u8 ek,.int .i64 et,.int .i64 0,.int .i64 0,.int .i64 0] 51) := ⟨_,rfl⟩
 have hb1 : Below W0.heap.size W0 W1 := hW1 ▸ bel_alloc (Below.refl _ _) _
 have HS1 := Lib.hid (HS0.out.below hb1 (fun h => h) (fun h => h))
 have HE1 : Hid (W1.heap[w.heap.size+1]? = some evBox) := Lib.hid ((hb1.block _ (blk_lt HE0.out)).trans HE0.out)
 have HV1 : Hid (W1.heap[w.heap.size]? = some (.cells #[.int .i64 et,.int .u8 ek,.int .i64 en,.int .i64 es,.int .i64 ec,.int .i64 em] 51 (0,0))) := Lib.hid ((hb1.block _ (blk_lt HV0.out)).trans HV0.out)
 have HWt1 : Hid (W1.heap[w.heap.size+1+1]? = some (.cells #[.int .i64 0,.int .u8 ek,.int .i64 et,.int .i64 0,.int .i64 0,.int .i64 0] 51 (0,0))) := Lib.hid (by
  rw [hW1,show w.heap.size+1+1 = W0.heap.size by have := HZ0.out; omega]; exact blk_new _ _)
 have HB1 : Hid (Below Bo w W1) := Lib.hid (HB0.out.trans (hb1.mono HS0.out.lo))

 clear hR hS1 hL hTC hAC hFC hCl hb1
 go_enter Tryz.func48,Tryz.ntmps48
 go_wp2_with fail
 rw [← HW0.out,show w.heap.size+1+1 = w.heap.size+1+1 from rfl]
 rw [← hW1]
 go_loopw [7,8] (fun av iv wr => ∃ j : Nat,j≤x.C.n∧iv = .int .i64 j∧av = .int .i64 (ixV (lastC x.cs et j))∧Hid (Below W1.heap.size W1 wr)) (fun _ iv _ => x.C.n - (RowKit.intOf iv).toNat)
 case atStart => exact ⟨0,Nat.zero_le _,rfl,rfl,Lib.hid (Below.refl _ _)⟩
 case round =>
  obtain ⟨j,hj,rfl,rfl,HBj⟩ := hrel
  have HSj := Lib.hid (HS1.out.below HBj.out (fun h => h) (fun h => h))
  have c14 : wr.cell? ⟨a.g,14,none⟩ = some (.slice x.C.A x.C.n x.C.c) := blk_cell (HSj.out.st (fun h => h)) 14
  have HEj : Hid (wr.heap[w.heap.size+1]? = some evBox) := Lib.hid ((HBj.out.block _ (blk_lt HE1.out)).trans HE1.out)
  have HVj : Hid (wr.heap[w.heap.size]? = some (.cells #[.int .i64 et,.int .u8 ek,.int .i64 en,.int .i64 es,.int .i64 ec,.int .i64 em] 51 (0,0))) := Lib.hid ((HBj.out.block _ (blk_lt HV1.out)).trans HV1.out)
  have HWtj : Hid (wr.heap[w.heap.size+1+1]? = some (.cells #[.int .i64 0,.int .u8 ek,.int .i64 et,.int .i64 0,.int .i64 0,.int .i64 0] 51 (0,0))) := Lib.hid ((HBj.out.block _ (blk_lt HWt1.out)).trans HWt1.out)
  have HBB : Hid (Below Bo w wr) := Lib.hid (HB1.out.trans (HBj.out.mono HS1.out.lo))
  have b0 : wr.cell? ⟨w.heap.size,0,none⟩ = some (.int .i64 et) := blk_cell HVj.out 0
  by_cases hlt : j < x.C.n
  · obtain ⟨bc,oc,q,eA,hbl,hx,hxc⟩ := ((HSj.out.calls (fun h => h)).1).row.at_ hlt
    have q0 : wr.cell? ⟨bc,oc+j * 4,none⟩ = some (.int .i64 q.num) := by simpa using hxc 0 _ rfl
    have hj0 : (0 : Int)≤(j : Int) := by omega
    have hjn : (j : Int) < (x.C.n : Int) := by omega
    have HJ1 : Hid (j+1≤x.C.n) := Lib.hid hlt
    have hls : lastC x.cs et (j+1) = if q.num = et then some j else lastC x.cs et j := by
     conv => lhs; rw [lastC]
     rw [hx]
    have Hls := Lib.hid hls
    rw [eA] at c14
    clear hx hxc eA hls
    by_cases hqy : q.num = et
    · have hqe : (q.num == et) = true := by simpa using hqy
      go_wp2_with fail
      go_quiet (fail)
      go_wp2_with fail
      exact ⟨⟨j+1,HJ1.out,by go_num,by rw [Hls.out,if_pos hqy]; rfl,Lib.hid (below_drewN HBj.out _)⟩,by have := HJ1.out; simp [RowKit.intOf]; omega⟩
    · have hqe : (q.num == et) = false := by simpa using hqy
      go_wp2_with fail
      go_quiet (fail)
      go_wp2_with fail
      exact ⟨⟨j+1,HJ1.out,by go_num,by rw [Hls.out,if_neg hqy],Lib.hid (below_drewN HBj.out _)⟩,by have := HJ1.out; simp [RowKit.intOf]; omega⟩
  · obtain rfl : j = x.C.n := by omega
    clear hlt hj
    cases hlc : lastC x.cs et x.C.n with
    | none =>
      have hno := HFC.out.none_ (t := et) (fun r hr => by
       obtain ⟨j,hj⟩ := List.mem_iff_getElem?.1 hr
       have := (List.getElem?_eq_some_iff.1 hj).1
       exact lastC_none hlc j (by rw [← HCl.out]; exact this) r hj)
      have HRn : Hid (R = ((9,⟨0,0,et,0,0,0⟩,true),{ s with calls := mput s.calls et (0,false) })) := Lib.hid (by rw [HR0.out,hno])
      have HFit := Lib.hid (HFC.out.add hno)
      clear hno hlc
      simp only [ixV]
      obtain ⟨φ1,hφ1⟩ : ∃ φ1 : Nat→Nat,φ1 = fun b => if b < wr.heap.size then φ0 b else 4 := ⟨_,rfl⟩
      have hf1 : ∀ b,b < wr.heap.size→φ1 b = φ0 b := fun b hb => by rw [hφ1]; simp only [if_pos hb]
      have Hf2 : Hid (∀ b,wr.heap.size≤b→φ1 b = 4) := Lib.hid (fun b hb => by rw [hφ1]; simp only [if_neg (show ¬ b < wr.heap.size by omega)])
      have HSV1 := Lib.hid (HSj.out.relabel hf1)
      have hvl : w.heap.size+1+1 < wr.heap.size := blk_lt HWtj.out
      have Hbox : Hid (∀ b,w.heap.size≤b→b < wr.heap.size→φ1 b = 50) := Lib.hid (fun b h1 h2 => by rw [hf1 _ h2]; exact Hφ2.out _ h1)
      have Hlow1 : Hid (∀ b,b < w.heap.size→φ1 b = φ b) := Lib.hid (fun b hb => by rw [hf1 b (by omega)]; exact Hφ1.out b hb)
      clear hφ1 hf1
      obtain ⟨hTg,hAg,-⟩ := HSV1.out.calls (fun h => h)
      obtain ⟨i0,hi0',hz0,hz1,hz2⟩ := info_parts info_rcalled
      obtain ⟨I,hI⟩ : ∃ I : Nat→Prop,I = fun b => ∃ a,x.C.A = some a∧b = a.block := ⟨_,rfl⟩
      have hIn : ∀ b,φ1 b≠4→¬ I b := fun b hb => by
       rw [hI]; rintro ⟨ad,e,e2⟩; exact hb (by rw [e2]; exact hAg ad e)
      have HIn := Lib.hid hIn
      have HH0 : Hid (∀ X,Kept wr X I→RsH X φ1 Bo (fun j => j = 4) c rs rs' by_ a x s) := Lib.hid (fun X k => HSV1.out.hole (i := 4) (k.mono fun b hb => by rw [hI] at hb; obtain ⟨ad,e,e2⟩ := hb; rw [e2]; exact hAg ad e) (by omega) (by omega))
      have u14 : ∀ n : KX wr I,n.X.cell? ⟨a.g,14,none⟩ = some (.slice x.C.A x.C.n x.C.c) := fun n => blk_cell ((HH0.out _ n.h).st (by omega)) 14
      have u0 : ∀ n : KX wr I,n.X.cell? ⟨w.heap.size,0,none⟩ = some (.int .i64 et) := fun n => blk_cell (n.h.blk HVj.out (blk_lt HVj.out) (HIn.out _ (by rw [Hbox.out _ (Nat.le_refl _) (by omega)]; omega))) 0
      have HAl := Lib.hid hAg
      have HI2 := Lib.hid hI
      clear hTg hAg hI hIn
      have hm1 : ¬ ((-1 : Int) ≥ 0) := by omega
      have hm2 : ((-1 : Int) < 0) := by omega
      go_wp2_with fail
      clear c14 b0
      refine wp_region_reads_tail 8 I (by kernel_rfl) (by kernel_rfl) (fun _ _ d _ _ h => by cases d <;> exact h) ?_
      simp only [List.take_succ_cons,List.take_zero,List.drop_succ_cons,List.drop_zero]
      repeat (go_big_quiet_step (fail))
      refine wpQuiet_nil ?_
      clear u14 u0
      refine tailC_one rfl ?_
      go_wp2_with fail
      obtain ⟨V1,hV1⟩ : ∃ V1,V1 = (wr.alloc (.cells #[.int .i64 et,.int .i64 0,.int .i64 0,.bool false] 142)).drew := ⟨_,rfl⟩
      have hb1 : Below wr.heap.size wr V1 := hV1 ▸ bel_drew (bel_alloc (Below.refl _ _) _)
      have HS3 := Lib.hid (HSV1.out.below hb1 (fun h => h) (fun h => h))
      have HE3 : Hid (V1.heap[(w.heap.size+1)]? = some evBox) := Lib.hid ((hb1.block _ (blk_lt HEj.out)).trans HEj.out)
      have HV3 : Hid (V1.heap[w.heap.size]? = some (.cells #[.int .i64 et,.int .u8 ek,.int .i64 en,.int .i64 es,.int .i64 ec,.int .i64 em] 51 (0,0))) := Lib.hid ((hb1.block _ (blk_lt HVj.out)).trans HVj.out)
      have HWt3 : Hid (V1.heap[(w.heap.size+1+1)]? = some (.cells #[.int .i64 0,.int .u8 ek,.int .i64 et,.int .i64 0,.int .i64 0,.int .i64 0] 51 (0,0))) := Lib.hid ((hb1.block _ (blk_lt HWtj.out)).trans HWtj.out)
      have HB3 : Hid (Below Bo w V1) := Lib.hid (HBB.out.trans (hb1.mono HSj.out.lo))
      have hcells : ∀ (j : Nat) (u : Value),(RC.cells ⟨et,0,0,false⟩)[j]? = some u→V1.cell? ((⟨wr.heap.size,0,none⟩ : Addr).add j) = some u := fun j u hu => by
       rw [hV1]
       exact cells_new wr [.int .i64 et,.int .i64 0,.int .i64 0,.bool false] 142 j u hu
      have HT1 : Hid (TkAt RC.cells 4 142 V1 Bo x.C.A x.C.n x.C.c x.cs) := Lib.hid (HS3.out.calls (fun h => h)).1
      have HLo1 : Hid (Bo≤V1.heap.size) := Lib.hid HS3.out.lo
      have HK1 : Hid (Kept wr V1 I) := Lib.hid (Kept.of_below hb1)
      have HVs : Hid (wr.heap.size≤V1.heap.size) := Lib.hid hb1.size
      have Hcells := Lib.hid hcells
      rw [← hV1]
      clear hV1 hb1 hcells
      refine QT.normal ⟨by first | exact fun _ => KX.in_ HK1.out | exact KX.in_ HK1.out,?_⟩
      refine tailC_one rfl ?_
      go_wp2_with (at_builtin; refine wpList_push rfl _ _ 77 rfl 142 i0 _ 4 32 Tryz.underlying77 hi0' hz0 hz1 hz2 rfl (by decide) len_RC one_RC Bo x.C.A x.C.n x.C.c x.cs rfl HT1.out HLo1.out ⟨et,0,0,false⟩ ⟨wr.heap.size,0,none⟩ 1 rfl Hcells.out (by simp only [maxLen]; omega) (by omega) ?_)
      intro A3 c3 w4 h1 h2 h3
      have HK4 : Hid (Kept wr w4 I) := Lib.hid (HK1.out.trans (HI2.out ▸ h2))
      have h2I : Kept V1 w4 I := HI2.out ▸ h2
      have hA3 : At φ1 4 A3 := fun q e => by
       rcases h3 q e with ⟨c',e1,e2⟩ | h4
       · rw [e2]; exact HAl.out c' e1
       · exact Hf2.out _ (by have := HVs.out; omega)
      have HH := Lib.hid (HS3.out.hole (i := 4) (h2.mono fun q ⟨ad,e,e2⟩ => by rw [e2]; exact HAl.out ad e) (by omega) (by omega))
      have HE4 : Hid (w4.heap[(w.heap.size+1)]? = some evBox) := Lib.hid (h2I.blk HE3.out (blk_lt HE3.out) (HIn.out _ (by rw [Hbox.out _ (by omega) (by omega)]; omega)))
      have HV4 : Hid (w4.heap[w.heap.size]? = some (.cells #[.int .i64 et,.int .u8 ek,.int .i64 en,.int .i64 es,.int .i64 ec,.int .i64 em] 51 (0,0))) := Lib.hid (h2I.blk HV3.out (blk_lt HV3.out) (HIn.out _ (by rw [Hbox.out _ (by omega) (by omega)]; omega)))
      have HWt4 : Hid (w4.heap[(w.heap.size+1+1)]? = some (.cells #[.int .i64 0,.int .u8 ek,.int .i64 et,.int .i64 0,.int .i64 0,.int .i64 0] 51 (0,0))) := Lib.hid (h2I.blk HWt3.out (blk_lt HWt3.out) (HIn.out _ (by rw [Hbox.out _ (by omega) (by omega)]; omega)))
      have HB4 : Hid (Below Bo w w4) := Lib.hid (HB3.out.trans (h2.below HS3.out.lo (fun q ⟨ad',e,e2⟩ => by rw [e2]; exact (HT1.out.lt e).1)))
      obtain ⟨n3,hn3⟩ : ∃ n3,n3 = x.C.n+1 := ⟨_,rfl⟩
      rw [← hn3] at h1 ⊢
      obtain ⟨W5,hW5⟩ : ∃ W5,W5 = w4.setCell ⟨a.g,14,none⟩ (.slice A3 n3 c3) := ⟨_,rfl⟩
      have HS5 := Lib.hid (hW5 ▸ HH.out.setC (fun i h => h) h1 hA3 HFit.out)
      have hk5 : Kept w4 W5 (fun q => q = a.g) := hW5 ▸ (Kept.refl w4 (fun q => q = a.g)).setCell (p := ⟨a.g,14,none⟩) (Or.inl rfl) _
      have HB5 : Hid (Below Bo w W5) := Lib.hid (HB4.out.trans (hk5.below HH.out.lo (fun q e => by rw [e]; exact H.out.fst.2.1)))
      have HE5 : Hid (W5.heap[(w.heap.size+1)]? = some evBox) := Lib.hid (hk5.blk HE4.out (blk_lt HE4.out) (by have := H.out.fst.2.2; omega))
      have HV5 : Hid (W5.heap[w.heap.size]? = some (.cells #[.int .i64 et,.int .u8 ek,.int .i64 en,.int .i64 es,.int .i64 ec,.int .i64 em] 51 (0,0))) := Lib.hid (hk5.blk HV4.out (blk_lt HV4.out) (by have := H.out.fst.2.2; omega))
      have HWt5 : Hid (W5.heap[(w.heap.size+1+1)]? = some (.cells #[.int .i64 0,.int .u8 ek,.int .i64 et,.int .i64 0,.int .i64 0,.int .i64 0] 51 (0,0))) := Lib.hid (hk5.blk HWt4.out (blk_lt HWt4.out) (by have := H.out.fst.2.2; omega))
      have dq : w4.cell? ⟨a.g,14,none⟩ = some (.slice x.C.A x.C.n x.C.c) := blk_cell (HH.out.st (by omega)) 14
      have fq : w4.frozen? ⟨a.g,14,none⟩ = false := blk_frozen (HH.out.st (by omega)) 14
      clear h1 h2 h3 h2I hk5 hn3
      refine QT.normal ⟨by first | exact fun _ => KX.in_ HK4.out | exact KX.in_ HK4.out,?_⟩
      refine tailC_one rfl ?_
      go_wp2_with fail
      refine QT.normal ⟨by first | exact fun _ => KX.in_ HK4.out | exact KX.in_ HK4.out,?_⟩
      refine tailC_one rfl ?_
      go_wp2_with fail
      refine QT.normal ⟨by first | exact fun _ => KX.in_ HK4.out | exact KX.in_ HK4.out,?_⟩
      refine tailC_one rfl ?_
      go_wp2_with fail
      refine QT.normal ⟨by simp,?_⟩
      refine tailC_nil ?_
      rw [← hW5]
      clear hW5 dq fq
      have HR := HRn
      have y1 : ∀ n : KX W5 (fun q => q = (w.heap.size+1)),n.X.cell? ⟨w.heap.size,1,none⟩ = some (.int .u8 ek) := fun n => blk_cell (n.h.blk HV5.out (blk_lt HV5.out) (by omega)) 1
      have v0 : ∀ n : KX W5 (fun q => q = (w.heap.size+1)),n.X.cell? ⟨(w.heap.size+1+1),0,none⟩ = some (.int .i64 0) := fun n => blk_cell (n.h.blk HWt5.out (blk_lt HWt5.out) (by omega)) 0
      have v1 : ∀ n : KX W5 (fun q => q = (w.heap.size+1)),n.X.cell? ⟨(w.heap.size+1+1),1,none⟩ = some (.int .u8 ek) := fun n => blk_cell (n.h.blk HWt5.out (blk_lt HWt5.out) (by omega)) 1
      have v2 : ∀ n : KX W5 (fun q => q = (w.heap.size+1)),n.X.cell? ⟨(w.heap.size+1+1),2,none⟩ = some (.int .i64 et) := fun n => blk_cell (n.h.blk HWt5.out (blk_lt HWt5.out) (by omega)) 2
      have v3 : ∀ n : KX W5 (fun q => q = (w.heap.size+1)),n.X.cell? ⟨(w.heap.size+1+1),3,none⟩ = some (.int .i64 0) := fun n => blk_cell (n.h.blk HWt5.out (blk_lt HWt5.out) (by omega)) 3
      have v4 : ∀ n : KX W5 (fun q => q = (w.heap.size+1)),n.X.cell? ⟨(w.heap.size+1+1),4,none⟩ = some (.int .i64 0) := fun n => blk_cell (n.h.blk HWt5.out (blk_lt HWt5.out) (by omega)) 4
      have v5 : ∀ n : KX W5 (fun q => q = (w.heap.size+1)),n.X.cell? ⟨(w.heap.size+1+1),5,none⟩ = some (.int .i64 0) := fun n => blk_cell (n.h.blk HWt5.out (blk_lt HWt5.out) (by omega)) 5
      go_wp2_with fail
      refine wp_region_reads_tail 4 (fun q => q = (w.heap.size+1)) (by kernel_rfl) (by kernel_rfl) (fun _ _ d _ _ h => by cases d <;> exact h) ?_
      simp only [List.take_succ_cons,List.take_zero,List.drop_succ_cons,List.drop_zero]
      repeat (go_big_quiet_step (fail))
      refine wpQuiet_nil ?_
      clear v0 v1 v2 v3 v4 v5 y1
      have HKd : Hid (Kept W5 W5.drew (fun q => q = (w.heap.size+1))) := Lib.hid (Kept.of_below (bel_drew (Below.refl _ _)))
      obtain ⟨X1,hX1⟩ : ∃ X1,X1 = W5.drew.setRow ((w.heap.size+1)) #[.int .i64 0,.int .u8 ek,.int .i64 et,.int .i64 0,.int .i64 0,.int .i64 0] := ⟨_,rfl⟩
      have hXh : X1.heap[(w.heap.size+1)]? = some (.cells #[.int .i64 0,.int .u8 ek,.int .i64 et,.int .i64 0,.int .i64 0,.int .i64 0] 51 (0,0)) := hX1 ▸ setRow_heap _ _ _ _ _ _ HE5.out
      have hXk : Kept W5 X1 (fun q => q = (w.heap.size+1)) := hX1 ▸ HKd.out.trans ⟨rfl,rfl,rfl,by simp [World.setRow],fun k _ hk => setRow_other _ _ _ _ hk⟩
      refine tailC_one rfl ?_
      refine wpList_store_row rfl 51 _ _ rfl ((w.heap.size+1)) #[.int .i64 0,.int .u8 ek,.int .i64 et,.int .i64 0,.int .i64 0,.int .i64 0] rfl rfl 51 _ HE5.out (by kernel_rfl) rfl (ev_one4 _ _ _ _) ?_
      rw [← hX1]
      have HXk := Lib.hid hXk
      have HXh := Lib.hid hXh
      clear hX1 hXh hXk
      refine QT.normal ⟨by first | exact fun _ => KX.in_ HXk.out | exact KX.in_ HXk.out,?_⟩
      refine tailC_one rfl ?_
      go_wp2_with fail
      first | refine QT.normal ⟨by simp,?_⟩ | refine QT.normal ?_
      refine tailC_nil ?_
      have r0 : X1.cell? ⟨(w.heap.size+1),0,none⟩ = some (.int .i64 0) := blk_cell HXh.out 0
      have r1 : X1.cell? ⟨(w.heap.size+1),1,none⟩ = some (.int .u8 ek) := blk_cell HXh.out 1
      have r2 : X1.cell? ⟨(w.heap.size+1),2,none⟩ = some (.int .i64 et) := blk_cell HXh.out 2
      have r3 : X1.cell? ⟨(w.heap.size+1),3,none⟩ = some (.int .i64 0) := blk_cell HXh.out 3
      have r4 : X1.cell? ⟨(w.heap.size+1),4,none⟩ = some (.int .i64 0) := blk_cell HXh.out 4
      have r5 : X1.cell? ⟨(w.heap.size+1),5,none⟩ = some (.int .i64 0) := blk_cell HXh.out 5
      have hBX : Below Bo w X1 := HB5.out.trans (HXk.out.below HS5.out.lo (fun q e => by rw [e]; have := H.out.lo; omega))
      have hSX := HS5.out.junk (HXk.out.mono fun q e => by rw [e]; exact Hbox.out _ (by omega) (by omega))
      go_wp2_with fail
      refine bodyPost_ret (v := .tuple #[.agg #[.int .i64 0,.int .u8 ek,.int .i64 et,.int .i64 0,.int .i64 0,.int .i64 0],.bool (ek == 9)]) (by simp [results,Tryz.results48,go_sem,r0,r1,r2,r3,r4,r5]) rfl ⟨ek,et,0,0,ek == 9,rfl,⟨hBX,hSX.markOk (Hlow1.out) H.out.fr.1⟩,by rw [HR.out]; exact (by rcases Classical.em (ek = 9) with h9 | h9; simp [h9]; have h9' : ¬ (9 : Int) = ek := fun e => h9 e.symm; simp [h9,h9']),fun hb1 hb2 => by rw [HR.out]; exact ⟨rfl,rfl,rfl,φ1,_,Hlow1.out,hSX,by first | exact Nat.le_refl _ | exact Nat.le_succ _⟩⟩
    | some j =>
      obtain ⟨hjn,r,hr,hrt⟩ := lastC_some hlc
      have hat := HFC.out.at_ (List.mem_of_getElem? hr)
      rw [hrt] at hat
      have Hat := Lib.hid hat
      have Hr := Lib.hid hr
      have Hrt := Lib.hid hrt
      have Hsm := Lib.hid (HFC.out.small r (List.mem_of_getElem? hr))
      obtain ⟨bc,oc,q,eA,hbl,hx,hxc⟩ := ((HSj.out.calls (fun h => h)).1).row.at_ hjn
      rw [hr] at hx; injection hx with hx; subst hx
      have HeA := Lib.hid eA
      have hbc : bc < wr.heap.size := hbl
      rw [eA] at c14
      have r1 : wr.cell? ⟨bc,oc+j * 4+1,none⟩ = some (.int .i64 r.asked) := hxc 1 _ rfl
      have r2 : wr.cell? ⟨bc,oc+j * 4+2,none⟩ = some (.int .i64 r.served) := hxc 2 _ rfl
      have r3 : wr.cell? ⟨bc,oc+j * 4+3,none⟩ = some (.bool r.ended) := hxc 3 _ rfl
      have b1 : wr.cell? ⟨w.heap.size,1,none⟩ = some (.int .u8 ek) := blk_cell HVj.out 1
      have hj0 : (0 : Int)≤(j : Int) := by omega
      have hjn' : (j : Int) < (x.C.n : Int) := by omega
      have hjm : ¬ ((j : Int) < 0) := by omega
      clear hat hr hrt hxc eA hlc hbl
      simp only [ixV]
      cases hen : r.ended with
      | true =>
        have HR : Hid (R = ((0,⟨0,0,et,0,0,0⟩,false),s)) := Lib.hid (by rw [HR0.out,Hat.out]; simp [hen])
        rw [hen] at r3
        have hE5 := HEj.out
        have hW5 := HWtj.out
        have g0 := blk_cell hE5 0
        have g1 := blk_cell hE5 1
        have g2 := blk_cell hE5 2
        have g3 := blk_cell hE5 3
        have g4 := blk_cell hE5 4
        have g5 := blk_cell hE5 5
        have k0 := blk_frozen hE5 0
        have k1 := blk_frozen hE5 1
        have k2 := blk_frozen hE5 2
        have k3 := blk_frozen hE5 3
        have k4 := blk_frozen hE5 4
        have k5 := blk_frozen hE5 5
        have v0 : wr.cell? ⟨(w.heap.size+1+1),0,none⟩ = some (.int .i64 0) := blk_cell hW5 0
        have v1 : wr.cell? ⟨(w.heap.size+1+1),1,none⟩ = some (.int .u8 ek) := blk_cell hW5 1
        have v2 : wr.cell? ⟨(w.heap.size+1+1),2,none⟩ = some (.int .i64 et) := blk_cell hW5 2
        have v3 : wr.cell? ⟨(w.heap.size+1+1),3,none⟩ = some (.int .i64 0) := blk_cell hW5 3
        have v4 : wr.cell? ⟨(w.heap.size+1+1),4,none⟩ = some (.int .i64 0) := blk_cell hW5 4
        have v5 : wr.cell? ⟨(w.heap.size+1+1),5,none⟩ = some (.int .i64 0) := blk_cell hW5 5
        clear hE5 hW5
        go_wp2_with fail
        obtain ⟨X0,hX0⟩ : ∃ X0,X0 = ((((((wr.setCell ⟨(w.heap.size+1),0,none⟩ (.int .i64 0)).setCell ⟨(w.heap.size+1),1,none⟩ (.int .u8 ek)).setCell ⟨(w.heap.size+1),2,none⟩ (.int .i64 et)).setCell ⟨(w.heap.size+1),3,none⟩ (.int .i64 0)).setCell ⟨(w.heap.size+1),4,none⟩ (.int .i64 0)).setCell ⟨(w.heap.size+1),5,none⟩ (.int .i64 0)) := ⟨_,rfl⟩
        rw [← hX0]
        obtain ⟨hXk,r0,r1,r2,r3,r4,r5⟩ := ev_box HEj.out rfl _ _ _ _ _ _ hX0
        have hBX : Below Bo w X0 := HBB.out.trans (hXk.below HSj.out.lo (fun q e => by rw [e]; have := H.out.lo; omega))
        have hSX := HSj.out.junk (hXk.mono fun q e => by rw [e]; exact Hφ2.out _ (by omega))
        clear hX0
        refine bodyPost_ret (v := .tuple #[.agg #[.int .i64 0,.int .u8 ek,.int .i64 et,.int .i64 0,.int .i64 0,.int .i64 0],.bool false]) (by simp [results,Tryz.results48,go_sem,r0,r1,r2,r3,r4,r5]) rfl ⟨ek,et,0,0,false,rfl,⟨hBX,hSX.markOk (Hφ1.out) H.out.fr.1⟩,by rw [HR.out]; try simp,fun e => by cases e⟩
      | false =>
        rw [hen] at r3
        have hRf := HR0.out
        rw [Hat.out] at hRf
        simp only [hen,Bool.false_eq_true,if_false] at hRf
        have HRf := Lib.hid hRf
        clear hRf
        by_cases h10 : ek = 10
        · have HeK := Lib.hid h10
          rw [h10] at b1
          clear h10
          have t3 : ∀ q : Ext wr,q.X.cell? ⟨w.heap.size,3,none⟩ = some (.int .i64 es) := fun q => (q.h.cell (p := ⟨w.heap.size,3,none⟩) (blk_lt HVj.out)).trans (blk_cell HVj.out 3)
          have d1 : wr.cell? ⟨a.g,1,none⟩ = some (.int .i64 c.shards) := blk_cell (HSj.out.st (fun h => h)) 1
          have e1 : ∀ q : Ext wr,q.X.cell? ⟨a.g,1,none⟩ = some (.int .i64 c.shards) := fun q => (q.h.cell (p := ⟨a.g,1,none⟩) HSj.out.fst.2.2).trans d1
          clear d1
          by_cases hs : es < 0∨c.shards≤es
          · have HR : Hid (R = ((0,⟨0,0,et,0,0,0⟩,false),s)) := Lib.hid (by
              rw [HRf.out,if_pos HeK.out,if_pos (by rcases hs with h | h; exact Or.inl h; exact Or.inr (Or.inl h))])
            have hdd : (decide (es < 0) = true∧es < 0)∨(decide (es < 0) = false∧¬ es < 0∧c.shards≤es∧decide (c.shards≤es) = true) := by
             by_cases h : es < 0
             · exact Or.inl ⟨decide_eq_true h,h⟩
             · have h2 : c.shards≤es := by rcases hs with h3 | h3; exact absurd h3 h; exact h3
               exact Or.inr ⟨decide_eq_false h,h,h2,decide_eq_true h2⟩
            clear hs
            go_wp2_with fail
            clear c14 r1 r2 r3 b1
            rcases hdd with ⟨hd1,hd2⟩ | ⟨hd1,hd2,hd3,hd4⟩
            · as_aux_lemma =>
              skip
              refine wp_region_ext (by kernel_rfl) (by kernel_rfl) ?_
              repeat (go_big_quiet_step ((fail)))
              refine Ext.end_ fun Y hY => ?_
              clear t3 e1
              have HSY := Lib.hid (HSj.out.below hY (fun h => h) (fun h => h))
              have HEY : Hid (Y.heap[(w.heap.size+1)]? = some evBox) := Lib.hid ((hY.block _ (blk_lt HEj.out)).trans HEj.out)
              have HVY : Hid (Y.heap[w.heap.size]? = some (.cells #[.int .i64 et,.int .u8 ek,.int .i64 en,.int .i64 es,.int .i64 ec,.int .i64 em] 51 (0,0))) := Lib.hid ((hY.block _ (blk_lt HVj.out)).trans HVj.out)
              have HWtY : Hid (Y.heap[(w.heap.size+1+1)]? = some (.cells #[.int .i64 0,.int .u8 ek,.int .i64 et,.int .i64 0,.int .i64 0,.int .i64 0] 51 (0,0))) := Lib.hid ((hY.block _ (blk_lt HWtj.out)).trans HWtj.out)
              have HBY : Hid (Below Bo w Y) := Lib.hid (HBB.out.trans (hY.mono HSj.out.lo))
              have hE5 := HEY.out
              have hW5 := HWtY.out
              have g0 := blk_cell hE5 0
              have g1 := blk_cell hE5 1
              have g2 := blk_cell hE5 2
              have g3 := blk_cell hE5 3
              have g4 := blk_cell hE5 4
              have g5 := blk_cell hE5 5
              have k0 := blk_frozen hE5 0
              have k1 := blk_frozen hE5 1
              have k2 := blk_frozen hE5 2
              have k3 := blk_frozen hE5 3
              have k4 := blk_frozen hE5 4
              have k5 := blk_frozen hE5 5
              have v0 : Y.cell? ⟨(w.heap.size+1+1),0,none⟩ = some (.int .i64 0) := blk_cell hW5 0
              have v1 : Y.cell? ⟨(w.heap.size+1+1),1,none⟩ = some (.int .u8 ek) := blk_cell hW5 1
              have v2 : Y.cell? ⟨(w.heap.size+1+1),2,none⟩ = some (.int .i64 et) := blk_cell hW5 2
              have v3 : Y.cell? ⟨(w.heap.size+1+1),3,none⟩ = some (.int .i64 0) := blk_cell hW5 3
              have v4 : Y.cell? ⟨(w.heap.size+1+1),4,none⟩ = some (.int .i64 0) := blk_cell hW5 4
              have v5 : Y.cell? ⟨(w.heap.size+1+1),5,none⟩ = some (.int .i64 0) := blk_cell hW5 5
              clear hE5 hW5
              go_wp2_with fail
              obtain ⟨X0,hX0⟩ : ∃ X0,X0 = ((((((Y.setCell ⟨(w.heap.size+1),0,none⟩ (.int .i64 0)).setCell ⟨(w.heap.size+1),1,none⟩ (.int .u8 ek)).setCell ⟨(w.heap.size+1),2,none⟩ (.int .i64 et)).setCell ⟨(w.heap.size+1),3,none⟩ (.int .i64 0)).setCell ⟨(w.heap.size+1),4,none⟩ (.int .i64 0)).setCell ⟨(w.heap.size+1),5,none⟩ (.int .i64 0)) := ⟨_,rfl⟩
              rw [← hX0]
              obtain ⟨hXk,r0,r1,r2,r3,r4,r5⟩ := ev_box HEY.out rfl _ _ _ _ _ _ hX0
              have hBX : Below Bo w X0 := HBY.out.trans (hXk.below HSY.out.lo (fun q e => by rw [e]; have := H.out.lo; omega))
              have hSX := HSY.out.junk (hXk.mono fun q e => by rw [e]; exact Hφ2.out _ (by omega))
              clear hX0
              refine bodyPost_ret (v := .tuple #[.agg #[.int .i64 0,.int .u8 ek,.int .i64 et,.int .i64 0,.int .i64 0,.int .i64 0],.bool false]) (by simp [results,Tryz.results48,go_sem,r0,r1,r2,r3,r4,r5]) rfl ⟨ek,et,0,0,false,rfl,⟨hBX,hSX.markOk (Hφ1.out) H.out.fr.1⟩,by rw [HR.out]; try simp,fun e => by cases e⟩
            · as_aux_lemma =>
              skip
              refine wp_region_ext (by kernel_rfl) (by kernel_rfl) ?_
              repeat (go_big_quiet_step ((fail)))
              refine Ext.end_ fun Y hY => ?_
              clear t3 e1
              have HSY := Lib.hid (HSj.out.below hY (fun h => h) (fun h => h))
              have HEY : Hid (Y.heap[(w.heap.size+1)]? = some evBox) := Lib.hid ((hY.block _ (blk_lt HEj.out)).trans HEj.out)
              have HVY : Hid (Y.heap[w.heap.size]? = some (.cells #[.int .i64 et,.int .u8 ek,.int .i64 en,.int .i64 es,.int .i64 ec,.int .i64 em] 51 (0,0))) := Lib.hid ((hY.block _ (blk_lt HVj.out)).trans HVj.out)
              have HWtY : Hid (Y.heap[(w.heap.size+1+1)]? = some (.cells #[.int .i64 0,.int .u8 ek,.int .i64 et,.int .i64 0,.int .i64 0,.int .i64 0] 51 (0,0))) := Lib.hid ((hY.block _ (blk_lt HWtj.out)).trans HWtj.out)
              have HBY : Hid (Below Bo w Y) := Lib.hid (HBB.out.trans (hY.mono HSj.out.lo))
              have hE5 := HEY.out
              have hW5 := HWtY.out
              have g0 := blk_cell hE5 0
              have g1 := blk_cell hE5 1
              have g2 := blk_cell hE5 2
              have g3 := blk_cell hE5 3
              have g4 := blk_cell hE5 4
              have g5 := blk_cell hE5 5
              have k0 := blk_frozen hE5 0
              have k1 := blk_frozen hE5 1
              have k2 := blk_frozen hE5 2
              have k3 := blk_frozen hE5 3
              have k4 := blk_frozen hE5 4
              have k5 := blk_frozen hE5 5
              have v0 : Y.cell? ⟨(w.heap.size+1+1),0,none⟩ = some (.int .i64 0) := blk_cell hW5 0
              have v1 : Y.cell? ⟨(w.heap.size+1+1),1,none⟩ = some (.int .u8 ek) := blk_cell hW5 1
              have v2 : Y.cell? ⟨(w.heap.size+1+1),2,none⟩ = some (.int .i64 et) := blk_cell hW5 2
              have v3 : Y.cell? ⟨(w.heap.size+1+1),3,none⟩ = some (.int .i64 0) := blk_cell hW5 3
              have v4 : Y.cell? ⟨(w.heap.size+1+1),4,none⟩ = some (.int .i64 0) := blk_cell hW5 4
              have v5 : Y.cell? ⟨(w.heap.size+1+1),5,none⟩ = some (.int .i64 0) := blk_cell hW5 5
              clear hE5 hW5
              go_wp2_with fail
              obtain ⟨X0,hX0⟩ : ∃ X0,X0 = ((((((Y.setCell ⟨(w.heap.size+1),0,none⟩ (.int .i64 0)).setCell ⟨(w.heap.size+1),1,none⟩ (.int .u8 ek)).setCell ⟨(w.heap.size+1),2,none⟩ (.int .i64 et)).setCell ⟨(w.heap.size+1),3,none⟩ (.int .i64 0)).setCell ⟨(w.heap.size+1),4,none⟩ (.int .i64 0)).setCell ⟨(w.heap.size+1),5,none⟩ (.int .i64 0)) := ⟨_,rfl⟩
              rw [← hX0]
              obtain ⟨hXk,r0,r1,r2,r3,r4,r5⟩ := ev_box HEY.out rfl _ _ _ _ _ _ hX0
              have hBX : Below Bo w X0 := HBY.out.trans (hXk.below HSY.out.lo (fun q e => by rw [e]; have := H.out.lo; omega))
              have hSX := HSY.out.junk (hXk.mono fun q e => by rw [e]; exact Hφ2.out _ (by omega))
              clear hX0
              refine bodyPost_ret (v := .tuple #[.agg #[.int .i64 0,.int .u8 ek,.int .i64 et,.int .i64 0,.int .i64 0,.int .i64 0],.bool false]) (by simp [results,Tryz.results48,go_sem,r0,r1,r2,r3,r4,r5]) rfl ⟨ek,et,0,0,false,rfl,⟨hBX,hSX.markOk (Hφ1.out) H.out.fr.1⟩,by rw [HR.out]; try simp,fun e => by cases e⟩
          · obtain ⟨K,hK⟩ : ∃ K : Nat,es = K := ⟨es.toNat,by omega⟩
            have Hes := Lib.hid hK
            have hKS : K < S := by have := HLc.out.2; omega
            have hnr : ¬ (es < 0∨c.shards≤es) := hs
            have Hnr := Lib.hid hnr
            rw [hK] at t3
            rw [HLc.out.2] at e1
            clear hs hnr hK
            obtain ⟨q,hq⟩ : ∃ q,s.qs[K]? = some q := ⟨_,List.getElem?_eq_getElem (by have := HI.out.ql; have := HLc.out.2; omega)⟩
            obtain ⟨lq,hlq⟩ : ∃ lq,x.QA[K]? = some lq := ⟨_,List.getElem?_eq_getElem (by have := HI.out.ql; have := HLc.out.2; have := (H.out.qb (fun h => h)).2; omega)⟩
            have hqn : lq.n = q.length := (HSj.out.qw K q lq hq hlq (fun h => h)).1.len.symm
            have hql := (HI.out.qw q (List.mem_of_getElem? hq)).1
            have d13 : wr.cell? ⟨a.g,13,none⟩ = some (.slice (some ⟨a.qb,0,none⟩) S S) := (blk_cell (HSj.out.st (fun h => h)) 13).trans (by simp [rstoryC,HLc.out.2])
            have dq : wr.cell? ⟨a.qb,K,none⟩ = some (.slice lq.A lq.n lq.c) := (blk_cell (HSj.out.qb (fun h => h)).1 K).trans (by simp [hlq,SL.v])
            have d3 : wr.cell? ⟨a.g,3,none⟩ = some (.int .i64 c.queue) := blk_cell (HSj.out.st (fun h => h)) 3
            have e3 : ∀ q : Ext wr,q.X.cell? ⟨a.g,3,none⟩ = some (.int .i64 c.queue) := fun q => (q.h.cell (p := ⟨a.g,3,none⟩) HSj.out.fst.2.2).trans d3
            have e13 : ∀ q : Ext wr,q.X.cell? ⟨a.g,13,none⟩ = some (.slice (some ⟨a.qb,0,none⟩) S S) := fun q => (q.h.cell (p := ⟨a.g,13,none⟩) HSj.out.fst.2.2).trans d13
            have eqq : ∀ q : Ext wr,q.X.cell? ⟨a.qb,K,none⟩ = some (.slice lq.A lq.n lq.c) := fun q => (q.h.cell (p := ⟨a.qb,K,none⟩) HSj.out.fqb.2.2).trans dq
            have hKI : (K : Int) < (S : Int) := by omega
            have hK0 : (0 : Int)≤(K : Int) := by omega
            have hK1 : ¬ ((K : Int) < 0) := by omega
            have hK2 : ¬ ((S : Int)≤(K : Int)) := by omega
            have dK0 : decide ((K : Int) < 0) = false := decide_eq_false hK1
            have dK1 : decide ((K : Int) < (S : Int)) = true := decide_eq_true hKI
            have dK2 : decide (K < S) = true := decide_eq_true hKS
            have dK3 : decide ((S : Int)≤(K : Int)) = false := decide_eq_false hK2
            have dK4 : decide (S≤K) = false := decide_eq_false (by omega)
            have Hqn := Lib.hid hqn
            have Hq := Lib.hid hq
            have Hlq := Lib.hid hlq
            clear d13 dq d3 hq hlq hqn
            by_cases hfull : q.length = c.queue.toNat
            · have HR : Hid (R = ((0,⟨0,0,et,0,0,0⟩,false),s)) := Lib.hid (by
                rw [HRf.out,if_pos HeK.out,if_pos (Or.inr (Or.inr (by rw [Hes.out]; simpa [Hq.out] using hfull)))])
              have hge : c.queue≤(lq.n : Int) := by have := Hqn.out; have := HL.out; omega
              have dge : decide (c.queue≤(lq.n : Int)) = true := decide_eq_true hge
              clear hfull hql
              go_wp2_with fail
              clear c14 r1 r2 r3 b1
              as_aux_lemma =>
              skip
              refine wp_region_ext (by kernel_rfl) (by kernel_rfl) ?_
              repeat (go_big_quiet_step ((fail)))
              refine Ext.end_ fun Y hY => ?_
              clear t3 e1 e13 eqq e3
              have HSY := Lib.hid (HSj.out.below hY (fun h => h) (fun h => h))
              have HEY : Hid (Y.heap[(w.heap.size+1)]? = some evBox) := Lib.hid ((hY.block _ (blk_lt HEj.out)).trans HEj.out)
              have HVY : Hid (Y.heap[w.heap.size]? = some (.cells #[.int .i64 et,.int .u8 ek,.int .i64 en,.int .i64 es,.int .i64 ec,.int .i64 em] 51 (0,0))) := Lib.hid ((hY.block _ (blk_lt HVj.out)).trans HVj.out)
              have HWtY : Hid (Y.heap[(w.heap.size+1+1)]? = some (.cells #[.int .i64 0,.int .u8 ek,.int .i64 et,.int .i64 0,.int .i64 0,.int .i64 0] 51 (0,0))) := Lib.hid ((hY.block _ (blk_lt HWtj.out)).trans HWtj.out)
              have HBY : Hid (Below Bo w Y) := Lib.hid (HBB.out.trans (hY.mono HSj.out.lo))
              have hE5 := HEY.out
              have hW5 := HWtY.out
              have g0 := blk_cell hE5 0
              have g1 := blk_cell hE5 1
              have g2 := blk_cell hE5 2
              have g3 := blk_cell hE5 3
              have g4 := blk_cell hE5 4
              have g5 := blk_cell hE5 5
              have k0 := blk_frozen hE5 0
              have k1 := blk_frozen hE5 1
              have k2 := blk_frozen hE5 2
              have k3 := blk_frozen hE5 3
              have k4 := blk_frozen hE5 4
              have k5 := blk_frozen hE5 5
              have v0 : Y.cell? ⟨(w.heap.size+1+1),0,none⟩ = some (.int .i64 0) := blk_cell hW5 0
              have v1 : Y.cell? ⟨(w.heap.size+1+1),1,none⟩ = some (.int .u8 ek) := blk_cell hW5 1
              have v2 : Y.cell? ⟨(w.heap.size+1+1),2,none⟩ = some (.int .i64 et) := blk_cell hW5 2
              have v3 : Y.cell? ⟨(w.heap.size+1+1),3,none⟩ = some (.int .i64 0) := blk_cell hW5 3
              have v4 : Y.cell? ⟨(w.heap.size+1+1),4,none⟩ = some (.int .i64 0) := blk_cell hW5 4
              have v5 : Y.cell? ⟨(w.heap.size+1+1),5,none⟩ = some (.int .i64 0) := blk_cell hW5 5
              clear hE5 hW5
              go_wp2_with fail
              obtain ⟨X0,hX0⟩ : ∃ X0,X0 = ((((((Y.setCell ⟨(w.heap.size+1),0,none⟩ (.int .i64 0)).setCell ⟨(w.heap.size+1),1,none⟩ (.int .u8 ek)).setCell ⟨(w.heap.size+1),2,none⟩ (.int .i64 et)).setCell ⟨(w.heap.size+1),3,none⟩ (.int .i64 0)).setCell ⟨(w.heap.size+1),4,none⟩ (.int .i64 0)).setCell ⟨(w.heap.size+1),5,none⟩ (.int .i64 0)) := ⟨_,rfl⟩
              rw [← hX0]
              obtain ⟨hXk,r0,r1,r2,r3,r4,r5⟩ := ev_box HEY.out rfl _ _ _ _ _ _ hX0
              have hBX : Below Bo w X0 := HBY.out.trans (hXk.below HSY.out.lo (fun q e => by rw [e]; have := H.out.lo; omega))
              have hSX := HSY.out.junk (hXk.mono fun q e => by rw [e]; exact Hφ2.out _ (by omega))
              clear hX0
              refine bodyPost_ret (v := .tuple #[.agg #[.int .i64 0,.int .u8 ek,.int .i64 et,.int .i64 0,.int .i64 0,.int .i64 0],.bool false]) (by simp [results,Tryz.results48,go_sem,r0,r1,r2,r3,r4,r5]) rfl ⟨ek,et,0,0,false,rfl,⟨hBX,hSX.markOk (Hφ1.out) H.out.fr.1⟩,by rw [HR.out]; try simp,fun e => by cases e⟩
            · have hge : ¬ c.queue≤(lq.n : Int) := by have := Hqn.out; have := HL.out; omega
              have dge : decide (c.queue≤(lq.n : Int)) = false := decide_eq_false hge
              have HR : Hid (R = ((10,⟨0,0,et,K,0,0⟩,true),{ s with qs := s.qs.set K (q ++ [(et,et)]),calls := mput s.calls r.num ((r.asked : Int) - r.served+1,r.ended) })) := Lib.hid (by
               rw [HRf.out,if_pos HeK.out,Hes.out]
               simp only [Int.toNat_natCast]
               rw [if_neg (by rw [Hq.out]; have := Hnr.out; rw [Hes.out] at this; simp only [Option.getD_some]; intro h; rcases h with h | h | h; exact this (Or.inl h); exact this (Or.inr h); exact hfull h),modify_set Hq.out,Hrt.out,hen])
              clear hfull hql
              go_wp2_with fail
              clear c14 r1 r2 r3 b1
              as_aux_lemma =>
              skip
              refine wp_region_ext (by kernel_rfl) (by kernel_rfl) ?_
              repeat (go_big_quiet_step ((fail)))
              refine Ext.end_ fun Y hY => ?_
              clear t3 e1 e13 eqq e3
              have HSY := Lib.hid (HSj.out.below hY (fun h => h) (fun h => h))
              have HEY : Hid (Y.heap[(w.heap.size+1)]? = some evBox) := Lib.hid ((hY.block _ (blk_lt HEj.out)).trans HEj.out)
              have HVY : Hid (Y.heap[w.heap.size]? = some (.cells #[.int .i64 et,.int .u8 ek,.int .i64 en,.int .i64 es,.int .i64 ec,.int .i64 em] 51 (0,0))) := Lib.hid ((hY.block _ (blk_lt HVj.out)).trans HVj.out)
              have HWtY : Hid (Y.heap[(w.heap.size+1+1)]? = some (.cells #[.int .i64 0,.int .u8 ek,.int .i64 et,.int .i64 0,.int .i64 0,.int .i64 0] 51 (0,0))) := Lib.hid ((hY.block _ (blk_lt HWtj.out)).trans HWtj.out)
              have HBY : Hid (Below Bo w Y) := Lib.hid (HBB.out.trans (hY.mono HSj.out.lo))
              obtain ⟨φ1,hφ1⟩ : ∃ φ1 : Nat→Nat,φ1 = fun b => if b < Y.heap.size then φ0 b else 100+K := ⟨_,rfl⟩
              have hf1 : ∀ b,b < Y.heap.size→φ1 b = φ0 b := fun b hb => by rw [hφ1]; simp only [if_pos hb]
              have Hf2 : Hid (∀ b,Y.heap.size≤b→φ1 b = 100+K) := Lib.hid (fun b hb => by rw [hφ1]; simp only [if_neg (show ¬ b < Y.heap.size by omega)])
              have HSV1 := Lib.hid (HSY.out.relabel hf1)
              have hvl : w.heap.size+1+1 < Y.heap.size := blk_lt HWtY.out
              have Hbox : Hid (∀ b,w.heap.size≤b→b < Y.heap.size→φ1 b = 50) := Lib.hid (fun b h1 h2 => by rw [hf1 _ h2]; exact Hφ2.out _ h1)
              have Hbox1 : Hid (φ1 (w.heap.size+1) = 50) := Lib.hid (Hbox.out _ (by omega) (by omega))
              have Hbox0 : Hid (φ1 w.heap.size = 50) := Lib.hid (Hbox.out _ (by omega) (by omega))
              have Hlow1 : Hid (∀ b,b < w.heap.size→φ1 b = φ b) := Lib.hid (fun b hb => by rw [hf1 b (by omega)]; exact Hφ1.out b hb)
              clear hφ1 hf1
              obtain ⟨hTq,hAq⟩ := HSV1.out.qw K q lq Hq.out Hlq.out (fun h => h)
              obtain ⟨i0,hi0',hz0,hz1,hz2⟩ := info_parts info_wait
              obtain ⟨I,hI⟩ : ∃ I : Nat→Prop,I = fun b => ∃ a,lq.A = some a∧b = a.block := ⟨_,rfl⟩
              have hIn : ∀ b,φ1 b≠100+K→¬ I b := fun b hb => by
               rw [hI]; rintro ⟨ad,e,e2⟩; exact hb (by rw [e2]; exact hAq ad e)
              have HIn := Lib.hid hIn
              have HH0 : Hid (∀ X,Kept Y X I→RsH X φ1 Bo (fun j => j = 100+K) c rs rs' by_ a x s) := Lib.hid (fun X k => HSV1.out.holeQ Hq.out Hlq.out (hI ▸ k))
              have u13 : ∀ n : KX Y I,n.X.cell? ⟨a.g,13,none⟩ = some (.slice (some ⟨a.qb,0,none⟩) S S) := fun n => (blk_cell ((HH0.out _ n.h).st (by omega)) 13).trans (by simp [rstoryC,HLc.out.2])
              have uq : ∀ n : KX Y I,n.X.cell? ⟨a.qb,K,none⟩ = some (.slice lq.A lq.n lq.c) := fun n => (blk_cell ((HH0.out _ n.h).qb (by omega)).1 K).trans (by simp [Hlq.out,SL.v])
              have u3 : ∀ n : KX Y I,n.X.cell? ⟨w.heap.size,3,none⟩ = some (.int .i64 K) := fun n => (blk_cell (n.h.blk HVY.out (blk_lt HVY.out) (HIn.out _ (by rw [Hbox0.out]; omega))) 3).trans (by rw [← Hes.out]; rfl)
              have u0 : ∀ n : KX Y I,n.X.cell? ⟨w.heap.size,0,none⟩ = some (.int .i64 et) := fun n => blk_cell (n.h.blk HVY.out (blk_lt HVY.out) (HIn.out _ (by rw [Hbox0.out]; omega))) 0
              have HAl := Lib.hid hAq
              have HI2 := Lib.hid hI
              have hlqn : lq.n≤1024 := by have := Hqn.out; have := HL.out; omega
              clear hTq hAq hI hIn
              go_wp2_with fail
              refine wp_region_reads_tail 19 I (by kernel_rfl) (by kernel_rfl) (fun _ _ d _ _ h => by cases d <;> exact h) ?_
              simp only [List.take_succ_cons,List.take_zero,List.drop_succ_cons,List.drop_zero]
              repeat (go_big_quiet_step (fail))
              refine wpQuiet_nil ?_
              clear u13 uq u3 u0
              refine tailC_one rfl ?_
              go_wp2_with fail
              obtain ⟨V1,hV1⟩ : ∃ V1,V1 = (Y.alloc (.cells #[.int .i64 et,.int .i64 et] 146)).drew := ⟨_,rfl⟩
              have hb1 : Below Y.heap.size Y V1 := hV1 ▸ bel_drew (bel_alloc (Below.refl _ _) _)
              have HS3 := Lib.hid (HSV1.out.below hb1 (fun h => h) (fun h => h))
              have HE3 : Hid (V1.heap[w.heap.size+1]? = some evBox) := Lib.hid ((hb1.block _ (blk_lt HEY.out)).trans HEY.out)
              have HB3 : Hid (Below Bo w V1) := Lib.hid (HBY.out.trans (hb1.mono HSY.out.lo))
              have hcells : ∀ (j : Nat) (u : Value),(askC (et,et))[j]? = some u→V1.cell? ((⟨Y.heap.size,0,none⟩ : Addr).add j) = some u := fun j u hu => by
               rw [hV1]
               exact cells_new Y [.int .i64 et,.int .i64 et] 146 j u hu
              have HT1 : Hid (TkAt askC 2 146 V1 Bo lq.A lq.n lq.c q) := Lib.hid (HS3.out.qw K q lq Hq.out Hlq.out (fun h => h)).1
              have HLo1 : Hid (Bo≤V1.heap.size) := Lib.hid HS3.out.lo
              have HK1 : Hid (Kept Y V1 I) := Lib.hid (Kept.of_below hb1)
              have HVs : Hid (Y.heap.size≤V1.heap.size) := Lib.hid hb1.size
              have Hcells := Lib.hid hcells
              rw [← hV1]
              clear hV1 hb1 hcells
              refine QT.normal ⟨by first | exact fun _ => KX.in_ HK1.out | exact KX.in_ HK1.out,?_⟩
              refine tailC_one rfl ?_
              go_wp2_with (at_builtin; refine wpList_push rfl _ _ 144 rfl 146 i0 _ 2 16 Tryz.underlying144 hi0' hz0 hz1 hz2 rfl (by decide) (fun _ => rfl) one_askC Bo lq.A lq.n lq.c q rfl HT1.out HLo1.out (et,et) ⟨Y.heap.size,0,none⟩ 1 rfl Hcells.out (by simp only [maxLen]; omega) (by omega) ?_)
              intro A3 c3 w4 h1 h2 h3
              have HK4 : Hid (Kept Y w4 I) := Lib.hid (HK1.out.trans (HI2.out ▸ h2))
              have h2I : Kept V1 w4 I := HI2.out ▸ h2
              have hA3 : At φ1 (100+K) A3 := fun q e => by
               rcases h3 q e with ⟨c',e1,e2⟩ | h4
               · rw [e2]; exact HAl.out c' e1
               · exact Hf2.out _ (by have := HVs.out; omega)
              have HH := Lib.hid (HS3.out.holeQ Hq.out Hlq.out h2)
              have HE4 : Hid (w4.heap[w.heap.size+1]? = some evBox) := Lib.hid (h2I.blk HE3.out (blk_lt HE3.out) (HIn.out _ (by rw [Hbox1.out]; omega)))
              have HB4 : Hid (Below Bo w w4) := Lib.hid (HB3.out.trans (h2.below HS3.out.lo (fun q ⟨ad',e,e2⟩ => by rw [e2]; exact (HT1.out.lt e).1)))
              obtain ⟨n3,hn3⟩ : ∃ n3,n3 = lq.n+1 := ⟨_,rfl⟩
              rw [← hn3] at h1 ⊢
              obtain ⟨W5,hW5⟩ : ∃ W5,W5 = w4.setCell ⟨a.qb,K,none⟩ (.slice A3 n3 c3) := ⟨_,rfl⟩
              have HS5 := Lib.hid (hW5 ▸ HH.out.setQ (fun i h => h) h1 hA3)
              have hk5 : Kept w4 W5 (fun q => q = a.qb) := hW5 ▸ (Kept.refl w4 (fun q => q = a.qb)).setCell (p := ⟨a.qb,K,none⟩) (Or.inl rfl) _
              have HB5 : Hid (Below Bo w W5) := Lib.hid (HB4.out.trans (hk5.below HH.out.lo (fun q e => by rw [e]; exact H.out.fqb.2.1)))
              have HE5 : Hid (W5.heap[w.heap.size+1]? = some evBox) := Lib.hid (hk5.blk HE4.out (blk_lt HE4.out) (by have := H.out.fqb.2.2; omega))
              have dq : w4.cell? ⟨a.qb,K,none⟩ = some (.slice lq.A lq.n lq.c) := (blk_cell (HH.out.qb (by omega)).1 K).trans (by simp [Hlq.out,SL.v])
              have fq : w4.frozen? ⟨a.qb,K,none⟩ = false := blk_frozen (HH.out.qb (by omega)).1 K
              have HV4 : Hid (w4.heap[w.heap.size]? = some (.cells #[.int .i64 et,.int .u8 ek,.int .i64 en,.int .i64 es,.int .i64 ec,.int .i64 em] 51 (0,0))) := Lib.hid (HK4.out.blk HVY.out (blk_lt HVY.out) (HIn.out _ (by rw [Hbox.out _ (by omega) (by omega)]; omega)))
              have HV5 : Hid (W5.heap[w.heap.size]? = some (.cells #[.int .i64 et,.int .u8 ek,.int .i64 en,.int .i64 es,.int .i64 ec,.int .i64 em] 51 (0,0))) := Lib.hid (hk5.blk HV4.out (blk_lt HV4.out) (by have := H.out.fqb.2.2; omega))
              have HWt4 : Hid (w4.heap[(w.heap.size+1+1)]? = some (.cells #[.int .i64 0,.int .u8 ek,.int .i64 et,.int .i64 0,.int .i64 0,.int .i64 0] 51 (0,0))) := Lib.hid (HK4.out.blk HWtY.out (blk_lt HWtY.out) (HIn.out _ (by rw [Hbox.out _ (by omega) (by omega)]; omega)))
              have HWt5 : Hid (W5.heap[(w.heap.size+1+1)]? = some (.cells #[.int .i64 0,.int .u8 ek,.int .i64 et,.int .i64 0,.int .i64 0,.int .i64 0] 51 (0,0))) := Lib.hid (hk5.blk HWt4.out (blk_lt HWt4.out) (by have := H.out.fqb.2.2; omega))
              clear h1 h2 h3 h2I hk5 hn3
              refine QT.normal ⟨by first | exact fun _ => KX.in_ HK4.out | exact KX.in_ HK4.out,?_⟩
              refine tailC_one rfl ?_
              go_wp2_with fail
              refine QT.normal ⟨by first | exact fun _ => KX.in_ HK4.out | exact KX.in_ HK4.out,?_⟩
              refine tailC_one rfl ?_
              go_wp2_with fail
              refine QT.normal ⟨by simp,?_⟩
              refine tailC_nil ?_
              rw [← hW5]
              clear hW5 dq fq
              have hra : r.asked≤4398046511000 := by have := Hsm.out.1; omega
              have hw6 : IntKind.i64.wrap ((r.asked : Int)+1) = r.asked+1 := by rw [IntKind.wrap_i64]; omega
              obtain ⟨p1,pf1⟩ := HS5.out.ccell 1 HeA.out Hr.out rfl
              have hbc4 : φ1 bc = 4 := (HS5.out.calls (fun h => h)).2.1 ⟨bc,oc,none⟩ HeA.out
              have Hbn : Hid (∀ b,w.heap.size≤b→b < Y.heap.size→bc≠b) := Lib.hid (fun b h1 h2 e => by have h3 := Hbox.out b h1 h2; rw [← e,hbc4] at h3; omega)
              clear hbc4
              obtain ⟨W6,hW6⟩ : ∃ W6,W6 = W5.setCell ⟨bc,oc+j * 4+1,none⟩ (.int .i64 ((r.asked : Int)+1)) := ⟨_,rfl⟩
              obtain ⟨g6,k6⟩ := HS5.out.setCall (j := j) (jj := 1) (r := r) (r' := { r with asked := r.asked+1 }) (u := .int .i64 ((r.asked : Int)+1)) (v' := ((r.asked : Int) - r.served+1,r.ended)) (bd' := x.bd+1) HeA.out Hr.out rfl (by omega) (by simp [RC.cells]) (by rw [Hrt.out]; exact Hat.out) (by simp only [Prod.mk.injEq,and_true]; omega) (Nat.le_succ _) (by have := Hsm.out; simp only; omega)
              rw [← hW6] at g6 k6
              have HS6 := Lib.hid g6
              have hk6 := k6
              clear g6 k6
              have HE6 : Hid (W6.heap[(w.heap.size+1)]? = some evBox) := Lib.hid (hk6.blk HE5.out (blk_lt HE5.out) (fun e => Hbn.out _ (by omega) (by omega) e.symm))
              have HV6 : Hid (W6.heap[w.heap.size]? = some (.cells #[.int .i64 et,.int .u8 ek,.int .i64 en,.int .i64 es,.int .i64 ec,.int .i64 em] 51 (0,0))) := Lib.hid (hk6.blk HV5.out (blk_lt HV5.out) (fun e => Hbn.out _ (by omega) (by omega) e.symm))
              have HWt6 : Hid (W6.heap[(w.heap.size+1+1)]? = some (.cells #[.int .i64 0,.int .u8 ek,.int .i64 et,.int .i64 0,.int .i64 0,.int .i64 0] 51 (0,0))) := Lib.hid (hk6.blk HWt5.out (blk_lt HWt5.out) (fun e => Hbn.out _ (by omega) (by omega) e.symm))
              have HB6 : Hid (Below Bo w W6) := Lib.hid (HB5.out.trans (hk6.below HS5.out.lo (fun q e => by rw [e]; exact ((HS5.out.calls (fun h => h)).1.lt HeA.out).1)))
              have wf3 : W6.frozen? ⟨w.heap.size+1+1,3,none⟩ = false := blk_frozen HWt6.out 3
              obtain ⟨W7,hW7⟩ : ∃ W7,W7 = W6.setCell ⟨w.heap.size+1+1,3,none⟩ (.int .i64 K) := ⟨_,rfl⟩
              have hk7 : Kept W6 W7 (fun q => q = w.heap.size+1+1) := hW7 ▸ (Kept.refl W6 (fun q => q = w.heap.size+1+1)).setCell (p := ⟨w.heap.size+1+1,3,none⟩) (Or.inl rfl) _
              have HS7 := Lib.hid (HS6.out.junk (hk7.mono fun q e => by rw [e]; exact Hbox.out _ (by omega) (by omega)))
              have HE7 : Hid (W7.heap[w.heap.size+1]? = some evBox) := Lib.hid (hk7.blk HE6.out (blk_lt HE6.out) (by omega))
              have HWt7 : Hid (W7.heap[w.heap.size+1+1]? = some (.cells #[.int .i64 0,.int .u8 ek,.int .i64 et,.int .i64 K,.int .i64 0,.int .i64 0] 51 (0,0))) := Lib.hid (by rw [hW7]; exact blk_set HWt6.out 3 _)
              have HB7 : Hid (Below Bo w W7) := Lib.hid (HB6.out.trans (hk7.below HS6.out.lo (fun q e => by rw [e]; have := H.out.lo; omega)))
              have b3 : W6.cell? ⟨w.heap.size,3,none⟩ = some (.int .i64 K) := (blk_cell HV6.out 3).trans (by rw [← Hes.out]; rfl)
              have w3 : W6.cell? ⟨w.heap.size+1+1,3,none⟩ = some (.int .i64 0) := blk_cell HWt6.out 3
              clear hk6 hk7
              go_upto_region 20 with fail
              rw [← hW6]
              clear hW6 p1 pf1 hw6
              go_upto_region 21 with fail
              rw [← hW7]
              clear hW7 b3 w3 wf3
              have hE5 := HE7.out
              have hW5 := HWt7.out
              have g0 := blk_cell hE5 0
              have g1 := blk_cell hE5 1
              have g2 := blk_cell hE5 2
              have g3 := blk_cell hE5 3
              have g4 := blk_cell hE5 4
              have g5 := blk_cell hE5 5
              have k0 := blk_frozen hE5 0
              have k1 := blk_frozen hE5 1
              have k2 := blk_frozen hE5 2
              have k3 := blk_frozen hE5 3
              have k4 := blk_frozen hE5 4
              have k5 := blk_frozen hE5 5
              have v0 : W7.cell? ⟨(w.heap.size+1+1),0,none⟩ = some (.int .i64 0) := blk_cell hW5 0
              have v1 : W7.cell? ⟨(w.heap.size+1+1),1,none⟩ = some (.int .u8 ek) := blk_cell hW5 1
              have v2 : W7.cell? ⟨(w.heap.size+1+1),2,none⟩ = some (.int .i64 et) := blk_cell hW5 2
              have v3 : W7.cell? ⟨(w.heap.size+1+1),3,none⟩ = some (.int .i64 K) := blk_cell hW5 3
              have v4 : W7.cell? ⟨(w.heap.size+1+1),4,none⟩ = some (.int .i64 0) := blk_cell hW5 4
              have v5 : W7.cell? ⟨(w.heap.size+1+1),5,none⟩ = some (.int .i64 0) := blk_cell hW5 5
              clear hE5 hW5
              go_wp2_with fail
              obtain ⟨X0,hX0⟩ : ∃ X0,X0 = ((((((W7.setCell ⟨(w.heap.size+1),0,none⟩ (.int .i64 0)).setCell ⟨(w.heap.size+1),1,none⟩ (.int .u8 ek)).setCell ⟨(w.heap.size+1),2,none⟩ (.int .i64 et)).setCell ⟨(w.heap.size+1),3,none⟩ (.int .i64 K)).setCell ⟨(w.heap.size+1),4,none⟩ (.int .i64 0)).setCell ⟨(w.heap.size+1),5,none⟩ (.int .i64 0)) := ⟨_,rfl⟩
              rw [← hX0]
              obtain ⟨hXk,r0,r1,r2,r3,r4,r5⟩ := ev_box HE7.out rfl _ _ _ _ _ _ hX0
              have hBX : Below Bo w X0 := HB7.out.trans (hXk.below HS7.out.lo (fun q e => by rw [e]; have := H.out.lo; omega))
              have hSX := HS7.out.junk (hXk.mono fun q e => by rw [e]; exact Hbox.out _ (by omega) (by omega))
              clear hX0
              refine bodyPost_ret (v := .tuple #[.agg #[.int .i64 0,.int .u8 ek,.int .i64 et,.int .i64 K,.int .i64 0,.int .i64 0],.bool true]) (by simp [results,Tryz.results48,go_sem,r0,r1,r2,r3,r4,r5]) rfl ⟨ek,et,K,0,true,rfl,⟨hBX,hSX.markOk (Hlow1.out) H.out.fr.1⟩,by rw [HR.out]; exact (by rw [HeK.out]),fun _ _ => by rw [HR.out]; exact ⟨rfl,rfl,rfl,φ1,_,Hlow1.out,hSX,by first | exact Nat.le_refl _ | exact Nat.le_succ _⟩⟩
        · by_cases h11 : ek = 11
          · skip
            have HeK := Lib.hid h11
            rw [h11] at b1
            clear h11 h10
            have hsa : ((r.served : Int) == (r.asked : Int)) = decide ((r.asked : Int) - r.served = 0) := by
             rcases Classical.em ((r.served : Int) = r.asked) with h | h
             · have h2 : (r.asked : Int) - r.served = 0 := by omega
               simp [h,h2]
             · have h2 : ¬ (r.asked : Int) - r.served = 0 := by omega
               simp only [h2,decide_false]
               simpa using h
            have Hsa := Lib.hid hsa
            have HR : Hid (R = ((11,⟨0,0,et,0,ec,0⟩,decide (0≤ec) && decide ((r.asked : Int) - r.served = 0)),s)) := Lib.hid (by
             rw [HRf.out,if_neg (by rw [HeK.out]; omega),if_pos HeK.out])
            have t4 : wr.cell? ⟨w.heap.size,4,none⟩ = some (.int .i64 ec) := blk_cell HVj.out 4
            have w4 : wr.cell? ⟨w.heap.size+1+1,4,none⟩ = some (.int .i64 0) := blk_cell HWtj.out 4
            have wf : wr.frozen? ⟨w.heap.size+1+1,4,none⟩ = false := blk_frozen HWtj.out 4
            have Hbn : Hid (∀ b,w.heap.size≤b→bc≠b) := Lib.hid (fun b h1 e => by have h3 := Hφ2.out b h1; rw [← e,HAC.out ⟨bc,oc,none⟩ HeA.out] at h3; omega)
            obtain ⟨W3,hW3⟩ : ∃ W3,W3 = wr.setCell ⟨w.heap.size+1+1,4,none⟩ (.int .i64 ec) := ⟨_,rfl⟩
            have hk3 : Kept wr W3 (fun q => q = w.heap.size+1+1) := hW3 ▸ (Kept.refl wr (fun q => q = w.heap.size+1+1)).setCell (p := ⟨w.heap.size+1+1,4,none⟩) (Or.inl rfl) _
            have HS3 := Lib.hid (HSj.out.junk (hk3.mono fun q e => by rw [e]; exact Hφ2.out _ (by omega)))
            have HE3 : Hid (W3.heap[w.heap.size+1]? = some evBox) := Lib.hid (hk3.blk HEj.out (blk_lt HEj.out) (by omega))
            have HV3 : Hid (W3.heap[w.heap.size]? = some (.cells #[.int .i64 et,.int .u8 ek,.int .i64 en,.int .i64 es,.int .i64 ec,.int .i64 em] 51 (0,0))) := Lib.hid (hk3.blk HVj.out (blk_lt HVj.out) (by omega))
            have HWt3 : Hid (W3.heap[w.heap.size+1+1]? = some (.cells #[.int .i64 0,.int .u8 ek,.int .i64 et,.int .i64 0,.int .i64 ec,.int .i64 0] 51 (0,0))) := Lib.hid (by rw [hW3]; exact blk_set HWtj.out 4 _)
            have HB3 : Hid (Below Bo w W3) := Lib.hid (HBB.out.trans (hk3.below HSj.out.lo (fun q e => by rw [e]; have := H.out.lo; omega)))
            have hbc3 : bc < W3.heap.size := ((HS3.out.calls (fun h => h)).1.lt HeA.out).2
            clear hk3 hsa
            go_wp2_with fail
            rw [← hW3]
            clear hW3 c14 r1 r2 r3 b1 t4 w4 wf
            have y1 : ∀ n : KX W3 (fun q => q = (w.heap.size+1)),n.X.cell? ⟨bc,oc+j * 4+1,none⟩ = some (.int .i64 r.asked) := fun n => (n.h.cell hbc3 (Hbn.out _ (by omega))).trans (HS3.out.ccell 1 HeA.out Hr.out rfl).1
            have y2 : ∀ n : KX W3 (fun q => q = (w.heap.size+1)),n.X.cell? ⟨bc,oc+j * 4+2,none⟩ = some (.int .i64 r.served) := fun n => (n.h.cell hbc3 (Hbn.out _ (by omega))).trans (HS3.out.ccell 2 HeA.out Hr.out rfl).1
            have y4 : ∀ n : KX W3 (fun q => q = (w.heap.size+1)),n.X.cell? ⟨w.heap.size,4,none⟩ = some (.int .i64 ec) := fun n => blk_cell (n.h.blk HV3.out (blk_lt HV3.out) (by omega)) 4
            by_cases hec : 0≤ec
            · have hd0 : decide (0≤ec) = true := decide_eq_true hec
              as_aux_lemma =>
              skip
              have v0 : ∀ n : KX W3 (fun q => q = (w.heap.size+1)),n.X.cell? ⟨(w.heap.size+1+1),0,none⟩ = some (.int .i64 0) := fun n => blk_cell (n.h.blk HWt3.out (blk_lt HWt3.out) (by omega)) 0
              have v1 : ∀ n : KX W3 (fun q => q = (w.heap.size+1)),n.X.cell? ⟨(w.heap.size+1+1),1,none⟩ = some (.int .u8 ek) := fun n => blk_cell (n.h.blk HWt3.out (blk_lt HWt3.out) (by omega)) 1
              have v2 : ∀ n : KX W3 (fun q => q = (w.heap.size+1)),n.X.cell? ⟨(w.heap.size+1+1),2,none⟩ = some (.int .i64 et) := fun n => blk_cell (n.h.blk HWt3.out (blk_lt HWt3.out) (by omega)) 2
              have v3 : ∀ n : KX W3 (fun q => q = (w.heap.size+1)),n.X.cell? ⟨(w.heap.size+1+1),3,none⟩ = some (.int .i64 0) := fun n => blk_cell (n.h.blk HWt3.out (blk_lt HWt3.out) (by omega)) 3
              have v4 : ∀ n : KX W3 (fun q => q = (w.heap.size+1)),n.X.cell? ⟨(w.heap.size+1+1),4,none⟩ = some (.int .i64 ec) := fun n => blk_cell (n.h.blk HWt3.out (blk_lt HWt3.out) (by omega)) 4
              have v5 : ∀ n : KX W3 (fun q => q = (w.heap.size+1)),n.X.cell? ⟨(w.heap.size+1+1),5,none⟩ = some (.int .i64 0) := fun n => blk_cell (n.h.blk HWt3.out (blk_lt HWt3.out) (by omega)) 5
              refine wp_region_reads_tail 15 (fun q => q = (w.heap.size+1)) (by kernel_rfl) (by kernel_rfl) (fun _ _ d _ _ h => by cases d <;> exact h) ?_
              simp only [List.take_succ_cons,List.take_zero,List.drop_succ_cons,List.drop_zero]
              repeat (go_big_quiet_step (fail))
              refine wpQuiet_nil ?_
              clear v0 v1 v2 v3 v4 v5 y1 y2 y4
              have HKd : Hid (Kept W3 W3.drew (fun q => q = (w.heap.size+1))) := Lib.hid (Kept.of_below (bel_drew (Below.refl _ _)))
              obtain ⟨X1,hX1⟩ : ∃ X1,X1 = W3.drew.setRow ((w.heap.size+1)) #[.int .i64 0,.int .u8 ek,.int .i64 et,.int .i64 0,.int .i64 ec,.int .i64 0] := ⟨_,rfl⟩
              have hXh : X1.heap[(w.heap.size+1)]? = some (.cells #[.int .i64 0,.int .u8 ek,.int .i64 et,.int .i64 0,.int .i64 ec,.int .i64 0] 51 (0,0)) := hX1 ▸ setRow_heap _ _ _ _ _ _ HE3.out
              have hXk : Kept W3 X1 (fun q => q = (w.heap.size+1)) := hX1 ▸ HKd.out.trans ⟨rfl,rfl,rfl,by simp [World.setRow],fun k _ hk => setRow_other _ _ _ _ hk⟩
              refine tailC_one rfl ?_
              refine wpList_store_row rfl 51 _ _ rfl ((w.heap.size+1)) #[.int .i64 0,.int .u8 ek,.int .i64 et,.int .i64 0,.int .i64 ec,.int .i64 0] rfl rfl 51 _ HE3.out (by kernel_rfl) rfl (ev_one4 _ _ _ _) ?_
              rw [← hX1]
              have HXk := Lib.hid hXk
              have HXh := Lib.hid hXh
              clear hX1 hXh hXk
              refine QT.normal ⟨by first | exact fun _ => KX.in_ HXk.out | exact KX.in_ HXk.out,?_⟩
              refine tailC_one rfl ?_
              go_wp2_with fail
              first | refine QT.normal ⟨by simp,?_⟩ | refine QT.normal ?_
              refine tailC_nil ?_
              have r0 : X1.cell? ⟨(w.heap.size+1),0,none⟩ = some (.int .i64 0) := blk_cell HXh.out 0
              have r1 : X1.cell? ⟨(w.heap.size+1),1,none⟩ = some (.int .u8 ek) := blk_cell HXh.out 1
              have r2 : X1.cell? ⟨(w.heap.size+1),2,none⟩ = some (.int .i64 et) := blk_cell HXh.out 2
              have r3 : X1.cell? ⟨(w.heap.size+1),3,none⟩ = some (.int .i64 0) := blk_cell HXh.out 3
              have r4 : X1.cell? ⟨(w.heap.size+1),4,none⟩ = some (.int .i64 ec) := blk_cell HXh.out 4
              have r5 : X1.cell? ⟨(w.heap.size+1),5,none⟩ = some (.int .i64 0) := blk_cell HXh.out 5
              have hBX : Below Bo w X1 := HB3.out.trans (HXk.out.below HS3.out.lo (fun q e => by rw [e]; have := H.out.lo; omega))
              have hSX := HS3.out.junk (HXk.out.mono fun q e => by rw [e]; exact Hφ2.out _ (by omega))
              go_wp2_with fail
              refine bodyPost_ret (v := .tuple #[.agg #[.int .i64 0,.int .u8 ek,.int .i64 et,.int .i64 0,.int .i64 ec,.int .i64 0],.bool ((r.served : Int) == (r.asked : Int))]) (by simp [results,Tryz.results48,go_sem,r0,r1,r2,r3,r4,r5]) rfl ⟨ek,et,0,ec,(r.served : Int) == (r.asked : Int),rfl,⟨hBX,hSX.markOk (Hφ1.out) H.out.fr.1⟩,by rw [HR.out]; exact (by rw [Hsa.out,HeK.out,decide_eq_true hec]; simp),fun hb1 hb2 => by rw [HR.out]; exact ⟨rfl,rfl,rfl,φ0,_,Hφ1.out,hSX,by first | exact Nat.le_refl _ | exact Nat.le_succ _⟩⟩
            · have hd0 : decide (0≤ec) = false := decide_eq_false hec
              have Hd0 := Lib.hid hd0
              as_aux_lemma =>
              skip
              have v0 : ∀ n : KX W3 (fun q => q = (w.heap.size+1)),n.X.cell? ⟨(w.heap.size+1+1),0,none⟩ = some (.int .i64 0) := fun n => blk_cell (n.h.blk HWt3.out (blk_lt HWt3.out) (by omega)) 0
              have v1 : ∀ n : KX W3 (fun q => q = (w.heap.size+1)),n.X.cell? ⟨(w.heap.size+1+1),1,none⟩ = some (.int .u8 ek) := fun n => blk_cell (n.h.blk HWt3.out (blk_lt HWt3.out) (by omega)) 1
              have v2 : ∀ n : KX W3 (fun q => q = (w.heap.size+1)),n.X.cell? ⟨(w.heap.size+1+1),2,none⟩ = some (.int .i64 et) := fun n => blk_cell (n.h.blk HWt3.out (blk_lt HWt3.out) (by omega)) 2
              have v3 : ∀ n : KX W3 (fun q => q = (w.heap.size+1)),n.X.cell? ⟨(w.heap.size+1+1),3,none⟩ = some (.int .i64 0) := fun n => blk_cell (n.h.blk HWt3.out (blk_lt HWt3.out) (by omega)) 3
              have v4 : ∀ n : KX W3 (fun q => q = (w.heap.size+1)),n.X.cell? ⟨(w.heap.size+1+1),4,none⟩ = some (.int .i64 ec) := fun n => blk_cell (n.h.blk HWt3.out (blk_lt HWt3.out) (by omega)) 4
              have v5 : ∀ n : KX W3 (fun q => q = (w.heap.size+1)),n.X.cell? ⟨(w.heap.size+1+1),5,none⟩ = some (.int .i64 0) := fun n => blk_cell (n.h.blk HWt3.out (blk_lt HWt3.out) (by omega)) 5
              refine wp_region_reads_tail 15 (fun q => q = (w.heap.size+1)) (by kernel_rfl) (by kernel_rfl) (fun _ _ d _ _ h => by cases d <;> exact h) ?_
              simp only [List.take_succ_cons,List.take_zero,List.drop_succ_cons,List.drop_zero]
              repeat (go_big_quiet_step (fail))
              refine wpQuiet_nil ?_
              clear v0 v1 v2 v3 v4 v5 y1 y2 y4
              have HKd : Hid (Kept W3 W3.drew (fun q => q = (w.heap.size+1))) := Lib.hid (Kept.of_below (bel_drew (Below.refl _ _)))
              obtain ⟨X1,hX1⟩ : ∃ X1,X1 = W3.drew.setRow ((w.heap.size+1)) #[.int .i64 0,.int .u8 ek,.int .i64 et,.int .i64 0,.int .i64 ec,.int .i64 0] := ⟨_,rfl⟩
              have hXh : X1.heap[(w.heap.size+1)]? = some (.cells #[.int .i64 0,.int .u8 ek,.int .i64 et,.int .i64 0,.int .i64 ec,.int .i64 0] 51 (0,0)) := hX1 ▸ setRow_heap _ _ _ _ _ _ HE3.out
              have hXk : Kept W3 X1 (fun q => q = (w.heap.size+1)) := hX1 ▸ HKd.out.trans ⟨rfl,rfl,rfl,by simp [World.setRow],fun k _ hk => setRow_other _ _ _ _ hk⟩
              refine tailC_one rfl ?_
              refine wpList_store_row rfl 51 _ _ rfl ((w.heap.size+1)) #[.int .i64 0,.int .u8 ek,.int .i64 et,.int .i64 0,.int .i64 ec,.int .i64 0] rfl rfl 51 _ HE3.out (by kernel_rfl) rfl (ev_one4 _ _ _ _) ?_
              rw [← hX1]
              have HXk := Lib.hid hXk
              have HXh := Lib.hid hXh
              clear hX1 hXh hXk
              refine QT.normal ⟨by first | exact fun _ => KX.in_ HXk.out | exact KX.in_ HXk.out,?_⟩
              refine tailC_one rfl ?_
              go_wp2_with fail
              first | refine QT.normal ⟨by simp,?_⟩ | refine QT.normal ?_
              refine tailC_nil ?_
              have r0 : X1.cell? ⟨(w.heap.size+1),0,none⟩ = some (.int .i64 0) := blk_cell HXh.out 0
              have r1 : X1.cell? ⟨(w.heap.size+1),1,none⟩ = some (.int .u8 ek) := blk_cell HXh.out 1
              have r2 : X1.cell? ⟨(w.heap.size+1),2,none⟩ = some (.int .i64 et) := blk_cell HXh.out 2
              have r3 : X1.cell? ⟨(w.heap.size+1),3,none⟩ = some (.int .i64 0) := blk_cell HXh.out 3
              have r4 : X1.cell? ⟨(w.heap.size+1),4,none⟩ = some (.int .i64 ec) := blk_cell HXh.out 4
              have r5 : X1.cell? ⟨(w.heap.size+1),5,none⟩ = some (.int .i64 0) := blk_cell HXh.out 5
              have hBX : Below Bo w X1 := HB3.out.trans (HXk.out.below HS3.out.lo (fun q e => by rw [e]; have := H.out.lo; omega))
              have hSX := HS3.out.junk (HXk.out.mono fun q e => by rw [e]; exact Hφ2.out _ (by omega))
              go_wp2_with fail
              refine bodyPost_ret (v := .tuple #[.agg #[.int .i64 0,.int .u8 ek,.int .i64 et,.int .i64 0,.int .i64 ec,.int .i64 0],.bool (false)]) (by simp [results,Tryz.results48,go_sem,r0,r1,r2,r3,r4,r5]) rfl ⟨ek,et,0,ec,false,rfl,⟨hBX,hSX.markOk (Hφ1.out) H.out.fr.1⟩,by rw [HR.out]; exact (by rw [Hd0.out]; rfl),fun hb1 hb2 => by rw [HR.out]; exact ⟨rfl,rfl,rfl,φ0,_,Hφ1.out,hSX,by first | exact Nat.le_refl _ | exact Nat.le_succ _⟩⟩
          · by_cases h12 : ek = 12
            · skip
              have HeK := Lib.hid h12
              rw [h12] at b1
              clear h12 h11 h10
              have hsa : ((r.served : Int) == (r.asked : Int)) = decide ((r.asked : Int) - r.served = 0) := by
               rcases Classical.em ((r.served : Int) = r.asked) with h | h
               · have h2 : (r.asked : Int) - r.served = 0 := by omega
                 simp [h,h2]
               · have h2 : ¬ (r.asked : Int) - r.served = 0 := by omega
                 simp only [h2,decide_false]
                 simpa using h
              have Hsa := Lib.hid hsa
              have HR : Hid (R = ((12,⟨0,0,et,0,0,0⟩,decide ((r.asked : Int) - r.served = 0)),{ s with calls := mput s.calls r.num ((r.asked : Int) - r.served,true) })) := Lib.hid (by
               rw [HRf.out,if_neg (by rw [HeK.out]; omega),if_neg (by rw [HeK.out]; omega),if_pos HeK.out,Hrt.out])
              have pf : wr.frozen? ⟨bc,oc+j * 4+3,none⟩ = false := (HSj.out.ccell 3 HeA.out Hr.out rfl).2
              have Hbn : Hid (∀ b,w.heap.size≤b→bc≠b) := Lib.hid (fun b h1 e => by have h3 := Hφ2.out b h1; rw [← e,HAC.out ⟨bc,oc,none⟩ HeA.out] at h3; omega)
              obtain ⟨W3,hW3⟩ : ∃ W3,W3 = wr.setCell ⟨bc,oc+j * 4+3,none⟩ (.bool true) := ⟨_,rfl⟩
              obtain ⟨g3,k3⟩ := HSj.out.setCall (j := j) (jj := 3) (r := r) (r' := { r with ended := true }) (u := .bool true) (v' := ((r.asked : Int) - r.served,true)) (bd' := x.bd) HeA.out Hr.out rfl (by omega) (by simp [RC.cells]) (by rw [Hrt.out]; exact Hat.out) rfl (Nat.le_refl _) (by have := Hsm.out; simp only; omega)
              rw [← hW3] at g3 k3
              have HS3 := Lib.hid g3
              have hk3 := k3
              clear g3 k3
              have HE3 : Hid (W3.heap[(w.heap.size+1)]? = some evBox) := Lib.hid (hk3.blk HEj.out (blk_lt HEj.out) (fun e => Hbn.out _ (by omega) e.symm))
              have HV3 : Hid (W3.heap[w.heap.size]? = some (.cells #[.int .i64 et,.int .u8 ek,.int .i64 en,.int .i64 es,.int .i64 ec,.int .i64 em] 51 (0,0))) := Lib.hid (hk3.blk HVj.out (blk_lt HVj.out) (fun e => Hbn.out _ (by omega) e.symm))
              have HWt3 : Hid (W3.heap[(w.heap.size+1+1)]? = some (.cells #[.int .i64 0,.int .u8 ek,.int .i64 et,.int .i64 0,.int .i64 0,.int .i64 0] 51 (0,0))) := Lib.hid (hk3.blk HWtj.out (blk_lt HWtj.out) (fun e => Hbn.out _ (by omega) e.symm))
              have HB3 : Hid (Below Bo w W3) := Lib.hid (HBB.out.trans (hk3.below HSj.out.lo (fun q e => by rw [e]; exact ((HSj.out.calls (fun h => h)).1.lt HeA.out).1)))
              have hbc3 : bc < W3.heap.size := ((HS3.out.calls (fun h => h)).1.lt HeA.out).2
              have hjl : j < x.cs.length := (List.getElem?_eq_some_iff.1 Hr.out).1
              have hr' : (x.cs.set j { r with ended := true })[j]? = some { r with ended := true } := by rw [List.getElem?_set_self hjl]
              have Hr2 := Lib.hid hr'
              clear hk3 hsa hr'
              go_wp2_with fail
              rw [← hW3]
              clear hW3 c14 r1 r2 r3 b1 pf
              have y1 : ∀ n : KX W3 (fun q => q = (w.heap.size+1)),n.X.cell? ⟨bc,oc+j * 4+1,none⟩ = some (.int .i64 r.asked) := fun n => (n.h.cell hbc3 (Hbn.out _ (by omega))).trans (HS3.out.ccell 1 HeA.out Hr2.out rfl).1
              have y2 : ∀ n : KX W3 (fun q => q = (w.heap.size+1)),n.X.cell? ⟨bc,oc+j * 4+2,none⟩ = some (.int .i64 r.served) := fun n => (n.h.cell hbc3 (Hbn.out _ (by omega))).trans (HS3.out.ccell 2 HeA.out Hr2.out rfl).1
              as_aux_lemma =>
              skip
              have v0 : ∀ n : KX W3 (fun q => q = (w.heap.size+1)),n.X.cell? ⟨(w.heap.size+1+1),0,none⟩ = some (.int .i64 0) := fun n => blk_cell (n.h.blk HWt3.out (blk_lt HWt3.out) (by omega)) 0
              have v1 : ∀ n : KX W3 (fun q => q = (w.heap.size+1)),n.X.cell? ⟨(w.heap.size+1+1),1,none⟩ = some (.int .u8 ek) := fun n => blk_cell (n.h.blk HWt3.out (blk_lt HWt3.out) (by omega)) 1
              have v2 : ∀ n : KX W3 (fun q => q = (w.heap.size+1)),n.X.cell? ⟨(w.heap.size+1+1),2,none⟩ = some (.int .i64 et) := fun n => blk_cell (n.h.blk HWt3.out (blk_lt HWt3.out) (by omega)) 2
              have v3 : ∀ n : KX W3 (fun q => q = (w.heap.size+1)),n.X.cell? ⟨(w.heap.size+1+1),3,none⟩ = some (.int .i64 0) := fun n => blk_cell (n.h.blk HWt3.out (blk_lt HWt3.out) (by omega)) 3
              have v4 : ∀ n : KX W3 (fun q => q = (w.heap.size+1)),n.X.cell? ⟨(w.heap.size+1+1),4,none⟩ = some (.int .i64 0) := fun n => blk_cell (n.h.blk HWt3.out (blk_lt HWt3.out) (by omega)) 4
              have v5 : ∀ n : KX W3 (fun q => q = (w.heap.size+1)),n.X.cell? ⟨(w.heap.size+1+1),5,none⟩ = some (.int .i64 0) := fun n => blk_cell (n.h.blk HWt3.out (blk_lt HWt3.out) (by omega)) 5
              refine wp_region_reads_tail 10 (fun q => q = (w.heap.size+1)) (by kernel_rfl) (by kernel_rfl) (fun _ _ d _ _ h => by cases d <;> exact h) ?_
              simp only [List.take_succ_cons,List.take_zero,List.drop_succ_cons,List.drop_zero]
              repeat (go_big_quiet_step (fail))
              refine wpQuiet_nil ?_
              clear v0 v1 v2 v3 v4 v5 y1 y2
              have HKd : Hid (Kept W3 W3.drew (fun q => q = (w.heap.size+1))) := Lib.hid (Kept.of_below (bel_drew (Below.refl _ _)))
              obtain ⟨X1,hX1⟩ : ∃ X1,X1 = W3.drew.setRow ((w.heap.size+1)) #[.int .i64 0,.int .u8 ek,.int .i64 et,.int .i64 0,.int .i64 0,.int .i64 0] := ⟨_,rfl⟩
              have hXh : X1.heap[(w.heap.size+1)]? = some (.cells #[.int .i64 0,.int .u8 ek,.int .i64 et,.int .i64 0,.int .i64 0,.int .i64 0] 51 (0,0)) := hX1 ▸ setRow_heap _ _ _ _ _ _ HE3.out
              have hXk : Kept W3 X1 (fun q => q = (w.heap.size+1)) := hX1 ▸ HKd.out.trans ⟨rfl,rfl,rfl,by simp [World.setRow],fun k _ hk => setRow_other _ _ _ _ hk⟩
              refine tailC_one rfl ?_
              refine wpList_store_row rfl 51 _ _ rfl ((w.heap.size+1)) #[.int .i64 0,.int .u8 ek,.int .i64 et,.int .i64 0,.int .i64 0,.int .i64 0] rfl rfl 51 _ HE3.out (by kernel_rfl) rfl (ev_one4 _ _ _ _) ?_
              rw [← hX1]
              have HXk := Lib.hid hXk
              have HXh := Lib.hid hXh
              clear hX1 hXh hXk
              refine QT.normal ⟨by first | exact fun _ => KX.in_ HXk.out | exact KX.in_ HXk.out,?_⟩
              refine tailC_one rfl ?_
              go_wp2_with fail
              first | refine QT.normal ⟨by simp,?_⟩ | refine QT.normal ?_
              refine tailC_nil ?_
              have r0 : X1.cell? ⟨(w.heap.size+1),0,none⟩ = some (.int .i64 0) := blk_cell HXh.out 0
              have r1 : X1.cell? ⟨(w.heap.size+1),1,none⟩ = some (.int .u8 ek) := blk_cell HXh.out 1
              have r2 : X1.cell? ⟨(w.heap.size+1),2,none⟩ = some (.int .i64 et) := blk_cell HXh.out 2
              have r3 : X1.cell? ⟨(w.heap.size+1),3,none⟩ = some (.int .i64 0) := blk_cell HXh.out 3
              have r4 : X1.cell? ⟨(w.heap.size+1),4,none⟩ = some (.int .i64 0) := blk_cell HXh.out 4
              have r5 : X1.cell? ⟨(w.heap.size+1),5,none⟩ = some (.int .i64 0) := blk_cell HXh.out 5
              have hBX : Below Bo w X1 := HB3.out.trans (HXk.out.below HS3.out.lo (fun q e => by rw [e]; have := H.out.lo; omega))
              have hSX := HS3.out.junk (HXk.out.mono fun q e => by rw [e]; exact Hφ2.out _ (by omega))
              go_wp2_with fail
              refine bodyPost_ret (v := .tuple #[.agg #[.int .i64 0,.int .u8 ek,.int .i64 et,.int .i64 0,.int .i64 0,.int .i64 0],.bool ((r.served : Int) == (r.asked : Int))]) (by simp [results,Tryz.results48,go_sem,r0,r1,r2,r3,r4,r5]) rfl ⟨ek,et,0,0,(r.served : Int) == (r.asked : Int),rfl,⟨hBX,hSX.markOk (Hφ1.out) H.out.fr.1⟩,by rw [HR.out]; exact (by rw [Hsa.out,HeK.out]),fun hb1 hb2 => by rw [HR.out]; exact ⟨rfl,rfl,rfl,φ0,_,Hφ1.out,hSX,by first | exact Nat.le_refl _ | exact Nat.le_succ _⟩⟩
            · have HR : Hid (R = ((0,⟨0,0,et,0,0,0⟩,false),s)) := Lib.hid (by rw [HRf.out,if_neg h10,if_neg h11,if_neg h12])
              as_aux_lemma =>
              skip
              have hE5 := HEj.out
              have hW5 := HWtj.out
              have g0 := blk_cell hE5 0
              have g1 := blk_cell hE5 1
              have g2 := blk_cell hE5 2
              have g3 := blk_cell hE5 3
              have g4 := blk_cell hE5 4
              have g5 := blk_cell hE5 5
              have k0 := blk_frozen hE5 0
              have k1 := blk_frozen hE5 1
              have k2 := blk_frozen hE5 2
              have k3 := blk_frozen hE5 3
              have k4 := blk_frozen hE5 4
              have k5 := blk_frozen hE5 5
              have v0 : wr.cell? ⟨(w.heap.size+1+1),0,none⟩ = some (.int .i64 0) := blk_cell hW5 0
              have v1 : wr.cell? ⟨(w.heap.size+1+1),1,none⟩ = some (.int .u8 ek) := blk_cell hW5 1
              have v2 : wr.cell? ⟨(w.heap.size+1+1),2,none⟩ = some (.int .i64 et) := blk_cell hW5 2
              have v3 : wr.cell? ⟨(w.heap.size+1+1),3,none⟩ = some (.int .i64 0) := blk_cell hW5 3
              have v4 : wr.cell? ⟨(w.heap.size+1+1),4,none⟩ = some (.int .i64 0) := blk_cell hW5 4
              have v5 : wr.cell? ⟨(w.heap.size+1+1),5,none⟩ = some (.int .i64 0) := blk_cell hW5 5
              clear hE5 hW5
              go_wp2_with fail
              obtain ⟨X0,hX0⟩ : ∃ X0,X0 = ((((((wr.setCell ⟨(w.heap.size+1),0,none⟩ (.int .i64 0)).setCell ⟨(w.heap.size+1),1,none⟩ (.int .u8 ek)).setCell ⟨(w.heap.size+1),2,none⟩ (.int .i64 et)).setCell ⟨(w.heap.size+1),3,none⟩ (.int .i64 0)).setCell ⟨(w.heap.size+1),4,none⟩ (.int .i64 0)).setCell ⟨(w.heap.size+1),5,none⟩ (.int .i64 0)) := ⟨_,rfl⟩
              rw [← hX0]
              obtain ⟨hXk,r0,r1,r2,r3,r4,r5⟩ := ev_box HEj.out rfl _ _ _ _ _ _ hX0
              have hBX : Below Bo w X0 := HBB.out.trans (hXk.below HSj.out.lo (fun q e => by rw [e]; have := H.out.lo; omega))
              have hSX := HSj.out.junk (hXk.mono fun q e => by rw [e]; exact Hφ2.out _ (by omega))
              clear hX0
              refine bodyPost_ret (v := .tuple #[.agg #[.int .i64 0,.int .u8 ek,.int .i64 et,.int .i64 0,.int .i64 0,.int .i64 0],.bool false]) (by simp [results,Tryz.results48,go_sem,r0,r1,r2,r3,r4,r5]) rfl ⟨ek,et,0,0,false,rfl,⟨hBX,hSX.markOk (Hφ1.out) H.out.fr.1⟩,by rw [HR.out]; try simp,fun e => by cases e⟩
end Go.Proofs.YtcjmppjppmiggaaGreat

/- owner: what is done for a request: the functions of the table. -/
import Derived.Test.YtafghiekpgjniaaGreatDoorPW
import Derived.Test.YtafghiekpgjniaaGreatDoorShE
import Derived.Deep.DeepCutAuto
import Derived.Deep.RegionHeld3
namespace Go.Proofs.YtafghiekpgjniaaGreatDoor
open Go.RowKit
set_option linter.unusedVariables false
set_option linter.unusedSimpArgs false

set_option maxRecDepth 100000
def partR (r : Rq) : Part := ⟨r.num, ⟨r.wk, r.wv, r.wd⟩⟩
/-- What a function of the table is handed: a pointer to the owner, a reply that is all but empty. -/
structure SrvAt (w0 w : World) (o : OB) (first : Nat) (L : Hs) (q : List Rq) (bo ob : Nat) (tt : Int) : Prop where
  ow : OwAt w0 o first L q
  bel : Below w0.heap.size w0 w
  bo0 : w0.heap.size ≤ bo
  ob0 : w0.heap.size ≤ ob
  bo1 : w.heap[bo]? = some (.cells #[.pointer (some ⟨o.g, 0, none⟩)] 99 (0, 0))
  ob1 : w.heap[ob]? = some (.cells #[.int .i64 tt, .bool true, .slice none 0 0, .slice none 0 0, .int .i64 0] 105 (0, 0))
theorem SrvAt.below {w0 w w' : World} {o : OB} {first : Nat} {L : Hs} {q : List Rq} {bo ob : Nat} {tt : Int} (h : SrvAt w0 w o first L q bo ob tt) (hb : Below w.heap.size w w') : SrvAt w0 w' o first L q bo ob tt :=
  ⟨h.ow, h.bel.trans (hb.mono h.bel.size), h.bo0, h.ob0, (hb.block _ (blk_lt h.bo1)).trans h.bo1, (hb.block _ (blk_lt h.ob1)).trans h.ob1⟩
/-- What is so behind a function of the table: the reply's block is cs, the shard holds L'. -/
structure SrvEnd (w0 w : World) (o : OB) (ob : Nat) (L' : Hs) (cs : Array Value) (w' : World) : Prop where
  sh : ShAt w' o.t L'
  kept : Kept w0 w' (· = o.t.p)
  ob2 : w'.heap[ob]? = some (.cells cs 105 (0, 0))
  kept2 : Kept w w' (fun b => b = o.t.p ∨ b = ob)
theorem SrvEnd.set {w0 w w' : World} {o : OB} {ob : Nat} {L' : Hs} {cs : Array Value} (h : SrvEnd w0 w o ob L' cs w') (h0 : w0.heap.size ≤ ob) (hlt : o.t.g < w0.heap.size ∧ o.t.p < w0.heap.size) (i : Nat) (u : Value) :
    SrvEnd w0 w o ob L' (cs.setIfInBounds i u) (w'.setCell ⟨ob, i, none⟩ u) := by
  have k : Kept w' (w'.setCell ⟨ob, i, none⟩ u) (fun k => k = ob) := (Kept.refl w' (fun k => k = ob)).setCell (p := ⟨ob, i, none⟩) (Or.inl rfl) _
  refine ⟨h.sh.keptV k (fun b hb => ?_), h.kept.setCell (p := ⟨ob, i, none⟩) (Or.inr h0) _, blk_set h.ob2 i u, h.kept2.setCell (p := ⟨ob, i, none⟩) (Or.inl (Or.inr rfl)) _⟩
  subst hb
  exact ⟨by omega, by omega, (fun cs fr hc => by rw [h.ob2] at hc; cases hc)⟩
theorem SrvEnd.below {w0 w w' w'' : World} {o : OB} {ob : Nat} {L' : Hs} {cs : Array Value} (h : SrvEnd w0 w o ob L' cs w') (hb : Below w'.heap.size w' w'') : SrvEnd w0 w o ob L' cs w'' :=
  ⟨h.sh.below hb, h.kept.trans (Kept.of_below hb), (hb.block _ (blk_lt h.ob2)).trans h.ob2, h.kept2.trans (Kept.of_below hb)⟩
theorem SrvEnd.base {w0 w W w' : World} {o : OB} {ob : Nat} {L' : Hs} {cs : Array Value} (h : SrvEnd w0 W o ob L' cs w') (hb : Below w.heap.size w W) : SrvEnd w0 w o ob L' cs w' :=
  ⟨h.sh, h.kept, h.ob2, (Kept.of_below hb).trans h.kept2⟩
theorem SrvAt.end_ {w0 w w' : World} {o : OB} {first : Nat} {L L' : Hs} {q : List Rq} {bo ob : Nat} {tt : Int} (h : SrvAt w0 w o first L q bo ob tt) (hs : ShAt w' o.t L') (k : Kept w w' (· = o.t.p)) :
    SrvEnd w0 w o ob L' #[.int .i64 tt, .bool true, .slice none 0 0, .slice none 0 0, .int .i64 0] w' :=
  ⟨hs, (Kept.of_below h.bel).trans k, k.blk h.ob1 (blk_lt h.ob1) (fun e => by have := h.ow.sh.lt; have := h.ob0; omega), k.mono fun _ h => Or.inl h⟩
theorem slice_of_own {w : World} {B size n : Nat} {e : TypeId} {v : Value} {xs : List Value} (h : w.ownsRow B e size v n xs) : ∃ A m c, v = .slice A m c := by
  obtain ⟨-, ⟨h2, -⟩ | ⟨g, cap, cur, h3, -⟩⟩ := h
  · exact ⟨_, _, _, h2⟩
  · exact ⟨_, _, _, h3⟩
theorem hrow_kept {w w' : World} {X : Nat → Prop} {B : Nat} {v : Value} {hs : List HR} (h : HRow w B v hs) (k : Kept w w' X) (hX : ∀ b, X b → b < B) : HRow w' B v hs :=
  ⟨ownsRow_kept h.1 k hX, fun r hr => ⟨ownsRow_kept (h.2.1 r hr).1 k hX, (h.2.1 r hr).2⟩, h.2.2⟩
set_option maxHeartbeats 4000000 in
theorem srv1_any (w0 w : World) (o : OB) (first : Nat) (L : Hs) (q : List Rq) (bo ob : Nat) (tt : Int) (r : Rq) (h : SrvAt w0 w o first L q bo ob tt) :
    Calls Tryz.prog 195 #[r.val, .pointer (some ⟨ob, 0, none⟩), .pointer (some ⟨bo, 0, none⟩)] w fun e w' => e = .returned (.tuple #[]) ∧ SrvEnd w0 w o ob (instH L (partR r)) #[.int .i64 tt, .bool (newP L (partR r)), .slice none 0 0, .slice none 0 0, .int .i64 0] w' := by
  have H := Lib.hid h
  have hlt := h.ow.sh.lt
  have h0 := h.ob0
  have Hlt := Lib.hid hlt
  have htp := Lib.hid h.ow.tp_ne
  have hbo := h.bo0
  have hsz := h.bel.size
  clear h
  unfold Rq.val
  go_enter Tryz.func195, Tryz.ntmps195
  go_upto_region 1 with fail
  obtain ⟨W, hW⟩ : ∃ W, W = w.alloc (.cells r.cells.toArray 98) := ⟨_, rfl⟩
  change Code.wp _ _ _ _ (w.alloc (.cells r.cells.toArray 98))
  rw [← hW]
  have HS : Hid (SrvAt w0 W o first L q bo ob tt) := Lib.hid (hW ▸ H.out.below (bel_alloc (Below.refl _ _) _))
  have HN : Hid (W.heap[w.heap.size]? = some (.cells r.cells.toArray 98 (0, 0))) := Lib.hid (hW ▸ blk_new _ _)
  have HBW : Hid (Below w.heap.size w W) := Lib.hid (hW ▸ bel_alloc (Below.refl _ _) _)
  clear hW
  have hk : ∀ X, Kept W X (fun b => b = o.t.p ∨ b = ob) → X.cell? ⟨bo, 0, none⟩ = some (.pointer (some ⟨o.g, 0, none⟩)) ∧ X.cell? ⟨o.g, 0, none⟩ = some (.pointer (some ⟨o.t.g, 0, none⟩)) ∧ X.cell? ⟨w.heap.size, 2, none⟩ = some (.int .i64 r.num) ∧ X.cell? ⟨w.heap.size, 3, none⟩ = some (.string r.wk) ∧ X.cell? ⟨w.heap.size, 4, none⟩ = some (.string r.wv) ∧ X.cell? ⟨w.heap.size, 5, none⟩ = some (.bool r.wd) ∧ X.cell? ⟨w.heap.size, 6, none⟩ = some (.string r.key) ∧ X.cell? ⟨w.heap.size, 7, none⟩ = some (.string r.fin) ∧ X.cell? ⟨w.heap.size, 8, none⟩ = some (.slice r.A r.len r.cap) := fun X k => by
    have hne : bo ≠ ob := fun e => by have e1 := HS.out.bo1; rw [e, HS.out.ob1] at e1; cases e1
    have hobl := blk_lt H.out.ob1
    have hgl := blk_lt H.out.ow.hg
    have hgt := htp.out.1
    have b1 := k.blk HS.out.bo1 (blk_lt HS.out.bo1) (by omega)
    have b2 := k.blk HN.out (blk_lt HN.out) (by omega)
    have hog := (HS.out.ow.below HS.out.bel).hg
    have b3 := k.blk hog (blk_lt hog) (by omega)
    obtain ⟨z0, z1, z2, z3, z4, z5, z6, z7, z8⟩ := rqz r.kind r.from_ r.num r.wk r.wv r.wd r.key r.fin r.A r.len r.cap b2
    exact ⟨blk_cell b1 0, blk_cell b3 0, z2, z3, z4, z5, z6, z7, z8⟩
  have HK := Lib.hid hk
  clear hk
  have HSh : Hid (ShAt W.drew o.t L) := Lib.hid (((HS.out.ow.below HS.out.bel).sh).below (Below.refl _ _).drew)
  have HSd : Hid (SrvAt w0 W.drew o first L q bo ob tt) := Lib.hid (HS.out.below (Below.refl _ _).drew)
  have HKd : Hid (Kept W W.drew (· = o.t.p)) := Lib.hid (Kept.of_below (Below.refl _ _).drew)
  have HBd : Hid (Below w.heap.size w W.drew) := Lib.hid (bel_drew HBW.out)
  have hds : w.heap.size ≤ W.drew.heap.size := HBd.out.size
  clear HS HBW hlt
  go_region_held3 (fun X => X.cell? ⟨bo, 0, none⟩ = some (.pointer (some ⟨o.g, 0, none⟩)) ∧ X.cell? ⟨o.g, 0, none⟩ = some (.pointer (some ⟨o.t.g, 0, none⟩)) ∧ X.cell? ⟨w.heap.size, 2, none⟩ = some (.int .i64 r.num) ∧ X.cell? ⟨w.heap.size, 3, none⟩ = some (.string r.wk) ∧ X.cell? ⟨w.heap.size, 4, none⟩ = some (.string r.wv) ∧ X.cell? ⟨w.heap.size, 5, none⟩ = some (.bool r.wd) ∧ X.cell? ⟨w.heap.size, 6, none⟩ = some (.string r.key) ∧ X.cell? ⟨w.heap.size, 7, none⟩ = some (.string r.fin) ∧ X.cell? ⟨w.heap.size, 8, none⟩ = some (.slice r.A r.len r.cap))
    (first | (refine HK.out _ ?_; (first | exact Kept.of_below (Below.refl _ _).drew | exact K3o.out | exact K4.out _ _)))
    (first
      | (go_at_call 107; refine (install_any o.t L (partR r) _ HSh.out).mono ?_; rintro e w3 ⟨rfl, hs3, k3⟩; have K3 : Hid (Kept W w3 (· = o.t.p)) := Lib.hid (HKd.out.trans k3); have K3o : Hid (Kept W w3 (fun b => b = o.t.p ∨ b = ob)) := Lib.hid (K3.out.mono (fun _ h => Or.inl h)); have K4 : Hid (∀ (i : Nat) (u : Value), Kept W (w3.setCell ⟨ob, i, none⟩ u) (fun b => b = o.t.p ∨ b = ob)) := Lib.hid (fun i u => K3o.out.setCell (p := ⟨ob, i, none⟩) (Or.inl (Or.inr rfl)) u); have HE := Lib.hid ((HSd.out.end_ hs3 k3).base HBd.out); have yc : w3.cell? ⟨ob, 1, none⟩ = some (.bool true) := blk_cell HE.out.ob2 1; have yf := blk_frozen HE.out.ob2 1; clear hs3 k3))
  go_wp2_with fail
  refine bodyPost_end (results_none rfl _ _ _) rfl ?_
  exact ⟨rfl, HE.out.set h0 Hlt.out 1 _⟩
set_option maxHeartbeats 4000000 in
theorem srv3_any (w0 w : World) (o : OB) (first : Nat) (L : Hs) (q : List Rq) (bo ob : Nat) (tt : Int) (r : Rq) (h : SrvAt w0 w o first L q bo ob tt) (hn : L.length ≤ 3518437208883) :
    Calls Tryz.prog 197 #[r.val, .pointer (some ⟨ob, 0, none⟩), .pointer (some ⟨bo, 0, none⟩)] w fun e w' => e = .returned (.tuple #[]) ∧ ∃ v, SrvEnd w0 w o ob L #[.int .i64 tt, .bool true, v, .slice none 0 0, .int .i64 0] w' ∧ OwnE w' w.heap.size v (scanH L r.key r.fin r.num) := by
  have H := Lib.hid h
  have hlt := h.ow.sh.lt
  have h0 := h.ob0
  have Hlt := Lib.hid hlt
  have htp := Lib.hid h.ow.tp_ne
  have hbo := h.bo0
  have hsz := h.bel.size
  have Hobl := Lib.hid (blk_lt h.ob1)
  clear h
  unfold Rq.val
  go_enter Tryz.func197, Tryz.ntmps197
  go_upto_region 1 with fail
  obtain ⟨W, hW⟩ : ∃ W, W = w.alloc (.cells r.cells.toArray 98) := ⟨_, rfl⟩
  change Code.wp _ _ _ _ (w.alloc (.cells r.cells.toArray 98))
  rw [← hW]
  have HS : Hid (SrvAt w0 W o first L q bo ob tt) := Lib.hid (hW ▸ H.out.below (bel_alloc (Below.refl _ _) _))
  have HN : Hid (W.heap[w.heap.size]? = some (.cells r.cells.toArray 98 (0, 0))) := Lib.hid (hW ▸ blk_new _ _)
  have HBW : Hid (Below w.heap.size w W) := Lib.hid (hW ▸ bel_alloc (Below.refl _ _) _)
  clear hW
  have hk : ∀ X, Kept W X (fun b => b = o.t.p ∨ b = ob) → X.cell? ⟨bo, 0, none⟩ = some (.pointer (some ⟨o.g, 0, none⟩)) ∧ X.cell? ⟨o.g, 0, none⟩ = some (.pointer (some ⟨o.t.g, 0, none⟩)) ∧ X.cell? ⟨w.heap.size, 2, none⟩ = some (.int .i64 r.num) ∧ X.cell? ⟨w.heap.size, 3, none⟩ = some (.string r.wk) ∧ X.cell? ⟨w.heap.size, 4, none⟩ = some (.string r.wv) ∧ X.cell? ⟨w.heap.size, 5, none⟩ = some (.bool r.wd) ∧ X.cell? ⟨w.heap.size, 6, none⟩ = some (.string r.key) ∧ X.cell? ⟨w.heap.size, 7, none⟩ = some (.string r.fin) ∧ X.cell? ⟨w.heap.size, 8, none⟩ = some (.slice r.A r.len r.cap) := fun X k => by
    have hne : bo ≠ ob := fun e => by have e1 := HS.out.bo1; rw [e, HS.out.ob1] at e1; cases e1
    have hobl := blk_lt H.out.ob1
    have hgl := blk_lt H.out.ow.hg
    have hgt := htp.out.1
    have b1 := k.blk HS.out.bo1 (blk_lt HS.out.bo1) (by omega)
    have b2 := k.blk HN.out (blk_lt HN.out) (by omega)
    have hog := (HS.out.ow.below HS.out.bel).hg
    have b3 := k.blk hog (blk_lt hog) (by omega)
    obtain ⟨z0, z1, z2, z3, z4, z5, z6, z7, z8⟩ := rqz r.kind r.from_ r.num r.wk r.wv r.wd r.key r.fin r.A r.len r.cap b2
    exact ⟨blk_cell b1 0, blk_cell b3 0, z2, z3, z4, z5, z6, z7, z8⟩
  have HK := Lib.hid hk
  clear hk
  have HSh : Hid (ShAt W.drew o.t L) := Lib.hid (((HS.out.ow.below HS.out.bel).sh).below (Below.refl _ _).drew)
  have HSd : Hid (SrvAt w0 W.drew o first L q bo ob tt) := Lib.hid (HS.out.below (Below.refl _ _).drew)
  have HKd : Hid (Kept W W.drew (· = o.t.p)) := Lib.hid (Kept.of_below (Below.refl _ _).drew)
  have HBd : Hid (Below w.heap.size w W.drew) := Lib.hid (bel_drew HBW.out)
  have hds : w.heap.size ≤ W.drew.heap.size := HBd.out.size
  clear HS HBW hlt
  go_region_held3 (fun X => X.cell? ⟨bo, 0, none⟩ = some (.pointer (some ⟨o.g, 0, none⟩)) ∧ X.cell? ⟨o.g, 0, none⟩ = some (.pointer (some ⟨o.t.g, 0, none⟩)) ∧ X.cell? ⟨w.heap.size, 2, none⟩ = some (.int .i64 r.num) ∧ X.cell? ⟨w.heap.size, 3, none⟩ = some (.string r.wk) ∧ X.cell? ⟨w.heap.size, 4, none⟩ = some (.string r.wv) ∧ X.cell? ⟨w.heap.size, 5, none⟩ = some (.bool r.wd) ∧ X.cell? ⟨w.heap.size, 6, none⟩ = some (.string r.key) ∧ X.cell? ⟨w.heap.size, 7, none⟩ = some (.string r.fin) ∧ X.cell? ⟨w.heap.size, 8, none⟩ = some (.slice r.A r.len r.cap))
    (first | (refine HK.out _ ?_; (first | exact Kept.of_below (Below.refl _ _).drew | exact K3o.out | exact K4.out _ _)))
    (first
      | (go_at_call 33; refine (scan_any o.t L r.key r.fin r.num _ HSh.out (by omega)).mono ?_; rintro e w3 ⟨v, rfl, hown, hb3⟩; obtain ⟨A3, n3, c3, rfl⟩ := slice_of_own hown; have K3 : Hid (Kept W w3 (· = o.t.p)) := Lib.hid (HKd.out.trans (Kept.of_below (X := (· = o.t.p)) hb3)); have K3o : Hid (Kept W w3 (fun b => b = o.t.p ∨ b = ob)) := Lib.hid (K3.out.mono (fun _ h => Or.inl h)); have K4 : Hid (∀ (i : Nat) (u : Value), Kept W (w3.setCell ⟨ob, i, none⟩ u) (fun b => b = o.t.p ∨ b = ob)) := Lib.hid (fun i u => K3o.out.setCell (p := ⟨ob, i, none⟩) (Or.inl (Or.inr rfl)) u); have HE := Lib.hid ((HSd.out.end_ (HSh.out.below hb3) (Kept.of_below (X := (· = o.t.p)) hb3)).base HBd.out); have yc : w3.cell? ⟨ob, 2, none⟩ = some (.slice none 0 0) := blk_cell HE.out.ob2 2; have yf := blk_frozen HE.out.ob2 2; have HO := Lib.hid (ownsRow_base_a hown hds); clear hown hb3))
  go_wp2_with fail
  refine bodyPost_end (results_none rfl _ _ _) rfl ?_
  exact ⟨rfl, _, HE.out.set h0 Hlt.out 2 _, ownsRow_kept HO.out ((Kept.refl w3 (fun k => k = ob)).setCell (p := ⟨ob, 2, none⟩) (Or.inl rfl) _) (fun b hb => by subst hb; exact Hobl.out)⟩
set_option maxHeartbeats 4000000 in
theorem srv4_any (w0 w : World) (o : OB) (first : Nat) (L : Hs) (q : List Rq) (bo ob : Nat) (tt : Int) (r : Rq) (h : SrvAt w0 w o first L q bo ob tt) (hn : sizeH L ≤ 1152921504606846976) (hnl : L.length ≤ 3518437208883) :
    Calls Tryz.prog 198 #[r.val, .pointer (some ⟨ob, 0, none⟩), .pointer (some ⟨bo, 0, none⟩)] w fun e w' => e = .returned (.tuple #[]) ∧ SrvEnd w0 w o ob (collH L r.num) #[.int .i64 tt, .bool true, .slice none 0 0, .slice none 0 0, .int .i64 (goneH L r.num : Nat)] w' := by
  have H := Lib.hid h
  have hlt := h.ow.sh.lt
  have h0 := h.ob0
  have Hlt := Lib.hid hlt
  have htp := Lib.hid h.ow.tp_ne
  have hbo := h.bo0
  have hsz := h.bel.size
  clear h
  unfold Rq.val
  go_enter Tryz.func198, Tryz.ntmps198
  go_upto_region 1 with fail
  obtain ⟨W, hW⟩ : ∃ W, W = w.alloc (.cells r.cells.toArray 98) := ⟨_, rfl⟩
  change Code.wp _ _ _ _ (w.alloc (.cells r.cells.toArray 98))
  rw [← hW]
  have HS : Hid (SrvAt w0 W o first L q bo ob tt) := Lib.hid (hW ▸ H.out.below (bel_alloc (Below.refl _ _) _))
  have HN : Hid (W.heap[w.heap.size]? = some (.cells r.cells.toArray 98 (0, 0))) := Lib.hid (hW ▸ blk_new _ _)
  have HBW : Hid (Below w.heap.size w W) := Lib.hid (hW ▸ bel_alloc (Below.refl _ _) _)
  clear hW
  have hk : ∀ X, Kept W X (fun b => b = o.t.p ∨ b = ob) → X.cell? ⟨bo, 0, none⟩ = some (.pointer (some ⟨o.g, 0, none⟩)) ∧ X.cell? ⟨o.g, 0, none⟩ = some (.pointer (some ⟨o.t.g, 0, none⟩)) ∧ X.cell? ⟨w.heap.size, 2, none⟩ = some (.int .i64 r.num) ∧ X.cell? ⟨w.heap.size, 3, none⟩ = some (.string r.wk) ∧ X.cell? ⟨w.heap.size, 4, none⟩ = some (.string r.wv) ∧ X.cell? ⟨w.heap.size, 5, none⟩ = some (.bool r.wd) ∧ X.cell? ⟨w.heap.size, 6, none⟩ = some (.string r.key) ∧ X.cell? ⟨w.heap.size, 7, none⟩ = some (.string r.fin) ∧ X.cell? ⟨w.heap.size, 8, none⟩ = some (.slice r.A r.len r.cap) := fun X k => by
    have hne : bo ≠ ob := fun e => by have e1 := HS.out.bo1; rw [e, HS.out.ob1] at e1; cases e1
    have hobl := blk_lt H.out.ob1
    have hgl := blk_lt H.out.ow.hg
    have hgt := htp.out.1
    have b1 := k.blk HS.out.bo1 (blk_lt HS.out.bo1) (by omega)
    have b2 := k.blk HN.out (blk_lt HN.out) (by omega)
    have hog := (HS.out.ow.below HS.out.bel).hg
    have b3 := k.blk hog (blk_lt hog) (by omega)
    obtain ⟨z0, z1, z2, z3, z4, z5, z6, z7, z8⟩ := rqz r.kind r.from_ r.num r.wk r.wv r.wd r.key r.fin r.A r.len r.cap b2
    exact ⟨blk_cell b1 0, blk_cell b3 0, z2, z3, z4, z5, z6, z7, z8⟩
  have HK := Lib.hid hk
  clear hk
  have HSh : Hid (ShAt W.drew o.t L) := Lib.hid (((HS.out.ow.below HS.out.bel).sh).below (Below.refl _ _).drew)
  have HSd : Hid (SrvAt w0 W.drew o first L q bo ob tt) := Lib.hid (HS.out.below (Below.refl _ _).drew)
  have HKd : Hid (Kept W W.drew (· = o.t.p)) := Lib.hid (Kept.of_below (Below.refl _ _).drew)
  have HBd : Hid (Below w.heap.size w W.drew) := Lib.hid (bel_drew HBW.out)
  have hds : w.heap.size ≤ W.drew.heap.size := HBd.out.size
  clear HS HBW hlt
  go_region_held3 (fun X => X.cell? ⟨bo, 0, none⟩ = some (.pointer (some ⟨o.g, 0, none⟩)) ∧ X.cell? ⟨o.g, 0, none⟩ = some (.pointer (some ⟨o.t.g, 0, none⟩)) ∧ X.cell? ⟨w.heap.size, 2, none⟩ = some (.int .i64 r.num) ∧ X.cell? ⟨w.heap.size, 3, none⟩ = some (.string r.wk) ∧ X.cell? ⟨w.heap.size, 4, none⟩ = some (.string r.wv) ∧ X.cell? ⟨w.heap.size, 5, none⟩ = some (.bool r.wd) ∧ X.cell? ⟨w.heap.size, 6, none⟩ = some (.string r.key) ∧ X.cell? ⟨w.heap.size, 7, none⟩ = some (.string r.fin) ∧ X.cell? ⟨w.heap.size, 8, none⟩ = some (.slice r.A r.len r.cap))
    (first | (refine HK.out _ ?_; (first | exact Kept.of_below (Below.refl _ _).drew | exact K3o.out | exact K4.out _ _)))
    (first
      | (go_at_call 112; refine (collects2_any o.t L r.num _ HSh.out hn hnl).mono ?_; rintro e w3 ⟨rfl, hs3, k3⟩; have K3 : Hid (Kept W w3 (· = o.t.p)) := Lib.hid (HKd.out.trans k3); have K3o : Hid (Kept W w3 (fun b => b = o.t.p ∨ b = ob)) := Lib.hid (K3.out.mono (fun _ h => Or.inl h)); have K4 : Hid (∀ (i : Nat) (u : Value), Kept W (w3.setCell ⟨ob, i, none⟩ u) (fun b => b = o.t.p ∨ b = ob)) := Lib.hid (fun i u => K3o.out.setCell (p := ⟨ob, i, none⟩) (Or.inl (Or.inr rfl)) u); have HE := Lib.hid ((HSd.out.end_ hs3 k3).base HBd.out); have yc : w3.cell? ⟨ob, 4, none⟩ = some (.int .i64 0) := blk_cell HE.out.ob2 4; have yf := blk_frozen HE.out.ob2 4; clear hs3 k3))
  go_wp2_with fail
  refine bodyPost_end (results_none rfl _ _ _) rfl ?_
  exact ⟨rfl, HE.out.set h0 Hlt.out 4 _⟩
set_option maxHeartbeats 4000000 in
theorem srv5_any (w0 w : World) (o : OB) (first : Nat) (L : Hs) (q : List Rq) (bo ob : Nat) (tt : Int) (r : Rq) (h : SrvAt w0 w o first L q bo ob tt) (hn : L.length ≤ 3518437208883) (hrow : RowAt Icell 1 w w.heap.size r.A r.len r.bs) (hlr : r.len ≤ 17592186044416) :
    Calls Tryz.prog 199 #[r.val, .pointer (some ⟨ob, 0, none⟩), .pointer (some ⟨bo, 0, none⟩)] w fun e w' => e = .returned (.tuple #[]) ∧ ∃ v hs, SrvEnd w0 w o ob L #[.int .i64 tt, .bool true, .slice none 0 0, v, .int .i64 0] w' ∧ HRow w' w.heap.size v hs ∧ plainR hs = dumpH L r.num r.bs ∧ Kept w w' (· = ob) := by
  have H := Lib.hid h
  have hlt := h.ow.sh.lt
  have h0 := h.ob0
  have Hlt := Lib.hid hlt
  have htp := Lib.hid h.ow.tp_ne
  have hbo := h.bo0
  have hsz := h.bel.size
  have Hobl := Lib.hid (blk_lt h.ob1)
  have Hrow := Lib.hid hrow
  clear hrow
  clear h
  unfold Rq.val
  go_enter Tryz.func199, Tryz.ntmps199
  go_upto_region 1 with fail
  obtain ⟨W, hW⟩ : ∃ W, W = w.alloc (.cells r.cells.toArray 98) := ⟨_, rfl⟩
  change Code.wp _ _ _ _ (w.alloc (.cells r.cells.toArray 98))
  rw [← hW]
  have HS : Hid (SrvAt w0 W o first L q bo ob tt) := Lib.hid (hW ▸ H.out.below (bel_alloc (Below.refl _ _) _))
  have HN : Hid (W.heap[w.heap.size]? = some (.cells r.cells.toArray 98 (0, 0))) := Lib.hid (hW ▸ blk_new _ _)
  have HBW : Hid (Below w.heap.size w W) := Lib.hid (hW ▸ bel_alloc (Below.refl _ _) _)
  clear hW
  have hk : ∀ X, Kept W X (fun b => b = o.t.p ∨ b = ob) → X.cell? ⟨bo, 0, none⟩ = some (.pointer (some ⟨o.g, 0, none⟩)) ∧ X.cell? ⟨o.g, 0, none⟩ = some (.pointer (some ⟨o.t.g, 0, none⟩)) ∧ X.cell? ⟨w.heap.size, 2, none⟩ = some (.int .i64 r.num) ∧ X.cell? ⟨w.heap.size, 3, none⟩ = some (.string r.wk) ∧ X.cell? ⟨w.heap.size, 4, none⟩ = some (.string r.wv) ∧ X.cell? ⟨w.heap.size, 5, none⟩ = some (.bool r.wd) ∧ X.cell? ⟨w.heap.size, 6, none⟩ = some (.string r.key) ∧ X.cell? ⟨w.heap.size, 7, none⟩ = some (.string r.fin) ∧ X.cell? ⟨w.heap.size, 8, none⟩ = some (.slice r.A r.len r.cap) := fun X k => by
    have hne : bo ≠ ob := fun e => by have e1 := HS.out.bo1; rw [e, HS.out.ob1] at e1; cases e1
    have hobl := blk_lt H.out.ob1
    have hgl := blk_lt H.out.ow.hg
    have hgt := htp.out.1
    have b1 := k.blk HS.out.bo1 (blk_lt HS.out.bo1) (by omega)
    have b2 := k.blk HN.out (blk_lt HN.out) (by omega)
    have hog := (HS.out.ow.below HS.out.bel).hg
    have b3 := k.blk hog (blk_lt hog) (by omega)
    obtain ⟨z0, z1, z2, z3, z4, z5, z6, z7, z8⟩ := rqz r.kind r.from_ r.num r.wk r.wv r.wd r.key r.fin r.A r.len r.cap b2
    exact ⟨blk_cell b1 0, blk_cell b3 0, z2, z3, z4, z5, z6, z7, z8⟩
  have HK := Lib.hid hk
  clear hk
  have HSh : Hid (ShAt W.drew o.t L) := Lib.hid (((HS.out.ow.below HS.out.bel).sh).below (Below.refl _ _).drew)
  have HSd : Hid (SrvAt w0 W.drew o first L q bo ob tt) := Lib.hid (HS.out.below (Below.refl _ _).drew)
  have HKd : Hid (Kept W W.drew (· = o.t.p)) := Lib.hid (Kept.of_below (Below.refl _ _).drew)
  have HBd : Hid (Below w.heap.size w W.drew) := Lib.hid (bel_drew HBW.out)
  have hds : w.heap.size ≤ W.drew.heap.size := HBd.out.size
  have HRowd : Hid (RowAt Icell 1 W.drew W.drew.heap.size r.A r.len r.bs) := Lib.hid ((Hrow.out.below HBd.out).more hds)
  clear HS HBW hlt
  go_region_held3 (fun X => X.cell? ⟨bo, 0, none⟩ = some (.pointer (some ⟨o.g, 0, none⟩)) ∧ X.cell? ⟨o.g, 0, none⟩ = some (.pointer (some ⟨o.t.g, 0, none⟩)) ∧ X.cell? ⟨w.heap.size, 2, none⟩ = some (.int .i64 r.num) ∧ X.cell? ⟨w.heap.size, 3, none⟩ = some (.string r.wk) ∧ X.cell? ⟨w.heap.size, 4, none⟩ = some (.string r.wv) ∧ X.cell? ⟨w.heap.size, 5, none⟩ = some (.bool r.wd) ∧ X.cell? ⟨w.heap.size, 6, none⟩ = some (.string r.key) ∧ X.cell? ⟨w.heap.size, 7, none⟩ = some (.string r.fin) ∧ X.cell? ⟨w.heap.size, 8, none⟩ = some (.slice r.A r.len r.cap))
    (first | (refine HK.out _ ?_; (first | exact Kept.of_below (Below.refl _ _).drew | exact K3o.out | exact K4.out _ _)))
    (first
      | (go_at_call 32; refine (dump_any o.t L r.num r.A r.len r.cap r.bs _ HSh.out hn HRowd.out hlr).mono ?_; rintro e w3 ⟨v, hs, rfl, hown, hpl, hb3⟩; obtain ⟨A3, n3, c3, rfl⟩ := slice_of_own hown.1; have K3 : Hid (Kept W w3 (· = o.t.p)) := Lib.hid (HKd.out.trans (Kept.of_below (X := (· = o.t.p)) hb3)); have K3o : Hid (Kept W w3 (fun b => b = o.t.p ∨ b = ob)) := Lib.hid (K3.out.mono (fun _ h => Or.inl h)); have K4 : Hid (∀ (i : Nat) (u : Value), Kept W (w3.setCell ⟨ob, i, none⟩ u) (fun b => b = o.t.p ∨ b = ob)) := Lib.hid (fun i u => K3o.out.setCell (p := ⟨ob, i, none⟩) (Or.inl (Or.inr rfl)) u); have HE := Lib.hid ((HSd.out.end_ (HSh.out.below hb3) (Kept.of_below (X := (· = o.t.p)) hb3)).base HBd.out); have yc : w3.cell? ⟨ob, 3, none⟩ = some (.slice none 0 0) := blk_cell HE.out.ob2 3; have yf := blk_frozen HE.out.ob2 3; have HO := Lib.hid (hown.base hds); have Hpl := Lib.hid hpl; have KO3 : Hid (Kept w w3 (· = ob)) := Lib.hid (Kept.of_below (HBd.out.trans (hb3.mono hds))); clear hown hpl hb3))
  go_wp2_with fail
  refine bodyPost_end (results_none rfl _ _ _) rfl ?_
  exact ⟨rfl, _, hs, HE.out.set h0 Hlt.out 3 _, hrow_kept HO.out ((Kept.refl w3 (fun k => k = ob)).setCell (p := ⟨ob, 3, none⟩) (Or.inl rfl) _) (fun b hb => by subst hb; exact Hobl.out), Hpl.out, KO3.out.setCell (p := ⟨ob, 3, none⟩) (Or.inl rfl) _⟩
set_option maxHeartbeats 4000000 in
theorem srv2_any (w0 w : World) (o : OB) (first : Nat) (L : Hs) (q : List Rq) (bo ob : Nat) (tt : Int) (r : Rq) (h : SrvAt w0 w o first L q bo ob tt) :
    Calls Tryz.prog 196 #[r.val, .pointer (some ⟨ob, 0, none⟩), .pointer (some ⟨bo, 0, none⟩)] w fun e w' => e = .returned (.tuple #[]) ∧ ∃ v, SrvEnd w0 w o ob L #[.int .i64 tt, .bool (getV (hget L r.key) r.num).2, v, .slice none 0 0, .int .i64 0] w' ∧ (if (getV (hget L r.key) r.num).2 = true then OwnE w' w.heap.size v [(r.key, (getV (hget L r.key) r.num).1)] else v = .slice none 0 0) := by
  have H := Lib.hid h
  have hlt := h.ow.sh.lt
  have h0 := h.ob0
  have Hlt := Lib.hid hlt
  have htp := Lib.hid h.ow.tp_ne
  have hbo := h.bo0
  have hsz := h.bel.size
  have Hobl := Lib.hid (blk_lt h.ob1)
  have hget2 : ∀ X, ShAt X o.t L → Calls Tryz.prog 109 #[.pointer (some ⟨o.t.g, 0, none⟩), .string r.key, .int .i64 r.num] X fun e w' => e = .returned (.tuple #[.string (getV (hget L r.key) r.num).1, .bool (getV (hget L r.key) r.num).2]) ∧ Below X.heap.size X w' := fun X hX => get_any o.t L r.key r.num X hX
  generalize getV (hget L r.key) r.num = gv at hget2 ⊢
  obtain ⟨val, ok⟩ := gv
  simp only at hget2 ⊢
  clear h
  unfold Rq.val
  go_enter Tryz.func196, Tryz.ntmps196
  go_upto_region 1 with fail
  obtain ⟨W, hW⟩ : ∃ W, W = w.alloc (.cells r.cells.toArray 98) := ⟨_, rfl⟩
  change Code.wp _ _ _ _ (w.alloc (.cells r.cells.toArray 98))
  rw [← hW]
  have HS : Hid (SrvAt w0 W o first L q bo ob tt) := Lib.hid (hW ▸ H.out.below (bel_alloc (Below.refl _ _) _))
  have HN : Hid (W.heap[w.heap.size]? = some (.cells r.cells.toArray 98 (0, 0))) := Lib.hid (hW ▸ blk_new _ _)
  have HBW : Hid (Below w.heap.size w W) := Lib.hid (hW ▸ bel_alloc (Below.refl _ _) _)
  clear hW
  have hk : ∀ X, Kept W X (fun b => b = o.t.p ∨ b = ob) → X.cell? ⟨bo, 0, none⟩ = some (.pointer (some ⟨o.g, 0, none⟩)) ∧ X.cell? ⟨o.g, 0, none⟩ = some (.pointer (some ⟨o.t.g, 0, none⟩)) ∧ X.cell? ⟨w.heap.size, 2, none⟩ = some (.int .i64 r.num) ∧ X.cell? ⟨w.heap.size, 3, none⟩ = some (.string r.wk) ∧ X.cell? ⟨w.heap.size, 4, none⟩ = some (.string r.wv) ∧ X.cell? ⟨w.heap.size, 5, none⟩ = some (.bool r.wd) ∧ X.cell? ⟨w.heap.size, 6, none⟩ = some (.string r.key) ∧ X.cell? ⟨w.heap.size, 7, none⟩ = some (.string r.fin) ∧ X.cell? ⟨w.heap.size, 8, none⟩ = some (.slice r.A r.len r.cap) := fun X k => by
    have hne : bo ≠ ob := fun e => by have e1 := HS.out.bo1; rw [e, HS.out.ob1] at e1; cases e1
    have hobl := blk_lt H.out.ob1
    have hgl := blk_lt H.out.ow.hg
    have hgt := htp.out.1
    have b1 := k.blk HS.out.bo1 (blk_lt HS.out.bo1) (by omega)
    have b2 := k.blk HN.out (blk_lt HN.out) (by omega)
    have hog := (HS.out.ow.below HS.out.bel).hg
    have b3 := k.blk hog (blk_lt hog) (by omega)
    obtain ⟨z0, z1, z2, z3, z4, z5, z6, z7, z8⟩ := rqz r.kind r.from_ r.num r.wk r.wv r.wd r.key r.fin r.A r.len r.cap b2
    exact ⟨blk_cell b1 0, blk_cell b3 0, z2, z3, z4, z5, z6, z7, z8⟩
  have HK := Lib.hid hk
  clear hk
  have HSh : Hid (ShAt W.drew o.t L) := Lib.hid (((HS.out.ow.below HS.out.bel).sh).below (Below.refl _ _).drew)
  have HSd : Hid (SrvAt w0 W.drew o first L q bo ob tt) := Lib.hid (HS.out.below (Below.refl _ _).drew)
  have HKd : Hid (Kept W W.drew (· = o.t.p)) := Lib.hid (Kept.of_below (Below.refl _ _).drew)
  have HBd : Hid (Below w.heap.size w W.drew) := Lib.hid (bel_drew HBW.out)
  have hds : w.heap.size ≤ W.drew.heap.size := HBd.out.size
  clear HS HBW hlt
  go_region_held3 (fun X => X.cell? ⟨bo, 0, none⟩ = some (.pointer (some ⟨o.g, 0, none⟩)) ∧ X.cell? ⟨o.g, 0, none⟩ = some (.pointer (some ⟨o.t.g, 0, none⟩)) ∧ X.cell? ⟨w.heap.size, 2, none⟩ = some (.int .i64 r.num) ∧ X.cell? ⟨w.heap.size, 3, none⟩ = some (.string r.wk) ∧ X.cell? ⟨w.heap.size, 4, none⟩ = some (.string r.wv) ∧ X.cell? ⟨w.heap.size, 5, none⟩ = some (.bool r.wd) ∧ X.cell? ⟨w.heap.size, 6, none⟩ = some (.string r.key) ∧ X.cell? ⟨w.heap.size, 7, none⟩ = some (.string r.fin) ∧ X.cell? ⟨w.heap.size, 8, none⟩ = some (.slice r.A r.len r.cap))
    (first | (refine HK.out _ ?_; (first | exact Kept.of_below (Below.refl _ _).drew | exact K3o.out | exact K4.out _ _)))
    (first
      | (go_at_call 109; refine (hget2 _ HSh.out).mono ?_; rintro e w3 ⟨rfl, hb3⟩; have K3 : Hid (Kept W w3 (· = o.t.p)) := Lib.hid (HKd.out.trans (Kept.of_below (X := (· = o.t.p)) hb3)); have K3o : Hid (Kept W w3 (fun b => b = o.t.p ∨ b = ob)) := Lib.hid (K3.out.mono (fun _ h => Or.inl h)); have K4 : Hid (∀ (i : Nat) (u : Value), Kept W (w3.setCell ⟨ob, i, none⟩ u) (fun b => b = o.t.p ∨ b = ob)) := Lib.hid (fun i u => K3o.out.setCell (p := ⟨ob, i, none⟩) (Or.inl (Or.inr rfl)) u); have HE := Lib.hid ((HSd.out.end_ (HSh.out.below hb3) (Kept.of_below (X := (· = o.t.p)) hb3)).base HBd.out); have yc : w3.cell? ⟨ob, 1, none⟩ = some (.bool true) := blk_cell HE.out.ob2 1; have yf := blk_frozen HE.out.ob2 1; have yc2 : w3.cell? ⟨ob, 2, none⟩ = some (.slice none 0 0) := blk_cell HE.out.ob2 2; have yf2 := blk_frozen HE.out.ob2 2; have hs3 : w.heap.size ≤ w3.heap.size := Nat.le_trans hds hb3.size; clear hb3))
  have hobl := Hobl.out
  obtain ⟨-, -, -, -, -, -, y6, -, -⟩ := HK.out w3 K3o.out
  have E1 := Lib.hid (HE.out.set h0 Hlt.out 1 (.bool ok))
  have z6 : (w3.setCell ⟨ob, 1, none⟩ (.bool ok)).cell? ⟨w.heap.size, 6, none⟩ = some (.string r.key) := by
    rw [World.cell?_setCell_other _ _ _ _ (by intro e; injection e with e; omega)]; exact y6
  have z2 : (w3.setCell ⟨ob, 1, none⟩ (.bool ok)).cell? ⟨ob, 2, none⟩ = some (.slice none 0 0) := blk_cell E1.out.ob2 2
  have zf2 := blk_frozen E1.out.ob2 2
  have hsz5 : (w3.setCell ⟨ob, 1, none⟩ (.bool ok)).heap.size = w3.heap.size := by simp [World.setCell]
  cases ok
  · go_wp2_with fail
    refine bodyPost_end (results_none rfl _ _ _) rfl ?_
    exact ⟨rfl, E1.out⟩
  · clear y6 yc2 yf2 HE
    go_upto_region 4 with fail
    generalize w3.setCell ⟨ob, 1, none⟩ (.bool true) = w5 at E1 z6 z2 zf2 hsz5 ⊢
    have hob5 : ob < w5.heap.size := by omega
    have hno5 : ¬ ob = w5.heap.size := by omega
    have hw5 : w.heap.size ≤ w5.heap.size := by omega
    clear hsz5 hs3
    go_wp2_with fail
    refine bodyPost_end (results_none rfl _ _ _) rfl ?_
    have E2 := (E1.out.set h0 Hlt.out 2 (.slice (some ⟨w5.heap.size, 0, none⟩) 1 1)).below (bel_alloc (Below.refl _ _) (.cells #[.string r.key, .string val] 116))
    have hz : (w5.setCell ⟨ob, 2, none⟩ (.slice (some ⟨w5.heap.size, 0, none⟩) 1 1)).heap.size = w5.heap.size := by simp [World.setCell]
    have hbn := blk_new (w5.setCell ⟨ob, 2, none⟩ (.slice (some ⟨w5.heap.size, 0, none⟩) 1 1)) (.cells #[.string r.key, .string val] 116)
    rw [hz] at hbn
    exact ⟨rfl, _, E2, rfl, Or.inr ⟨w5.heap.size, 1, #[.string r.key, .string val], rfl, hw5, hbn, Nat.le_refl _, by simp [maxLen], rfl, rfl⟩⟩
end Go.Proofs.YtafghiekpgjniaaGreatDoor

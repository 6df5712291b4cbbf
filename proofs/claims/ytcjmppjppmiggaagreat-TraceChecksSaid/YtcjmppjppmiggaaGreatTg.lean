/- XTg: out of XT1 XT2 XT3 XT4b XTw XTwI XTwT XTwL XRs4 XLaw22 XShp XShq XShf XShg XIns XCpy XSh0 XSh1 XSh2 XSh3 XSh6 XSh7 XOn1 XTh (pick.py). -/
import Derived.Test.YtcjmppjppmiggaaGreatRuA
import Derived.Test.YtcjmppjppmiggaaGreatTl1
import Derived.Deep.RegionHeld3
import Derived.BigQuiet
import Derived.Deep.QuietTactic
namespace Go.Proofs.YtcjmppjppmiggaaGreat
open Go.RowKit
set_option linter.unusedVariables false
set_option linter.unusedSimpArgs false

def spW : Wr := ⟨⟨#[115,112,97,114,101]⟩,⟨#[]⟩,false⟩
theorem take_snoc_flat {α : Type} {cells : α→List Value} {l : List α} {k : Nat} {x : α} (h : l[k]? = some x) : (l.take (k+1)).flatMap cells = (l.take k).flatMap cells ++ cells x := by
 rw [List.take_add_one,h]; simp
theorem blk_of_own {w : World} {base g n size : Nat} {e : TypeId} {xs : List Value} (h : w.ownsRow base e size (.slice (some ⟨g,0,none⟩) n n) n xs) : w.heap[g]? = some (.cells xs.toArray e (0,0)) := by
 obtain ⟨h1,h2 | ⟨g',cap,cur,hv,hg,hh,hn,hc,hsz,ht⟩⟩ := h
 · simp at h2
 · simp at hv
   obtain ⟨rfl,rfl⟩ := hv
   rw [hh]
   have : cur.toList = xs := by rw [← ht,List.take_of_length_le (by rw [Array.length_toList,hsz]; exact Nat.le_refl _)]
   rw [← this]

theorem row_of_blk {α : Type} {cells : α→List Value} {size : Nat} {w : World} {g B : Nat} {e : TypeId} {xs : List α} {sp : α} (hs : ∀ x ∈ xs ++ [sp],(cells x).length = size) (h : w.heap[g]? = some (.cells ((xs ++ [sp]).flatMap cells).toArray e (0,0))) (hB : g < B) :
    RowAt cells size w B (some ⟨g,0,none⟩) (xs.length+1) (xs ++ [sp]) := by
 have := rowAt_block (B := B) (xs ++ [sp]) hs h hB (fun j u hu => by simpa using hu)
 simpa using this

def spI : Int := 7777
theorem len_int (xs : List Int) : ∀ x ∈ xs,(Icell x).length = 1 := fun _ _ => rfl
theorem len_tx (rs : List RTx) : ∀ x ∈ rs,(RTx.cells x).length = 2 := fun _ _ => rfl
theorem one_tx (x : RTx) : ∀ (u : Value),u ∈ x.cells→u.oneCell' = true := by
 intro u hu; simp only [RTx.cells,List.mem_cons,List.not_mem_nil,or_false] at hu; rcases hu with rfl | rfl <;> rfl
def RTx.twin (r : RTx) (w : World) (b : Nat) : Prop := r.A = some ⟨b,0,none⟩∧r.cap = r.len+1∧w.heap[b]? = some (.cells ((r.ws ++ [spW]).flatMap Wr.cells).toArray 85 (0,0))∧r.ws.length = r.len

set_option maxHeartbeats 1000000 in
theorem twinW_any (A : Option Addr) (len cap : Nat) (xs : List Wr) (w : World) (hw : RowAt Wr.cells 3 w w.heap.size A len xs) (hreach : len * 40≤140737488351232) :
    Calls Tryz.prog 33 #[.slice A len cap] w fun e w' => e = .returned (.slice (some ⟨w.heap.size,0,none⟩) len (len+1))∧w'.heap[w.heap.size]? = some (.cells ((xs ++ [spW]).flatMap Wr.cells).toArray 85 (0,0))∧Below w.heap.size w w' := by
 have hlen := Lib.hid hw.len
 obtain ⟨i0,hi,hz0,hz1,hz2⟩ := info_parts info_wr
 go_enter Tryz.func33,Tryz.ntmps33
 go_wp2_with (at_make; refine wpList_make_own _ rfl _ _ 43 rfl w.heap.size 85 i0 _ 3 Tryz.underlying43 hi hz0 hz1 _ _ _ (len+1) rfl rfl (by omega) (by rw [hz2]; omega) (by simp only [maxLen]; omega) (Nat.le_refl _) ?_; intro w1 hown1 hgrow1)
 have hs1 : w.heap.size < w1.heap.size := (hown1.lt _ rfl).2
 have hbw1 : Below w.heap.size w w1 := (Below.refl _ _).grown hgrow1 (Nat.le_refl _) (fun k hk => by cases hk)
 go_wp2_with fail
 go_loopw [3,4] (fun v i wr => ∃ k : Nat,k≤len∧i = .int .i64 k∧v = .slice (some ⟨w.heap.size,0,none⟩) k (len+1)∧wr.ownsRow w.heap.size 85 3 (.slice (some ⟨w.heap.size,0,none⟩) k (len+1)) k ((xs.take k).flatMap Wr.cells)∧Below w.heap.size w wr) (fun _ i _ => len - (RowKit.intOf i).toNat)
 case atStart => exact ⟨0,Nat.zero_le _,rfl,rfl,hown1,hbw1⟩
 case round =>
  obtain ⟨k,hk,rfl,rfl,hown,hb⟩ := hrel
  have hr := hw.below hb
  have Hb := Lib.hid hb
  have hs := hb.size
  have hgl := (hown.lt _ rfl).2
  clear hb hown1 hgrow1 hbw1
  by_cases hlt : k < len
  · obtain ⟨b,off,x,rfl,hbl,hx,hxc⟩ := hr.at_ hlt
    have x0 := hxc 0 _ rfl
    have x1 := hxc 1 _ rfl
    have x2 := hxc 2 _ rfl
    simp only [Nat.add_zero] at x0
    have Hx := Lib.hid hx
    clear hx hxc
    go_wp2_with (at_builtin; refine wpList_append_fits _ rfl _ _ 43 rfl w.heap.size 85 i0 3 Tryz.underlying43 hi hz1 w.heap.size k (len+1) _ rfl (hown.alloc _) ⟨wr.heap.size,0,none⟩ 1 1 (Wr.cells x) rfl rfl (cells_new _ _ _) (one_wr x) (by omega) ?_; intro w2 hown2 hg2)
    have hbl2 := below_grown_new hown hg2 (by omega)
    refine ⟨⟨k+1,by omega,by go_num,rfl,?_,Hb.out.trans hbl2⟩,by simp [RowKit.intOf]; omega⟩
    rw [take_snoc_flat Hx.out]; exact hown2
  · have hkl : k = len := by omega
    subst hkl
    have htk : xs.take k = xs := List.take_of_length_le (by have := hlen.out; omega)
    rw [htk] at hown
    go_wp2_with (at_builtin; refine wpList_append_fits _ rfl _ _ 43 rfl w.heap.size 85 i0 3 Tryz.underlying43 hi hz1 w.heap.size k (k+1) _ rfl (hown.alloc _) ⟨wr.heap.size,0,none⟩ 1 1 (Wr.cells spW) rfl rfl (cells_new _ _ _) (one_wr spW) (by omega) ?_; intro w2 hown2 hg2)
    have hbl2 := below_grown_new hown hg2 (by omega)
    go_wp2_with fail
    go_ret
    exact ⟨rfl,by simpa using blk_of_own hown2,Hb.out.trans hbl2⟩

set_option maxHeartbeats 1000000 in
theorem leftW_any (g : Nat) (A : Option Addr) (len cap : Nat) (xs : List Wr) (w : World) (hg : w.heap[g]? = some (.cells ((xs ++ [spW]).flatMap Wr.cells).toArray 85 (0,0))) (hw : RowAt Wr.cells 3 w w.heap.size A len xs) (hreach : len * 40≤140737488351232) :
    Calls Tryz.prog 54 #[.slice (some ⟨g,0,none⟩) len (len+1),.slice A len cap] w fun e w' => e = .returned (.bool true)∧Below w.heap.size w w' := by
 have hlen := Lib.hid hw.len
 have hgl : g < w.heap.size := (Array.getElem?_eq_some_iff.1 hg).1
 have hrow := row_of_blk (len_wr _) hg hgl
 rw [hw.len] at hrow
 have hb0 := beq_self_eq_true (len : Int)
 go_enter Tryz.func54,Tryz.ntmps54
 go_wp2_with fail
 go_loopw [5] (fun i wr => ∃ k : Nat,k≤len∧i = .int .i64 k∧Below w.heap.size w wr) (fun i _ => len - (RowKit.intOf i).toNat)
 case atStart => exact ⟨0,Nat.zero_le _,rfl,Below.refl _ _⟩
 case round =>
  obtain ⟨k,hk,rfl,hb⟩ := hrel
  have hr := hw.below hb
  have ht := hrow.below hb
  have Hb := Lib.hid hb
  have hs := hb.size
  clear hb
  by_cases hlt : k < len
  · obtain ⟨b,off,x,rfl,hbl,hx,hxc⟩ := hr.at_ hlt
    have x0 := hxc 0 _ rfl
    have x1 := hxc 1 _ rfl
    have x2 := hxc 2 _ rfl
    simp only [Nat.add_zero] at x0
    obtain ⟨b',off',y,he,hbl',hy,hyc⟩ := ht.at_ (show k < len+1 by omega)
    have y0 := hyc 0 _ rfl
    have y1 := hyc 1 _ rfl
    have y2 := hyc 2 _ rfl
    simp only [Nat.add_zero] at y0
    simp only [Option.some.injEq,Addr.mk.injEq,and_true] at he
    obtain ⟨rfl,rfl⟩ := he
    have hyx : y = x := by
     rw [List.getElem?_append_left (by have := hlen.out; omega),hx] at hy
     exact (Option.some.inj hy).symm
    subst hyx
    clear hx hy hxc hyc
    simp only [Nat.zero_add] at y0 y1 y2
    go_wp2_with fail
    go_quiet (fail)
    go_wp2_with fail
    exact ⟨⟨k+1,by omega,by go_num,below_drewN Hb.out _⟩,by simp [RowKit.intOf]; omega⟩
  · have hkl : k = len := by omega
    subst hkl
    obtain ⟨b',off',y,he,hbl',hy,hyc⟩ := ht.at_ (show k < k+1 by omega)
    have y0 := hyc 0 _ rfl
    have y1 := hyc 1 _ rfl
    have y2 := hyc 2 _ rfl
    simp only [Nat.add_zero] at y0
    simp only [Option.some.injEq,Addr.mk.injEq,and_true] at he
    obtain ⟨rfl,rfl⟩ := he
    have hyx : y = spW := by
     rw [List.getElem?_append_right (by have := hlen.out; omega),hlen.out] at hy
     simpa using hy.symm
    subst hyx
    clear hy hyc
    simp only [Nat.zero_add,spW] at y0 y1 y2
    have hk1 : (k : Int) < (k : Int)+1 := by omega
    go_wp2_with fail
    go_ret
    exact ⟨rfl,by first | exact Hb.out.alloc (by omega) _ | exact Hb.out⟩
set_option maxHeartbeats 1000000 in
theorem twintx_any (n : Int) (A : Option Addr) (len cap : Nat) (xs : List Wr) (w : World) (hw : WsAt w w.heap.size A len xs) (hreach : len * 40≤140737488351232) :
    Calls Tryz.prog 13 #[.agg #[.int .i64 n,.slice A len cap]] w fun e w' => ∃ b,w.heap.size < b∧b < w'.heap.size∧e = .returned (.agg #[.int .i64 n,.slice (some ⟨b,0,none⟩) len (len+1)])∧w'.heap[b]? = some (.cells ((xs ++ [spW]).flatMap Wr.cells).toArray 85 (0,0))∧Below w.heap.size w w' := by
 obtain ⟨W2,hW2⟩ : ∃ W2 : World,W2 = (w.alloc (.cells #[.int .i64 n,.slice A len cap] 45)).alloc (.cells #[.int .i64 0,.slice none 0 0] 45) := ⟨_,rfl⟩
 have hz : W2.heap.size = w.heap.size+2 := by rw [hW2]; simp
 have hB : Below w.heap.size w W2 := by rw [hW2]; exact ((Below.refl _ _).alloc (Nat.le_refl _) _).alloc (by simp) _
 have c0 : W2.cell? ⟨w.heap.size,0,none⟩ = some (.int .i64 n) := by rw [hW2]; simp [go_sem]
 have c1 : W2.cell? ⟨w.heap.size,1,none⟩ = some (.slice A len cap) := by rw [hW2]; simp [go_sem]
 have d0 : W2.cell? ⟨w.heap.size+1,0,none⟩ = some (.int .i64 0) := by rw [hW2]; simp [go_sem]
 have d1 : W2.cell? ⟨w.heap.size+1,1,none⟩ = some (.slice none 0 0) := by rw [hW2]; simp [go_sem]
 have f0 : W2.frozen? ⟨w.heap.size+1,0,none⟩ = false := by rw [hW2]; simp [go_sem]
 have f1 : W2.frozen? ⟨w.heap.size+1,1,none⟩ = false := by rw [hW2]; simp [go_sem]
 have hw2 := (hw.below hB).more hB.size
 go_enter Tryz.func13,Tryz.ntmps13
 go_wp2_with fail
 rw [← hW2]
 have HW2 := Lib.hid hW2
 have hw2d : WsAt W2.drew W2.drew.heap.size A len xs := hw2
 have Hz := Lib.hid hz
 have hlt : w.heap.size+1 < W2.heap.size := by omega
 clear hW2 hz
 have hne : w.heap.size≠w.heap.size+1 := by omega
 go_region_held3 (fun w' => w'.cell? ⟨w.heap.size,0,none⟩ = some (.int .i64 n)∧w'.cell? ⟨w.heap.size,1,none⟩ = some (.slice A len cap))
  (first | exact ⟨c0,c1⟩ | exact ⟨g0,g1⟩ | (refine ⟨?_,?_⟩ <;> (rw [World.cell?_setCell_other _ _ _ _ (by simp),World.cell?_setCell_other _ _ _ _ (by simp)]; assumption)))
  (first
    | (go_at_call 33; refine (twinW_any A len cap xs _ hw2d hreach).mono ?_; rintro e w1 ⟨rfl,hblk,hb1⟩; have hbx : Below W2.heap.size W2 w1 := (Below.refl _ _).drew.trans hb1; have Hblk := Lib.hid hblk; have Hbx := Lib.hid hbx; have g0 := (hbx.cell (p := ⟨w.heap.size,0,none⟩) (by show w.heap.size < _; omega)).trans c0; have g1 := (hbx.cell (p := ⟨w.heap.size,1,none⟩) (by show w.heap.size < _; omega)).trans c1; have g2 := (hbx.cell (p := ⟨w.heap.size+1,0,none⟩) hlt).trans d0; have g3 := (hbx.cell (p := ⟨w.heap.size+1,1,none⟩) hlt).trans d1; have g4 := (hbx.frozen (p := ⟨w.heap.size+1,0,none⟩) hlt).trans f0; have g5 := (hbx.frozen (p := ⟨w.heap.size+1,1,none⟩) hlt).trans f1; clear hblk hb1 hbx))
 go_wp2_with fail
 have r0 : ((w1.setCell ⟨w.heap.size+1,0,none⟩ (.int .i64 n)).setCell ⟨w.heap.size+1,1,none⟩ (.slice (some ⟨W2.heap.size,0,none⟩) len (len+1))).cell? ⟨w.heap.size+1,0,none⟩ = some (.int .i64 n) := by
  rw [World.cell?_setCell_other _ _ _ _ (by simp)]; exact World.cell?_setCell_same _ _ _ g2
 have r1 : ((w1.setCell ⟨w.heap.size+1,0,none⟩ (.int .i64 n)).setCell ⟨w.heap.size+1,1,none⟩ (.slice (some ⟨W2.heap.size,0,none⟩) len (len+1))).cell? ⟨w.heap.size+1,1,none⟩ = some (.slice (some ⟨W2.heap.size,0,none⟩) len (len+1)) :=
  World.cell?_setCell_same _ _ _ (by rw [World.cell?_setCell_other _ _ _ _ (by simp)]; exact g3)
 have hz2 := Hz.out
 have hsz := Hbx.out.size
 have hs1 : W2.heap.size < w1.heap.size := by
  have := Hblk.out
  exact (Array.getElem?_eq_some_iff.1 this).1
 have hB2 : Below w.heap.size w w1 := hB.trans (Hbx.out.mono (by omega))
 refine bodyPost_ret (v := .agg #[.int .i64 n,.slice (some ⟨W2.heap.size,0,none⟩) len (len+1)]) (by simp [results,Tryz.results13,go_sem,r0,r1]) rfl ⟨W2.heap.size,by omega,by simp [World.setCell]; omega,rfl,?_,(hB2.setCell (by simp) _).setCell (by simp) _⟩
 rw [Below.heap_setCell _ _ _ _ (by simp; omega),Below.heap_setCell _ _ _ _ (by simp; omega)]
 exact Hblk.out
def TwOk (w : World) (g : Nat) (r r' : RTx) : Prop := r'.number = r.number∧r'.ws = r.ws∧r'.len = r.len∧∃ b,g < b∧b < w.heap.size∧r'.twin w b
theorem TwOk.keep {w w' : World} {g : Nat} {r r' : RTx} (h : TwOk w g r r') (hz : w.heap.size≤w'.heap.size) (hk : ∀ b,g < b→b < w.heap.size→w'.heap[b]? = w.heap[b]?) : TwOk w' g r r' := by
 obtain ⟨h1,h2,h3,b,h4,h5,h6,h7,h8,h9⟩ := h
 exact ⟨h1,h2,h3,b,h4,by omega,h6,h7,(hk b h4 h5).trans h8,h9⟩
def TwAll (w : World) (g : Nat) (rs rs' : List RTx) : Prop := ∀ (i : Nat) (r r' : RTx),rs[i]? = some r→rs'[i]? = some r'→TwOk w g r r'
theorem TwAll.keep {w w' : World} {g : Nat} {rs rs' : List RTx} (h : TwAll w g rs rs') (hz : w.heap.size≤w'.heap.size) (hk : ∀ b,g < b→b < w.heap.size→w'.heap[b]? = w.heap[b]?) : TwAll w' g rs rs' :=
 fun i r r' hr hr' => (h i r r' hr hr').keep hz hk
theorem TwAll.snoc {w : World} {g : Nat} {rs rs' : List RTx} {r r' : RTx} (h : TwAll w g rs rs') (hr : rs[rs'.length]? = some r) (hok : TwOk w g r r') : TwAll w g rs (rs' ++ [r']) := by
 intro i a b ha hb
 rw [List.getElem?_append] at hb
 split at hb
 · exact h i a b ha hb
 · rename_i hi
   have hlt := (List.getElem?_eq_some_iff.1 hb).1
   simp at hlt
   have : i = rs'.length := by omega
   subst this
   rw [hr] at ha
   simp at hb ha
   subst ha hb
   exact hok
def spT : RTx := ⟨7777,none,0,0,[]⟩
theorem info_tx : (Tryz.prog.info? 45).map (fun i => (i.zero,i.size,i.bytes)) = some (some (.agg #[.int .i64 0,.slice none 0 0]),2,32) := by kernel_rfl

set_option maxHeartbeats 1000000 in
theorem twins_any (A : Option Addr) (len cap : Nat) (rs : List RTx) (w : World) (hw : TxsAt w w.heap.size A len rs) (hreach : len * 32≤140737488351232) :
    Calls Tryz.prog 4 #[.slice A len cap] w fun e w' => ∃ rs',rs'.length = len∧e = .returned (.slice (some ⟨w.heap.size,0,none⟩) len (len+1))∧w'.heap[w.heap.size]? = some (.cells ((rs' ++ [spT]).flatMap RTx.cells).toArray 45 (0,0))∧TwAll w' w.heap.size rs rs'∧Below w.heap.size w w' := by
 have hlen := Lib.hid hw.1.len
 obtain ⟨i0,hi,hz0,hz1,hz2⟩ := info_parts info_tx
 go_enter Tryz.func4,Tryz.ntmps4
 go_wp2_with (at_make; refine wpList_make_own _ rfl _ _ 24 rfl w.heap.size 45 i0 _ 2 Tryz.underlying24 hi hz0 hz1 _ _ _ (len+1) rfl rfl (by omega) (by rw [hz2]; omega) (by simp only [maxLen]; omega) (Nat.le_refl _) ?_; intro w1 hown1 hgrow1)
 have hs1 : w.heap.size < w1.heap.size := (hown1.lt _ rfl).2
 have hbw1 : Below w.heap.size w w1 := (Below.refl _ _).grown hgrow1 (Nat.le_refl _) (fun k hk => by cases hk)
 go_wp2_with fail
 go_loopw [3,4] (fun v i wr => ∃ (k : Nat) (rs' : List RTx),k≤len∧i = .int .i64 k∧v = .slice (some ⟨w.heap.size,0,none⟩) k (len+1)∧rs'.length = k∧wr.ownsRow w.heap.size 45 2 (.slice (some ⟨w.heap.size,0,none⟩) k (len+1)) k (rs'.flatMap RTx.cells)∧TwAll wr w.heap.size rs rs'∧Below w.heap.size w wr) (fun _ i _ => len - (RowKit.intOf i).toNat)
 case atStart => exact ⟨0,[],Nat.zero_le _,rfl,rfl,rfl,hown1,fun i r r' _ h => by simp at h,hbw1⟩
 case round =>
  obtain ⟨k,rs',hk,rfl,rfl,hl',hown,htw,hb⟩ := hrel
  have hr := hw.below hb
  have Hb := Lib.hid hb
  have Hl' := Lib.hid hl'
  have hs := hb.size
  have hgl := (hown.lt _ rfl).2
  clear hb hown1 hgrow1 hbw1 hl'
  by_cases hlt : k < len
  · obtain ⟨b,off,r,rfl,hbl,hx,x0,x1,hws,hrl⟩ := hr.cell2 hlt
    have Hx := Lib.hid hx
    have hws' := hws.more hs
    clear hx
    go_wp2_with fail
    refine (twintx_any r.number r.A r.len r.cap r.ws _ hws' hrl).mono ?_
    rintro e w2 ⟨b2,hb21,hb22,rfl,hblk,hb2⟩
    have Hblk := Lib.hid hblk
    have hown2 := ownsRow_below hown hb2
    have htw2 := htw.keep hb2.size (fun b _ hbl => hb2.block b hbl)
    have Hb2 := Lib.hid hb2
    have hs2 := hb2.size
    clear hblk hb2
    go_wp2_with (at_builtin; refine wpList_append_fits _ rfl _ _ 24 rfl w.heap.size 45 i0 2 Tryz.underlying24 hi hz1 w.heap.size k (len+1) _ rfl (hown2.alloc _) ⟨w2.heap.size,0,none⟩ 1 1 (RTx.cells ⟨r.number,some ⟨b2,0,none⟩,r.len,r.len+1,r.ws⟩) rfl rfl (cells_new _ _ _) (one_tx _) (by omega) ?_; intro w3 hown3 hg3)
    have hbl3 := below_grown_new hown2 hg3 (by omega)
    have hk3 : ∀ b,w.heap.size < b→b < w2.heap.size→w3.heap[b]? = w2.heap[b]? := fun b h1 h2 => (hg3.block b (by simp; omega) (by simp; omega)).trans (Below.heap_alloc _ _ _ h2)
    have hz3 : w2.heap.size≤w3.heap.size := by have := hg3.size; simp at this; omega
    have hws3 := (hws.len)
    refine ⟨⟨k+1,rs' ++ [⟨r.number,some ⟨b2,0,none⟩,r.len,r.len+1,r.ws⟩],by omega,by go_num,rfl,by simp [Hl'.out],?_,?_,(Hb.out.trans (Hb2.out.mono (by omega))).trans hbl3⟩,by simp [RowKit.intOf]; omega⟩
    · rw [List.flatMap_append]; simpa using hown3
    · refine (htw2.keep hz3 hk3).snoc (r := r) (by rw [Hl'.out]; exact Hx.out) ⟨rfl,rfl,rfl,b2,by omega,by omega,rfl,rfl,?_,hws3⟩
      rw [hk3 b2 (by omega) hb22]; exact Hblk.out
  · have hkl : k = len := by omega
    subst hkl
    go_wp2_with (at_builtin; refine wpList_append_fits _ rfl _ _ 24 rfl w.heap.size 45 i0 2 Tryz.underlying24 hi hz1 w.heap.size k (k+1) _ rfl (hown.alloc _) ⟨wr.heap.size,0,none⟩ 1 1 spT.cells rfl rfl (cells_new _ _ _) (one_tx _) (by omega) ?_; intro w2 hown2 hg2)
    have hbl2 := below_grown_new hown hg2 (by omega)
    have hk3 : ∀ b,w.heap.size < b→b < wr.heap.size→w2.heap[b]? = wr.heap[b]? := fun b h1 h2 => (hg2.block b (by simp; omega) (by simp; omega)).trans (Below.heap_alloc _ _ _ h2)
    have hz3 : wr.heap.size≤w2.heap.size := by have := hg2.size; simp at this; omega
    have htw3 := htw.keep hz3 hk3
    clear hk3 htw hown
    go_wp2_with fail
    go_ret
    exact ⟨rs',Hl'.out,rfl,by simpa using blk_of_own hown2,htw3,Hb.out.trans hbl2⟩

set_option maxHeartbeats 1000000 in
theorem lefttx_any (n : Int) (b : Nat) (A : Option Addr) (len cap : Nat) (xs : List Wr) (w : World) (hg : w.heap[b]? = some (.cells ((xs ++ [spW]).flatMap Wr.cells).toArray 85 (0,0))) (hw : WsAt w w.heap.size A len xs) (hreach : len * 40≤140737488351232) :
    Calls Tryz.prog 30 #[.agg #[.int .i64 n,.slice (some ⟨b,0,none⟩) len (len+1)],.agg #[.int .i64 n,.slice A len cap]] w fun e w' => e = .returned (.bool true)∧Below w.heap.size w w' := by
 have hgl : b < w.heap.size := (Array.getElem?_eq_some_iff.1 hg).1
 have hg2 : ∀ o p,((w.alloc o).alloc p).heap[b]? = some (.cells ((xs ++ [spW]).flatMap Wr.cells).toArray 85 (0,0)) := fun o p => (Below.heap_alloc _ _ _ (by simp; omega)).trans ((Below.heap_alloc _ _ _ hgl).trans hg)
 have hw2 : ∀ o p,WsAt ((w.alloc o).alloc p) ((w.alloc o).alloc p).heap.size A len xs := fun o p => (hw.below (((Below.refl _ _).alloc (Nat.le_refl _) _).alloc (by simp) _)).more (by simp; omega)
 have Hg2 := Lib.hid hg2
 clear hg hg2
 go_enter Tryz.func30,Tryz.ntmps30
 go_wp2_with fail
 refine (leftW_any b A len cap xs _ (Hg2.out _ _) (hw2 _ _) hreach).mono ?_
 rintro e w2 ⟨rfl,hb2⟩
 go_wp2_with fail
 go_ret
 exact ⟨rfl,below_two (hb2.mono (by simp))⟩

set_option maxHeartbeats 1000000 in
theorem lefts_any (g : Nat) (A : Option Addr) (len cap : Nat) (rs rs' : List RTx) (w : World) (hl' : rs'.length = len) (hg : w.heap[g]? = some (.cells ((rs' ++ [spT]).flatMap RTx.cells).toArray 45 (0,0))) (htw : TwAll w g rs rs') (hw : TxsAt w w.heap.size A len rs) (hreach : len * 32≤140737488351232) :
    Calls Tryz.prog 9 #[.slice (some ⟨g,0,none⟩) len (len+1),.slice A len cap] w fun e w' => e = .returned (.bool true)∧Below w.heap.size w w' := by
 have hgl : g < w.heap.size := (Array.getElem?_eq_some_iff.1 hg).1
 have hrow := row_of_blk (len_tx _) hg hgl
 rw [hl'] at hrow
 have hb0 := beq_self_eq_true (len : Int)
 have Hl' := Lib.hid hl'
 have Htw := Lib.hid htw
 clear hl' htw hg
 go_enter Tryz.func9,Tryz.ntmps9
 go_wp2_with fail
 go_loopw [5] (fun i wr => ∃ k : Nat,k≤len∧i = .int .i64 k∧Below w.heap.size w wr) (fun i _ => len - (RowKit.intOf i).toNat)
 case atStart => exact ⟨0,Nat.zero_le _,rfl,Below.refl _ _⟩
 case round =>
  obtain ⟨k,hk,rfl,hb⟩ := hrel
  have hr := hw.below hb
  have ht := hrow.below hb
  have Hb := Lib.hid hb
  have hs := hb.size
  clear hb
  by_cases hlt : k < len
  · obtain ⟨b,off,r,rfl,hbl,hx,x0,x1,hws,hrl⟩ := hr.cell2 hlt
    obtain ⟨b',off',r',he,hbl',hy,hyc⟩ := ht.at_ (show k < len+1 by omega)
    simp only [Option.some.injEq,Addr.mk.injEq,and_true] at he
    obtain ⟨rfl,rfl⟩ := he
    rw [List.getElem?_append_left (by have := Hl'.out; omega)] at hy
    obtain ⟨e1,e2,e3,bb,h4,h5,h6,h7,h8,h9⟩ := Htw.out k r r' hx hy
    have y0 := hyc 0 _ rfl
    have y1 := hyc 1 _ rfl
    rw [e1] at y0
    rw [h6,e3,h7,e3] at y1
    rw [e2] at h8
    simp only [Nat.zero_add,Nat.add_zero] at y0 y1
    have hblk : wr.drew.heap[bb]? = _ := (Hb.out.block bb h5).trans h8
    have hwsd : WsAt wr.drew wr.drew.heap.size r.A r.len r.ws := hws.more hs
    have Hblk := Lib.hid hblk
    clear hx hy e1 e2 e3 h6 h7 h8 h9 hyc hblk
    go_wp2_with fail
    go_region_held3 (fun w' => w'.cell? ⟨b,off+k * 2,none⟩ = some (.int .i64 r.number)∧w'.cell? ⟨b,off+k * 2+1,none⟩ = some (.slice r.A r.len r.cap)∧w'.cell? ⟨g,k * 2,none⟩ = some (.int .i64 r.number)∧w'.cell? ⟨g,k * 2+1,none⟩ = some (.slice (some ⟨bb,0,none⟩) r.len (r.len+1)))
     (first | exact ⟨x0,x1,y0,y1⟩ | exact ⟨(hbx.cell (p := ⟨b,off+k * 2,none⟩) (by show b < _; omega)).trans x0,(hbx.cell (p := ⟨b,off+k * 2+1,none⟩) (by show b < _; omega)).trans x1,(hbx.cell (p := ⟨g,k * 2,none⟩) (by show g < _; omega)).trans y0,(hbx.cell (p := ⟨g,k * 2+1,none⟩) (by show g < _; omega)).trans y1⟩)
     (first | (go_at_call 30; refine (lefttx_any r.number bb r.A r.len r.cap r.ws wr.drew Hblk.out hwsd hrl).mono ?_; rintro e w1 ⟨rfl,hb1⟩; have hbx : Below wr.heap.size wr w1 := (Below.refl _ _).drew.trans hb1; have Hbx := Lib.hid hbx; clear hb1))
    go_wp2_with fail
    exact ⟨⟨k+1,by omega,by go_num,Hb.out.trans (Hbx.out.mono hs)⟩,by simp [RowKit.intOf]; omega⟩
  · have hkl : k = len := by omega
    subst hkl
    obtain ⟨b',off',r',he,hbl',hy,hyc⟩ := ht.at_ (show k < k+1 by omega)
    simp only [Option.some.injEq,Addr.mk.injEq,and_true] at he
    obtain ⟨rfl,rfl⟩ := he
    have hyx : r' = spT := by
     rw [List.getElem?_append_right (by have := Hl'.out; omega),Hl'.out] at hy
     simpa using hy.symm
    subst hyx
    have y0 := hyc 0 _ rfl
    have y1 := hyc 1 _ rfl
    clear hy hyc
    simp only [Nat.zero_add,Nat.add_zero,spT] at y0 y1
    have hk1 : (k : Int) < (k : Int)+1 := by omega
    go_wp2_with fail
    go_ret
    exact ⟨rfl,Hb.out.alloc (by omega) _⟩
section
set_option maxRecDepth 100000
def spEv : Ev := ⟨7777,0,0,0,0,0⟩
theorem len_ev (es : List Ev) : ∀ x ∈ es,(Ev.cells x).length = 6 := fun _ _ => rfl
theorem one_ev (x : Ev) : ∀ u ∈ Ev.cells x,u.oneCell' = true := fun u hu => by
 simp [Ev.cells] at hu
 rcases hu with rfl | rfl | rfl | rfl | rfl | rfl <;> rfl
theorem info_ev : (Tryz.prog.info? 51).map (fun i => (i.zero,i.size,i.bytes)) = some (some (.agg #[.int .i64 0,.int .u8 0,.int .i64 0,.int .i64 0,.int .i64 0,.int .i64 0]),6,48) := by kernel_rfl
end
theorem tw_same {w : World} {g : Nat} {rs rs' : List RTx} (h : TwAll w g rs rs') (hl : rs'.length = rs.length) : rs'.map (fun r => (r.number,r.ws)) = rs.map (fun r => (r.number,r.ws)) := by
 apply List.ext_getElem?
 intro i
 simp only [List.getElem?_map]
 rcases Nat.lt_or_ge i rs.length with hi | hi
 · have h1 : rs[i]? = some rs[i] := List.getElem?_eq_getElem hi
   have h2 : rs'[i]? = some (rs'[i]'(by omega)) := List.getElem?_eq_getElem _
   obtain ⟨e1,e2,-⟩ := h i _ _ h1 h2
   rw [h1,h2]; simp [e1,e2]
 · rw [List.getElem?_eq_none hi,List.getElem?_eq_none (by omega)]
theorem txs_of_twin {w : World} {g : Nat} {rs rs' : List RTx} {n : Nat} (hl' : rs'.length = n) (hl : rs.length = n) (hg : w.heap[g]? = some (.cells ((rs' ++ [spT]).flatMap RTx.cells).toArray 45 (0,0))) (htw : TwAll w g rs rs') (hrl : ∀ r ∈ rs,r.len * 40≤140737488351232) :
    TxsAt w w.heap.size (some ⟨g,0,none⟩) n rs' := by
 have hrow := row_of_blk (len_tx _) hg (blk_lt hg)
 rw [hl'] at hrow
 refine ⟨hrow.prefix_,fun r' hr' => ?_⟩
 obtain ⟨i,hi⟩ := List.getElem?_of_mem hr'
 have hil : i < rs.length := by have := (List.getElem?_eq_some_iff.1 hi).1; omega
 obtain ⟨e1,e2,e3,b,h4,h5,h6,h7,h8,h9⟩ := htw i _ r' (List.getElem?_eq_getElem hil) hi
 have hb := row_of_blk (len_wr _) h8 h5
 rw [h9] at hb
 rw [h6]
 exact ⟨hb.prefix_,by rw [e3]; exact hrl _ (List.getElem_mem hil)⟩

structure Ver where
 num : Int
 val : ByteArray
 drop : Bool
def Ver.cells (x : Ver) : List Value := [.int .i64 x.num,.string x.val,.bool x.drop]
theorem len_ver (xs : List Ver) : ∀ x ∈ xs,(Ver.cells x).length = 3 := fun _ _ => rfl
section
set_option maxRecDepth 100000
theorem one_ver (x : Ver) : ∀ u ∈ Ver.cells x,u.oneCell' = true := by
 intro u hu; simp [Ver.cells] at hu; rcases hu with rfl | rfl | rfl <;> rfl
end
abbrev VsAt := RowAt Ver.cells 3
theorem VsAt.cell3 {w : World} {B n i : Nat} {A : Option Addr} {vs : List Ver} (h : VsAt w B A n vs) (hi : i < n) :
    ∃ b off x,A = some ⟨b,off,none⟩∧b < B∧vs[i]? = some x∧w.cell? ⟨b,off+i * 3,none⟩ = some (.int .i64 x.num)∧w.cell? ⟨b,off+i * 3+1,none⟩ = some (.string x.val)∧w.cell? ⟨b,off+i * 3+2,none⟩ = some (.bool x.drop) := by
 obtain ⟨b,off,x,e,hb,hx,hc⟩ := h.at_ hi
 exact ⟨b,off,x,e,hb,hx,hc 0 _ rfl,hc 1 _ rfl,hc 2 _ rfl⟩
theorem VsAt.num {w : World} {B n i : Nat} {A : Option Addr} {vs : List Ver} (h : VsAt w B A n vs) (hi : i < n) : ∃ b off x,A = some ⟨b,off,none⟩∧b < B∧vs[i]? = some x∧w.cell? ⟨b,off+i * 3,none⟩ = some (.int .i64 x.num) := by
 obtain ⟨b,off,x,h1,h2,h3,h4,-,-⟩ := h.cell3 hi
 exact ⟨b,off,x,h1,h2,h3,h4⟩
section
set_option maxRecDepth 100000
theorem info_ver : (Tryz.prog.info? 152).map (fun i => (i.zero,i.size,i.bytes)) = some (some (.agg #[.int .i64 0,.string ⟨#[]⟩,.bool false]),3,32) := by kernel_rfl
end
structure HR where
 key : ByteArray
 A : Option Addr
 len : Nat
 cap : Nat
 vs : List Ver
def HR.cells (h : HR) : List Value := [.string h.key,.slice h.A h.len h.cap]
theorem len_hr (xs : List HR) : ∀ x ∈ xs,(HR.cells x).length = 2 := fun _ _ => rfl
def HdsAt (w : World) (B : Nat) (A : Option Addr) (n : Nat) (hs : List HR) : Prop := RowAt HR.cells 2 w B A n hs∧∀ h ∈ hs,VsAt w B h.A h.len h.vs∧h.len≤h.cap∧(h.A = none→h.cap = 0)
theorem HdsAt.below {w w' : World} {B n : Nat} {A : Option Addr} {hs : List HR} (h : HdsAt w B A n hs) (hb : Below B w w') : HdsAt w' B A n hs :=
 ⟨h.1.below hb,fun r hr => ⟨(h.2 r hr).1.below hb,(h.2 r hr).2⟩⟩
theorem HdsAt.more {w : World} {B B' n : Nat} {A : Option Addr} {hs : List HR} (h : HdsAt w B A n hs) (hB : B≤B') : HdsAt w B' A n hs :=
 ⟨h.1.more hB,fun r hr => ⟨(h.2 r hr).1.more hB,(h.2 r hr).2⟩⟩
theorem HdsAt.cell2 {w : World} {B n i : Nat} {A : Option Addr} {hs : List HR} (h : HdsAt w B A n hs) (hi : i < n) :
    ∃ b off x,A = some ⟨b,off,none⟩∧b < B∧hs[i]? = some x∧w.cell? ⟨b,off+i * 2,none⟩ = some (.string x.key)∧w.cell? ⟨b,off+i * 2+1,none⟩ = some (.slice x.A x.len x.cap)∧VsAt w B x.A x.len x.vs∧x.len≤x.cap∧(x.A = none→x.cap = 0) := by
 obtain ⟨b,off,x,e,hb,hx,hc⟩ := h.1.at_ hi
 exact ⟨b,off,x,e,hb,hx,hc 0 _ rfl,hc 1 _ rfl,h.2 x (List.mem_of_getElem? hx)⟩
section
set_option maxRecDepth 100000
theorem info_held : (Tryz.prog.info? 89).map (fun i => (i.zero,i.size,i.bytes)) = some (some (.agg #[.string ⟨#[]⟩,.slice none 0 0]),2,40) := by kernel_rfl
theorem one_hr (x : HR) : ∀ u ∈ HR.cells x,u.oneCell' = true := by
 intro u hu; simp [HR.cells] at hu; rcases hu with rfl | rfl <;> rfl
def spV : Ver := ⟨7777,⟨#[]⟩,false⟩
def HR.twin (r : HR) (w : World) (b : Nat) : Prop := r.A = some ⟨b,0,none⟩∧r.cap = r.len+1∧w.heap[b]? = some (.cells ((r.vs ++ [spV]).flatMap Ver.cells).toArray 152 (0,0))∧r.vs.length = r.len

set_option maxHeartbeats 1000000 in
theorem twinV_any (A : Option Addr) (len cap : Nat) (xs : List Ver) (w : World) (hw : RowAt Ver.cells 3 w w.heap.size A len xs) (hreach : len * 32≤140737488351232) :
    Calls Tryz.prog 56 #[.slice A len cap] w fun e w' => e = .returned (.slice (some ⟨w.heap.size,0,none⟩) len (len+1))∧w'.heap[w.heap.size]? = some (.cells ((xs ++ [spV]).flatMap Ver.cells).toArray 152 (0,0))∧Below w.heap.size w w' := by
 have hlen := Lib.hid hw.len
 obtain ⟨i0,hi,hz0,hz1,hz2⟩ := info_parts info_ver
 go_enter Tryz.func56,Tryz.ntmps56
 go_wp2_with (at_make; refine wpList_make_own _ rfl _ _ 87 rfl w.heap.size 152 i0 _ 3 Tryz.underlying87 hi hz0 hz1 _ _ _ (len+1) rfl rfl (by omega) (by rw [hz2]; omega) (by simp only [maxLen]; omega) (Nat.le_refl _) ?_; intro w1 hown1 hgrow1)
 have hs1 : w.heap.size < w1.heap.size := (hown1.lt _ rfl).2
 have hbw1 : Below w.heap.size w w1 := (Below.refl _ _).grown hgrow1 (Nat.le_refl _) (fun k hk => by cases hk)
 go_wp2_with fail
 go_loopw [3,4] (fun v i wr => ∃ k : Nat,k≤len∧i = .int .i64 k∧v = .slice (some ⟨w.heap.size,0,none⟩) k (len+1)∧wr.ownsRow w.heap.size 152 3 (.slice (some ⟨w.heap.size,0,none⟩) k (len+1)) k ((xs.take k).flatMap Ver.cells)∧Below w.heap.size w wr) (fun _ i _ => len - (RowKit.intOf i).toNat)
 case atStart => exact ⟨0,Nat.zero_le _,rfl,rfl,hown1,hbw1⟩
 case round =>
  obtain ⟨k,hk,rfl,rfl,hown,hb⟩ := hrel
  have hr := hw.below hb
  have Hb := Lib.hid hb
  have hs := hb.size
  have hgl := (hown.lt _ rfl).2
  clear hb hown1 hgrow1 hbw1
  by_cases hlt : k < len
  · obtain ⟨b,off,x,rfl,hbl,hx,hxc⟩ := hr.at_ hlt
    have x0 := hxc 0 _ rfl
    have x1 := hxc 1 _ rfl
    have x2 := hxc 2 _ rfl
    simp only [Nat.add_zero] at x0
    have Hx := Lib.hid hx
    clear hx hxc
    go_wp2_with (at_builtin; refine wpList_append_fits _ rfl _ _ 87 rfl w.heap.size 152 i0 3 Tryz.underlying87 hi hz1 w.heap.size k (len+1) _ rfl (hown.alloc _) ⟨wr.heap.size,0,none⟩ 1 1 (Ver.cells x) rfl rfl (cells_new _ _ _) (one_ver x) (by omega) ?_; intro w2 hown2 hg2)
    have hbl2 := below_grown_new hown hg2 (by omega)
    refine ⟨⟨k+1,by omega,by go_num,rfl,?_,Hb.out.trans hbl2⟩,by simp [RowKit.intOf]; omega⟩
    rw [take_snoc_flat Hx.out]; exact hown2
  · have hkl : k = len := by omega
    subst hkl
    have htk : xs.take k = xs := List.take_of_length_le (by have := hlen.out; omega)
    rw [htk] at hown
    go_wp2_with (at_builtin; refine wpList_append_fits _ rfl _ _ 87 rfl w.heap.size 152 i0 3 Tryz.underlying87 hi hz1 w.heap.size k (k+1) _ rfl (hown.alloc _) ⟨wr.heap.size,0,none⟩ 1 1 (Ver.cells spV) rfl rfl (cells_new _ _ _) (one_ver spV) (by omega) ?_; intro w2 hown2 hg2)
    have hbl2 := below_grown_new hown hg2 (by omega)
    go_wp2_with fail
    go_ret
    exact ⟨rfl,by simpa using blk_of_own hown2,Hb.out.trans hbl2⟩

set_option maxHeartbeats 1000000 in
theorem leftV_any (g : Nat) (A : Option Addr) (len cap : Nat) (xs : List Ver) (w : World) (hg : w.heap[g]? = some (.cells ((xs ++ [spV]).flatMap Ver.cells).toArray 152 (0,0))) (hw : RowAt Ver.cells 3 w w.heap.size A len xs) (hreach : len * 32≤140737488351232) :
    Calls Tryz.prog 73 #[.slice (some ⟨g,0,none⟩) len (len+1),.slice A len cap] w fun e w' => e = .returned (.bool true)∧Below w.heap.size w w' := by
 have hlen := Lib.hid hw.len
 have hgl : g < w.heap.size := (Array.getElem?_eq_some_iff.1 hg).1
 have hrow := row_of_blk (len_ver _) hg hgl
 rw [hw.len] at hrow
 have hb0 := beq_self_eq_true (len : Int)
 go_enter Tryz.func73,Tryz.ntmps73
 go_wp2_with fail
 go_loopw [5] (fun i wr => ∃ k : Nat,k≤len∧i = .int .i64 k∧Below w.heap.size w wr) (fun i _ => len - (RowKit.intOf i).toNat)
 case atStart => exact ⟨0,Nat.zero_le _,rfl,Below.refl _ _⟩
 case round =>
  obtain ⟨k,hk,rfl,hb⟩ := hrel
  have hr := hw.below hb
  have ht := hrow.below hb
  have Hb := Lib.hid hb
  have hs := hb.size
  clear hb
  by_cases hlt : k < len
  · obtain ⟨b,off,x,rfl,hbl,hx,hxc⟩ := hr.at_ hlt
    have x0 := hxc 0 _ rfl
    have x1 := hxc 1 _ rfl
    have x2 := hxc 2 _ rfl
    simp only [Nat.add_zero] at x0
    obtain ⟨b',off',y,he,hbl',hy,hyc⟩ := ht.at_ (show k < len+1 by omega)
    have y0 := hyc 0 _ rfl
    have y1 := hyc 1 _ rfl
    have y2 := hyc 2 _ rfl
    simp only [Nat.add_zero] at y0
    simp only [Option.some.injEq,Addr.mk.injEq,and_true] at he
    obtain ⟨rfl,rfl⟩ := he
    have hyx : y = x := by
     rw [List.getElem?_append_left (by have := hlen.out; omega),hx] at hy
     exact (Option.some.inj hy).symm
    subst hyx
    clear hx hy hxc hyc
    simp only [Nat.zero_add] at y0 y1 y2
    go_wp2_with fail
    go_quiet (fail)
    go_wp2_with fail
    exact ⟨⟨k+1,by omega,by go_num,below_drewN Hb.out _⟩,by simp [RowKit.intOf]; omega⟩
  · have hkl : k = len := by omega
    subst hkl
    obtain ⟨b',off',y,he,hbl',hy,hyc⟩ := ht.at_ (show k < k+1 by omega)
    have y0 := hyc 0 _ rfl
    have y1 := hyc 1 _ rfl
    have y2 := hyc 2 _ rfl
    simp only [Nat.add_zero] at y0
    simp only [Option.some.injEq,Addr.mk.injEq,and_true] at he
    obtain ⟨rfl,rfl⟩ := he
    have hyx : y = spV := by
     rw [List.getElem?_append_right (by have := hlen.out; omega),hlen.out] at hy
     simpa using hy.symm
    subst hyx
    clear hy hyc
    simp only [Nat.zero_add,spV] at y0 y1 y2
    have hk1 : (k : Int) < (k : Int)+1 := by omega
    go_wp2_with fail
    go_ret
    exact ⟨rfl,by first | exact Hb.out.alloc (by omega) _ | exact Hb.out⟩
set_option maxHeartbeats 1000000 in
theorem twinhd_any (n : ByteArray) (A : Option Addr) (len cap : Nat) (xs : List Ver) (w : World) (hw : VsAt w w.heap.size A len xs) (hreach : len * 32≤140737488351232) :
    Calls Tryz.prog 34 #[.agg #[.string n,.slice A len cap]] w fun e w' => ∃ b,w.heap.size < b∧b < w'.heap.size∧e = .returned (.agg #[.string n,.slice (some ⟨b,0,none⟩) len (len+1)])∧w'.heap[b]? = some (.cells ((xs ++ [spV]).flatMap Ver.cells).toArray 152 (0,0))∧Below w.heap.size w w' := by
 obtain ⟨W2,hW2⟩ : ∃ W2 : World,W2 = (w.alloc (.cells #[.string n,.slice A len cap] 89)).alloc (.cells #[.string ⟨#[]⟩,.slice none 0 0] 89) := ⟨_,rfl⟩
 have hz : W2.heap.size = w.heap.size+2 := by rw [hW2]; simp
 have hB : Below w.heap.size w W2 := by rw [hW2]; exact ((Below.refl _ _).alloc (Nat.le_refl _) _).alloc (by simp) _
 have c0 : W2.cell? ⟨w.heap.size,0,none⟩ = some (.string n) := by rw [hW2]; simp [go_sem]
 have c1 : W2.cell? ⟨w.heap.size,1,none⟩ = some (.slice A len cap) := by rw [hW2]; simp [go_sem]
 have d0 : W2.cell? ⟨w.heap.size+1,0,none⟩ = some (.string ⟨#[]⟩) := by rw [hW2]; simp [go_sem]
 have d1 : W2.cell? ⟨w.heap.size+1,1,none⟩ = some (.slice none 0 0) := by rw [hW2]; simp [go_sem]
 have f0 : W2.frozen? ⟨w.heap.size+1,0,none⟩ = false := by rw [hW2]; simp [go_sem]
 have f1 : W2.frozen? ⟨w.heap.size+1,1,none⟩ = false := by rw [hW2]; simp [go_sem]
 have hw2 := (hw.below hB).more hB.size
 go_enter Tryz.func34,Tryz.ntmps34
 go_wp2_with fail
 rw [← hW2]
 have HW2 := Lib.hid hW2
 have hw2d : VsAt W2.drew W2.drew.heap.size A len xs := hw2
 have Hz := Lib.hid hz
 have hlt : w.heap.size+1 < W2.heap.size := by omega
 clear hW2 hz
 have hne : w.heap.size≠w.heap.size+1 := by omega
 go_region_held3 (fun w' => w'.cell? ⟨w.heap.size,0,none⟩ = some (.string n)∧w'.cell? ⟨w.heap.size,1,none⟩ = some (.slice A len cap))
  (first | exact ⟨c0,c1⟩ | exact ⟨g0,g1⟩ | (refine ⟨?_,?_⟩ <;> (rw [World.cell?_setCell_other _ _ _ _ (by simp),World.cell?_setCell_other _ _ _ _ (by simp)]; assumption)))
  (first
    | (go_at_call 56; refine (twinV_any A len cap xs _ hw2d hreach).mono ?_; rintro e w1 ⟨rfl,hblk,hb1⟩; have hbx : Below W2.heap.size W2 w1 := (Below.refl _ _).drew.trans hb1; have Hblk := Lib.hid hblk; have Hbx := Lib.hid hbx; have g0 := (hbx.cell (p := ⟨w.heap.size,0,none⟩) (by show w.heap.size < _; omega)).trans c0; have g1 := (hbx.cell (p := ⟨w.heap.size,1,none⟩) (by show w.heap.size < _; omega)).trans c1; have g2 := (hbx.cell (p := ⟨w.heap.size+1,0,none⟩) hlt).trans d0; have g3 := (hbx.cell (p := ⟨w.heap.size+1,1,none⟩) hlt).trans d1; have g4 := (hbx.frozen (p := ⟨w.heap.size+1,0,none⟩) hlt).trans f0; have g5 := (hbx.frozen (p := ⟨w.heap.size+1,1,none⟩) hlt).trans f1; clear hblk hb1 hbx))
 go_wp2_with fail
 have r0 : ((w1.setCell ⟨w.heap.size+1,0,none⟩ (.string n)).setCell ⟨w.heap.size+1,1,none⟩ (.slice (some ⟨W2.heap.size,0,none⟩) len (len+1))).cell? ⟨w.heap.size+1,0,none⟩ = some (.string n) := by
  rw [World.cell?_setCell_other _ _ _ _ (by simp)]; exact World.cell?_setCell_same _ _ _ g2
 have r1 : ((w1.setCell ⟨w.heap.size+1,0,none⟩ (.string n)).setCell ⟨w.heap.size+1,1,none⟩ (.slice (some ⟨W2.heap.size,0,none⟩) len (len+1))).cell? ⟨w.heap.size+1,1,none⟩ = some (.slice (some ⟨W2.heap.size,0,none⟩) len (len+1)) :=
  World.cell?_setCell_same _ _ _ (by rw [World.cell?_setCell_other _ _ _ _ (by simp)]; exact g3)
 have hz2 := Hz.out
 have hsz := Hbx.out.size
 have hs1 : W2.heap.size < w1.heap.size := by
  have := Hblk.out
  exact (Array.getElem?_eq_some_iff.1 this).1
 have hB2 : Below w.heap.size w w1 := hB.trans (Hbx.out.mono (by omega))
 refine bodyPost_ret (v := .agg #[.string n,.slice (some ⟨W2.heap.size,0,none⟩) len (len+1)]) (by simp [results,Tryz.results34,go_sem,r0,r1]) rfl ⟨W2.heap.size,by omega,by simp [World.setCell]; omega,rfl,?_,(hB2.setCell (by simp) _).setCell (by simp) _⟩
 rw [Below.heap_setCell _ _ _ _ (by simp; omega),Below.heap_setCell _ _ _ _ (by simp; omega)]
 exact Hblk.out

def HwOk (w : World) (g : Nat) (r r' : HR) : Prop := r'.key = r.key∧r'.vs = r.vs∧r'.len = r.len∧∃ b,g < b∧b < w.heap.size∧r'.twin w b
theorem HwOk.keep {w w' : World} {g : Nat} {r r' : HR} (h : HwOk w g r r') (hz : w.heap.size≤w'.heap.size) (hk : ∀ b,g < b→b < w.heap.size→w'.heap[b]? = w.heap[b]?) : HwOk w' g r r' := by
 obtain ⟨h1,h2,h3,b,h4,h5,h6,h7,h8,h9⟩ := h
 exact ⟨h1,h2,h3,b,h4,by omega,h6,h7,(hk b h4 h5).trans h8,h9⟩
def HwAll (w : World) (g : Nat) (rs rs' : List HR) : Prop := ∀ (i : Nat) (r r' : HR),rs[i]? = some r→rs'[i]? = some r'→HwOk w g r r'
theorem HwAll.keep {w w' : World} {g : Nat} {rs rs' : List HR} (h : HwAll w g rs rs') (hz : w.heap.size≤w'.heap.size) (hk : ∀ b,g < b→b < w.heap.size→w'.heap[b]? = w.heap[b]?) : HwAll w' g rs rs' :=
 fun i r r' hr hr' => (h i r r' hr hr').keep hz hk
theorem HwAll.snoc {w : World} {g : Nat} {rs rs' : List HR} {r r' : HR} (h : HwAll w g rs rs') (hr : rs[rs'.length]? = some r) (hok : HwOk w g r r') : HwAll w g rs (rs' ++ [r']) := by
 intro i a b ha hb
 rw [List.getElem?_append] at hb
 split at hb
 · exact h i a b ha hb
 · rename_i hi
   have hlt := (List.getElem?_eq_some_iff.1 hb).1
   simp at hlt
   have : i = rs'.length := by omega
   subst this
   rw [hr] at ha
   simp at hb ha
   subst ha hb
   exact hok
def spH : HR := ⟨⟨#[115,112,97,114,101]⟩,none,0,0,[]⟩

set_option maxHeartbeats 1000000 in
theorem twinH_any (A : Option Addr) (len cap : Nat) (rs : List HR) (w : World) (hw : HdsAt w w.heap.size A len rs) (hlv : ∀ h ∈ rs,h.len * 32≤140737488351232) (hreach : len * 40≤140737488351232) :
    Calls Tryz.prog 15 #[.slice A len cap] w fun e w' => ∃ rs',rs'.length = len∧e = .returned (.slice (some ⟨w.heap.size,0,none⟩) len (len+1))∧w'.heap[w.heap.size]? = some (.cells ((rs' ++ [spH]).flatMap HR.cells).toArray 89 (0,0))∧HwAll w' w.heap.size rs rs'∧Below w.heap.size w w' := by
 have hlen := Lib.hid hw.1.len
 obtain ⟨i0,hi,hz0,hz1,hz2⟩ := info_parts info_held
 go_enter Tryz.func15,Tryz.ntmps15
 go_wp2_with (at_make; refine wpList_make_own _ rfl _ _ 26 rfl w.heap.size 89 i0 _ 2 Tryz.underlying26 hi hz0 hz1 _ _ _ (len+1) rfl rfl (by omega) (by rw [hz2]; omega) (by simp only [maxLen]; omega) (Nat.le_refl _) ?_; intro w1 hown1 hgrow1)
 have hs1 : w.heap.size < w1.heap.size := (hown1.lt _ rfl).2
 have hbw1 : Below w.heap.size w w1 := (Below.refl _ _).grown hgrow1 (Nat.le_refl _) (fun k hk => by cases hk)
 go_wp2_with fail
 go_loopw [3,4] (fun v i wr => ∃ (k : Nat) (rs' : List HR),k≤len∧i = .int .i64 k∧v = .slice (some ⟨w.heap.size,0,none⟩) k (len+1)∧rs'.length = k∧wr.ownsRow w.heap.size 89 2 (.slice (some ⟨w.heap.size,0,none⟩) k (len+1)) k (rs'.flatMap HR.cells)∧HwAll wr w.heap.size rs rs'∧Below w.heap.size w wr) (fun _ i _ => len - (RowKit.intOf i).toNat)
 case atStart => exact ⟨0,[],Nat.zero_le _,rfl,rfl,rfl,hown1,fun i r r' _ h => by simp at h,hbw1⟩
 case round =>
  obtain ⟨k,rs',hk,rfl,rfl,hl',hown,htw,hb⟩ := hrel
  have hr := hw.below hb
  have Hb := Lib.hid hb
  have Hl' := Lib.hid hl'
  have hs := hb.size
  have hgl := (hown.lt _ rfl).2
  clear hb hown1 hgrow1 hbw1 hl'
  by_cases hlt : k < len
  · obtain ⟨b,off,r,rfl,hbl,hx,x0,x1,hws,-,-⟩ := hr.cell2 hlt
    have hrl := hlv r (List.mem_of_getElem? hx)
    have Hx := Lib.hid hx
    have hws' := hws.more hs
    clear hx
    go_wp2_with fail
    refine (twinhd_any r.key r.A r.len r.cap r.vs _ hws' hrl).mono ?_
    rintro e w2 ⟨b2,hb21,hb22,rfl,hblk,hb2⟩
    have Hblk := Lib.hid hblk
    have hown2 := ownsRow_below hown hb2
    have htw2 := htw.keep hb2.size (fun b _ hbl => hb2.block b hbl)
    have Hb2 := Lib.hid hb2
    have hs2 := hb2.size
    clear hblk hb2
    go_wp2_with (at_builtin; refine wpList_append_fits _ rfl _ _ 26 rfl w.heap.size 89 i0 2 Tryz.underlying26 hi hz1 w.heap.size k (len+1) _ rfl (hown2.alloc _) ⟨w2.heap.size,0,none⟩ 1 1 (HR.cells ⟨r.key,some ⟨b2,0,none⟩,r.len,r.len+1,r.vs⟩) rfl rfl (cells_new _ _ _) (one_hr _) (by omega) ?_; intro w3 hown3 hg3)
    have hbl3 := below_grown_new hown2 hg3 (by omega)
    have hk3 : ∀ b,w.heap.size < b→b < w2.heap.size→w3.heap[b]? = w2.heap[b]? := fun b h1 h2 => (hg3.block b (by simp; omega) (by simp; omega)).trans (Below.heap_alloc _ _ _ h2)
    have hz3 : w2.heap.size≤w3.heap.size := by have := hg3.size; simp at this; omega
    have hws3 := (hws.len)
    refine ⟨⟨k+1,rs' ++ [⟨r.key,some ⟨b2,0,none⟩,r.len,r.len+1,r.vs⟩],by omega,by go_num,rfl,by simp [Hl'.out],?_,?_,(Hb.out.trans (Hb2.out.mono (by omega))).trans hbl3⟩,by simp [RowKit.intOf]; omega⟩
    · rw [List.flatMap_append]; simpa using hown3
    · refine (htw2.keep hz3 hk3).snoc (r := r) (by rw [Hl'.out]; exact Hx.out) ⟨rfl,rfl,rfl,b2,by omega,by omega,rfl,rfl,?_,hws3⟩
      rw [hk3 b2 (by omega) hb22]; exact Hblk.out
  · have hkl : k = len := by omega
    subst hkl
    go_wp2_with (at_builtin; refine wpList_append_fits _ rfl _ _ 26 rfl w.heap.size 89 i0 2 Tryz.underlying26 hi hz1 w.heap.size k (k+1) _ rfl (hown.alloc _) ⟨wr.heap.size,0,none⟩ 1 1 spH.cells rfl rfl (cells_new _ _ _) (one_hr _) (by omega) ?_; intro w2 hown2 hg2)
    have hbl2 := below_grown_new hown hg2 (by omega)
    have hk3 : ∀ b,w.heap.size < b→b < wr.heap.size→w2.heap[b]? = wr.heap[b]? := fun b h1 h2 => (hg2.block b (by simp; omega) (by simp; omega)).trans (Below.heap_alloc _ _ _ h2)
    have hz3 : wr.heap.size≤w2.heap.size := by have := hg2.size; simp at this; omega
    have htw3 := htw.keep hz3 hk3
    clear hk3 htw hown
    go_wp2_with fail
    go_ret
    exact ⟨rs',Hl'.out,rfl,by simpa using blk_of_own hown2,htw3,Hb.out.trans hbl2⟩

set_option maxHeartbeats 1000000 in
theorem lefthd_any (n : ByteArray) (b : Nat) (A : Option Addr) (len cap : Nat) (xs : List Ver) (w : World) (hg : w.heap[b]? = some (.cells ((xs ++ [spV]).flatMap Ver.cells).toArray 152 (0,0))) (hw : VsAt w w.heap.size A len xs) (hreach : len * 32≤140737488351232) :
    Calls Tryz.prog 55 #[.agg #[.string n,.slice (some ⟨b,0,none⟩) len (len+1)],.agg #[.string n,.slice A len cap]] w fun e w' => e = .returned (.bool true)∧Below w.heap.size w w' := by
 have hgl : b < w.heap.size := (Array.getElem?_eq_some_iff.1 hg).1
 have hg2 : ∀ o p,((w.alloc o).alloc p).heap[b]? = some (.cells ((xs ++ [spV]).flatMap Ver.cells).toArray 152 (0,0)) := fun o p => (Below.heap_alloc _ _ _ (by simp; omega)).trans ((Below.heap_alloc _ _ _ hgl).trans hg)
 have hw2 : ∀ o p,VsAt ((w.alloc o).alloc p) ((w.alloc o).alloc p).heap.size A len xs := fun o p => (hw.below (((Below.refl _ _).alloc (Nat.le_refl _) _).alloc (by simp) _)).more (by simp; omega)
 have Hg2 := Lib.hid hg2
 clear hg hg2
 go_enter Tryz.func55,Tryz.ntmps55
 go_wp2_with fail
 refine (leftV_any b A len cap xs _ (Hg2.out _ _) (hw2 _ _) hreach).mono ?_
 rintro e w2 ⟨rfl,hb2⟩
 go_wp2_with fail
 go_ret
 exact ⟨rfl,(((Below.refl _ _).alloc (Nat.le_refl _) _).alloc (by simp) _).trans (hb2.mono (by simp; omega))⟩

set_option maxHeartbeats 1000000 in
theorem leftH_any (g : Nat) (A : Option Addr) (len cap : Nat) (rs rs' : List HR) (w : World) (hl' : rs'.length = len) (hg : w.heap[g]? = some (.cells ((rs' ++ [spH]).flatMap HR.cells).toArray 89 (0,0))) (htw : HwAll w g rs rs') (hw : HdsAt w w.heap.size A len rs) (hlv : ∀ h ∈ rs,h.len * 32≤140737488351232) (hreach : len * 40≤140737488351232) :
    Calls Tryz.prog 32 #[.slice (some ⟨g,0,none⟩) len (len+1),.slice A len cap] w fun e w' => e = .returned (.bool true)∧Below w.heap.size w w' := by
 have hgl : g < w.heap.size := (Array.getElem?_eq_some_iff.1 hg).1
 have hrow := row_of_blk (len_hr _) hg hgl
 rw [hl'] at hrow
 have hb0 := beq_self_eq_true (len : Int)
 have Hl' := Lib.hid hl'
 have Htw := Lib.hid htw
 clear hl' htw hg
 go_enter Tryz.func32,Tryz.ntmps32
 go_wp2_with fail
 go_loopw [5] (fun i wr => ∃ k : Nat,k≤len∧i = .int .i64 k∧Below w.heap.size w wr) (fun i _ => len - (RowKit.intOf i).toNat)
 case atStart => exact ⟨0,Nat.zero_le _,rfl,Below.refl _ _⟩
 case round =>
  obtain ⟨k,hk,rfl,hb⟩ := hrel
  have hr := hw.below hb
  have ht := hrow.below hb
  have Hb := Lib.hid hb
  have hs := hb.size
  clear hb
  by_cases hlt : k < len
  · obtain ⟨b,off,r,rfl,hbl,hx,x0,x1,hws,-,-⟩ := hr.cell2 hlt
    have hrl := hlv r (List.mem_of_getElem? hx)
    obtain ⟨b',off',r',he,hbl',hy,hyc⟩ := ht.at_ (show k < len+1 by omega)
    simp only [Option.some.injEq,Addr.mk.injEq,and_true] at he
    obtain ⟨rfl,rfl⟩ := he
    rw [List.getElem?_append_left (by have := Hl'.out; omega)] at hy
    obtain ⟨e1,e2,e3,bb,h4,h5,h6,h7,h8,h9⟩ := Htw.out k r r' hx hy
    have y0 := hyc 0 _ rfl
    have y1 := hyc 1 _ rfl
    rw [e1] at y0
    rw [h6,e3,h7,e3] at y1
    rw [e2] at h8
    simp only [Nat.zero_add,Nat.add_zero] at y0 y1
    have hblk : wr.drew.heap[bb]? = _ := (Hb.out.block bb h5).trans h8
    have hwsd : VsAt wr.drew wr.drew.heap.size r.A r.len r.vs := hws.more hs
    have Hblk := Lib.hid hblk
    clear hx hy e1 e2 e3 h6 h7 h8 h9 hyc hblk
    go_wp2_with fail
    go_region_held3 (fun w' => w'.cell? ⟨b,off+k * 2,none⟩ = some (.string r.key)∧w'.cell? ⟨b,off+k * 2+1,none⟩ = some (.slice r.A r.len r.cap)∧w'.cell? ⟨g,k * 2,none⟩ = some (.string r.key)∧w'.cell? ⟨g,k * 2+1,none⟩ = some (.slice (some ⟨bb,0,none⟩) r.len (r.len+1)))
     (first | exact ⟨x0,x1,y0,y1⟩ | exact ⟨(hbx.cell (p := ⟨b,off+k * 2,none⟩) (by show b < _; omega)).trans x0,(hbx.cell (p := ⟨b,off+k * 2+1,none⟩) (by show b < _; omega)).trans x1,(hbx.cell (p := ⟨g,k * 2,none⟩) (by show g < _; omega)).trans y0,(hbx.cell (p := ⟨g,k * 2+1,none⟩) (by show g < _; omega)).trans y1⟩)
     (first | (go_at_call 55; refine (lefthd_any r.key bb r.A r.len r.cap r.vs wr.drew Hblk.out hwsd hrl).mono ?_; rintro e w1 ⟨rfl,hb1⟩; have hbx : Below wr.heap.size wr w1 := (Below.refl _ _).drew.trans hb1; have Hbx := Lib.hid hbx; clear hb1))
    go_wp2_with fail
    exact ⟨⟨k+1,by omega,by go_num,Hb.out.trans (Hbx.out.mono hs)⟩,by simp [RowKit.intOf]; omega⟩
  · have hkl : k = len := by omega
    subst hkl
    obtain ⟨b',off',r',he,hbl',hy,hyc⟩ := ht.at_ (show k < k+1 by omega)
    simp only [Option.some.injEq,Addr.mk.injEq,and_true] at he
    obtain ⟨rfl,rfl⟩ := he
    have hyx : r' = spH := by
     rw [List.getElem?_append_right (by have := Hl'.out; omega),Hl'.out] at hy
     simpa using hy.symm
    subst hyx
    have y0 := hyc 0 _ rfl
    have y1 := hyc 1 _ rfl
    clear hy hyc
    simp only [Nat.zero_add,Nat.add_zero,spH] at y0 y1
    have hk1 : (k : Int) < (k : Int)+1 := by omega
    go_wp2_with fail
    go_ret
    exact ⟨rfl,Hb.out.alloc (by omega) _⟩
end
set_option maxHeartbeats 1000000 in
theorem twinI_any (A : Option Addr) (len cap : Nat) (xs : List Int) (w : World) (hw : RowAt Icell 1 w w.heap.size A len xs) (hreach : len * 8≤140737488351232) :
    Calls Tryz.prog 14 #[.slice A len cap] w fun e w' => e = .returned (.slice (some ⟨w.heap.size,0,none⟩) len (len+1))∧w'.heap[w.heap.size]? = some (.cells ((xs ++ [spI]).flatMap Icell).toArray 3 (0,0))∧Below w.heap.size w w' := by
 have hlen := Lib.hid hw.len
 obtain ⟨i0,hi,hz0,hz1,hz2⟩ := info_parts info_int
 go_enter Tryz.func14,Tryz.ntmps14
 go_wp2_with (at_make; refine wpList_make_own _ rfl _ _ 25 rfl w.heap.size 3 i0 _ 1 Tryz.underlying25 hi hz0 hz1 _ _ _ (len+1) rfl rfl (by omega) (by rw [hz2]; omega) (by simp only [maxLen]; omega) (Nat.le_refl _) ?_; intro w1 hown1 hgrow1)
 have hs1 : w.heap.size < w1.heap.size := (hown1.lt _ rfl).2
 have hbw1 : Below w.heap.size w w1 := (Below.refl _ _).grown hgrow1 (Nat.le_refl _) (fun k hk => by cases hk)
 go_wp2_with fail
 go_loopw [3,4] (fun v i wr => ∃ k : Nat,k≤len∧i = .int .i64 k∧v = .slice (some ⟨w.heap.size,0,none⟩) k (len+1)∧wr.ownsRow w.heap.size 3 1 (.slice (some ⟨w.heap.size,0,none⟩) k (len+1)) k ((xs.take k).flatMap Icell)∧Below w.heap.size w wr) (fun _ i _ => len - (RowKit.intOf i).toNat)
 case atStart => exact ⟨0,Nat.zero_le _,rfl,rfl,hown1,hbw1⟩
 case round =>
  obtain ⟨k,hk,rfl,rfl,hown,hb⟩ := hrel
  have hr := hw.below hb
  have Hb := Lib.hid hb
  have hs := hb.size
  have hgl := (hown.lt _ rfl).2
  clear hb hown1 hgrow1 hbw1
  by_cases hlt : k < len
  · obtain ⟨b,off,x,rfl,hbl,hx,hxc⟩ := hr.at_ hlt
    have x0 := hxc 0 _ rfl
    simp only [Nat.mul_one,Nat.add_zero] at x0
    have Hx := Lib.hid hx
    clear hx hxc
    go_wp2_with (at_builtin; refine wpList_append_fits _ rfl _ _ 25 rfl w.heap.size 3 i0 1 Tryz.underlying25 hi hz1 w.heap.size k (len+1) _ rfl (hown.alloc _) ⟨wr.heap.size,0,none⟩ 1 1 (Icell x) rfl rfl (cells_new _ _ _) (one_int x) (by omega) ?_; intro w2 hown2 hg2)
    have hbl2 := below_grown_new hown hg2 (by omega)
    refine ⟨⟨k+1,by omega,by go_num,rfl,?_,Hb.out.trans hbl2⟩,by simp [RowKit.intOf]; omega⟩
    rw [take_snoc_flat Hx.out]; exact hown2
  · have hkl : k = len := by omega
    subst hkl
    have htk : xs.take k = xs := List.take_of_length_le (by have := hlen.out; omega)
    rw [htk] at hown
    go_wp2_with (at_builtin; refine wpList_append_fits _ rfl _ _ 25 rfl w.heap.size 3 i0 1 Tryz.underlying25 hi hz1 w.heap.size k (k+1) _ rfl (hown.alloc _) ⟨wr.heap.size,0,none⟩ 1 1 (Icell spI) rfl rfl (cells_new _ _ _) (one_int spI) (by omega) ?_; intro w2 hown2 hg2)
    have hbl2 := below_grown_new hown hg2 (by omega)
    go_wp2_with fail
    go_ret
    exact ⟨rfl,by simpa using blk_of_own hown2,Hb.out.trans hbl2⟩

set_option maxHeartbeats 1000000 in
theorem leftI_any (g : Nat) (A : Option Addr) (len cap : Nat) (xs : List Int) (w : World) (hg : w.heap[g]? = some (.cells ((xs ++ [spI]).flatMap Icell).toArray 3 (0,0))) (hw : RowAt Icell 1 w w.heap.size A len xs) (hreach : len * 8≤140737488351232) :
    Calls Tryz.prog 31 #[.slice (some ⟨g,0,none⟩) len (len+1),.slice A len cap] w fun e w' => e = .returned (.bool true)∧Below w.heap.size w w' := by
 have hlen := Lib.hid hw.len
 have hgl : g < w.heap.size := (Array.getElem?_eq_some_iff.1 hg).1
 have hrow := row_of_blk (len_int _) hg hgl
 rw [hw.len] at hrow
 have hb0 := beq_self_eq_true (len : Int)
 go_enter Tryz.func31,Tryz.ntmps31
 go_wp2_with fail
 go_loopw [5] (fun i wr => ∃ k : Nat,k≤len∧i = .int .i64 k∧Below w.heap.size w wr) (fun i _ => len - (RowKit.intOf i).toNat)
 case atStart => exact ⟨0,Nat.zero_le _,rfl,Below.refl _ _⟩
 case round =>
  obtain ⟨k,hk,rfl,hb⟩ := hrel
  have hr := hw.below hb
  have ht := hrow.below hb
  have Hb := Lib.hid hb
  have hs := hb.size
  clear hb
  by_cases hlt : k < len
  · obtain ⟨b,off,x,rfl,hbl,hx,hxc⟩ := hr.at_ hlt
    have x0 := hxc 0 _ rfl
    simp only [Nat.mul_one,Nat.add_zero] at x0
    obtain ⟨b',off',y,he,hbl',hy,hyc⟩ := ht.at_ (show k < len+1 by omega)
    have y0 := hyc 0 _ rfl
    simp only [Nat.mul_one,Nat.add_zero] at y0
    simp only [Option.some.injEq,Addr.mk.injEq,and_true] at he
    obtain ⟨rfl,rfl⟩ := he
    have hyx : y = x := by
     rw [List.getElem?_append_left (by have := hlen.out; omega),hx] at hy
     exact (Option.some.inj hy).symm
    subst hyx
    clear hx hy hxc hyc
    simp only [Nat.zero_add] at y0
    go_wp2_with fail
    go_quiet (fail)
    go_wp2_with fail
    exact ⟨⟨k+1,by omega,by go_num,below_drewN Hb.out _⟩,by simp [RowKit.intOf]; omega⟩
  · have hkl : k = len := by omega
    subst hkl
    obtain ⟨b',off',y,he,hbl',hy,hyc⟩ := ht.at_ (show k < k+1 by omega)
    have y0 := hyc 0 _ rfl
    simp only [Nat.mul_one,Nat.add_zero] at y0
    simp only [Option.some.injEq,Addr.mk.injEq,and_true] at he
    obtain ⟨rfl,rfl⟩ := he
    have hyx : y = spI := by
     rw [List.getElem?_append_right (by have := hlen.out; omega),hlen.out] at hy
     simpa using hy.symm
    subst hyx
    clear hy hyc
    simp only [Nat.zero_add,spI] at y0
    have hk1 : (k : Int) < (k : Int)+1 := by omega
    go_wp2_with fail
    go_ret
    exact ⟨rfl,by first | exact Hb.out.alloc (by omega) _ | exact Hb.out⟩
set_option maxHeartbeats 1000000 in
theorem twinEv_any (A : Option Addr) (len cap : Nat) (xs : List Ev) (w : World) (hw : RowAt Ev.cells 6 w w.heap.size A len xs) (hreach : len * 48≤140737488351232) :
    Calls Tryz.prog 6 #[.slice A len cap] w fun e w' => e = .returned (.slice (some ⟨w.heap.size,0,none⟩) len (len+1))∧w'.heap[w.heap.size]? = some (.cells ((xs ++ [spEv]).flatMap Ev.cells).toArray 51 (0,0))∧Below w.heap.size w w' := by
 have hlen := Lib.hid hw.len
 obtain ⟨i0,hi,hz0,hz1,hz2⟩ := info_parts info_ev
 go_enter Tryz.func6,Tryz.ntmps6
 go_wp2_with (at_make; refine wpList_make_own _ rfl _ _ 29 rfl w.heap.size 51 i0 _ 6 Tryz.underlying29 hi hz0 hz1 _ _ _ (len+1) rfl rfl (by omega) (by rw [hz2]; omega) (by simp only [maxLen]; omega) (Nat.le_refl _) ?_; intro w1 hown1 hgrow1)
 have hs1 : w.heap.size < w1.heap.size := (hown1.lt _ rfl).2
 have hbw1 : Below w.heap.size w w1 := (Below.refl _ _).grown hgrow1 (Nat.le_refl _) (fun k hk => by cases hk)
 go_wp2_with fail
 go_loopw [3,4] (fun v i wr => ∃ k : Nat,k≤len∧i = .int .i64 k∧v = .slice (some ⟨w.heap.size,0,none⟩) k (len+1)∧wr.ownsRow w.heap.size 51 6 (.slice (some ⟨w.heap.size,0,none⟩) k (len+1)) k ((xs.take k).flatMap Ev.cells)∧Below w.heap.size w wr) (fun _ i _ => len - (RowKit.intOf i).toNat)
 case atStart => exact ⟨0,Nat.zero_le _,rfl,rfl,hown1,hbw1⟩
 case round =>
  obtain ⟨k,hk,rfl,rfl,hown,hb⟩ := hrel
  have hr := hw.below hb
  have Hb := Lib.hid hb
  have hs := hb.size
  have hgl := (hown.lt _ rfl).2
  clear hb hown1 hgrow1 hbw1
  by_cases hlt : k < len
  · obtain ⟨b,off,x,rfl,hbl,hx,hxc⟩ := hr.at_ hlt
    have x0 := hxc 0 _ rfl
    have x1 := hxc 1 _ rfl
    have x2 := hxc 2 _ rfl
    have x3 := hxc 3 _ rfl
    have x4 := hxc 4 _ rfl
    have x5 := hxc 5 _ rfl
    simp only [Nat.add_zero] at x0
    have Hx := Lib.hid hx
    clear hx hxc
    go_wp2_with (at_builtin; refine wpList_append_fits _ rfl _ _ 29 rfl w.heap.size 51 i0 6 Tryz.underlying29 hi hz1 w.heap.size k (len+1) _ rfl (hown.alloc _) ⟨wr.heap.size,0,none⟩ 1 1 (Ev.cells x) rfl rfl (cells_new _ _ _) (one_ev x) (by omega) ?_; intro w2 hown2 hg2)
    have hbl2 := below_grown_new hown hg2 (by omega)
    refine ⟨⟨k+1,by omega,by go_num,rfl,?_,Hb.out.trans hbl2⟩,by simp [RowKit.intOf]; omega⟩
    rw [take_snoc_flat Hx.out]; exact hown2
  · have hkl : k = len := by omega
    subst hkl
    have htk : xs.take k = xs := List.take_of_length_le (by have := hlen.out; omega)
    rw [htk] at hown
    go_wp2_with (at_builtin; refine wpList_append_fits _ rfl _ _ 29 rfl w.heap.size 51 i0 6 Tryz.underlying29 hi hz1 w.heap.size k (k+1) _ rfl (hown.alloc _) ⟨wr.heap.size,0,none⟩ 1 1 (Ev.cells spEv) rfl rfl (cells_new _ _ _) (one_ev spEv) (by omega) ?_; intro w2 hown2 hg2)
    have hbl2 := below_grown_new hown hg2 (by omega)
    go_wp2_with fail
    go_ret
    exact ⟨rfl,by simpa using blk_of_own hown2,Hb.out.trans hbl2⟩

set_option maxHeartbeats 1000000 in
theorem leftEv_any (g : Nat) (A : Option Addr) (len cap : Nat) (xs : List Ev) (w : World) (hg : w.heap[g]? = some (.cells ((xs ++ [spEv]).flatMap Ev.cells).toArray 51 (0,0))) (hw : RowAt Ev.cells 6 w w.heap.size A len xs) (hreach : len * 48≤140737488351232) :
    Calls Tryz.prog 11 #[.slice (some ⟨g,0,none⟩) len (len+1),.slice A len cap] w fun e w' => e = .returned (.bool true)∧Below w.heap.size w w' := by
 have hlen := Lib.hid hw.len
 have hgl : g < w.heap.size := (Array.getElem?_eq_some_iff.1 hg).1
 have hrow := row_of_blk (len_ev _) hg hgl
 rw [hw.len] at hrow
 have hb0 := beq_self_eq_true (len : Int)
 go_enter Tryz.func11,Tryz.ntmps11
 go_wp2_with fail
 go_loopw [5] (fun i wr => ∃ k : Nat,k≤len∧i = .int .i64 k∧Below w.heap.size w wr) (fun i _ => len - (RowKit.intOf i).toNat)
 case atStart => exact ⟨0,Nat.zero_le _,rfl,Below.refl _ _⟩
 case round =>
  obtain ⟨k,hk,rfl,hb⟩ := hrel
  have hr := hw.below hb
  have ht := hrow.below hb
  have Hb := Lib.hid hb
  have hs := hb.size
  clear hb
  by_cases hlt : k < len
  · obtain ⟨b,off,x,rfl,hbl,hx,hxc⟩ := hr.at_ hlt
    have x0 := hxc 0 _ rfl
    have x1 := hxc 1 _ rfl
    have x2 := hxc 2 _ rfl
    have x3 := hxc 3 _ rfl
    have x4 := hxc 4 _ rfl
    have x5 := hxc 5 _ rfl
    simp only [Nat.add_zero] at x0
    obtain ⟨b',off',y,he,hbl',hy,hyc⟩ := ht.at_ (show k < len+1 by omega)
    have y0 := hyc 0 _ rfl
    have y1 := hyc 1 _ rfl
    have y2 := hyc 2 _ rfl
    have y3 := hyc 3 _ rfl
    have y4 := hyc 4 _ rfl
    have y5 := hyc 5 _ rfl
    simp only [Nat.add_zero] at y0
    simp only [Option.some.injEq,Addr.mk.injEq,and_true] at he
    obtain ⟨rfl,rfl⟩ := he
    have hyx : y = x := by
     rw [List.getElem?_append_left (by have := hlen.out; omega),hx] at hy
     exact (Option.some.inj hy).symm
    subst hyx
    clear hx hy hxc hyc
    simp only [Nat.zero_add] at y0 y1 y2 y3 y4 y5
    go_wp2_with fail
    go_quiet (fail)
    go_wp2_with fail
    exact ⟨⟨k+1,by omega,by go_num,below_drewN Hb.out _⟩,by simp [RowKit.intOf]; omega⟩
  · have hkl : k = len := by omega
    subst hkl
    obtain ⟨b',off',y,he,hbl',hy,hyc⟩ := ht.at_ (show k < k+1 by omega)
    have y0 := hyc 0 _ rfl
    have y1 := hyc 1 _ rfl
    have y2 := hyc 2 _ rfl
    have y3 := hyc 3 _ rfl
    have y4 := hyc 4 _ rfl
    have y5 := hyc 5 _ rfl
    simp only [Nat.add_zero] at y0
    simp only [Option.some.injEq,Addr.mk.injEq,and_true] at he
    obtain ⟨rfl,rfl⟩ := he
    have hyx : y = spEv := by
     rw [List.getElem?_append_right (by have := hlen.out; omega),hlen.out] at hy
     simpa using hy.symm
    subst hyx
    clear hy hyc
    simp only [Nat.zero_add,spEv] at y0 y1 y2 y3 y4 y5
    have hk1 : (k : Int) < (k : Int)+1 := by omega
    go_wp2_with fail
    go_ret
    exact ⟨rfl,by first | exact Hb.out.alloc (by omega) _ | exact Hb.out⟩
end Go.Proofs.YtcjmppjppmiggaaGreat

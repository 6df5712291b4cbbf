/- Lemmas and contracts of functions that statements of this seat stand on, many texts in one; each holds under the premises typed in its head. -/
import Derived.Test.YtafghiekpgjniaaGreatDoorOw9
import Derived.Test.YtafghiekpgjniaaGreatDoorPC
import Derived.Test.YtafghiekpgjniaaGreatDoorShB
import Derived.Test.YtafghiekpgjniaaGreatDoorShC
import Derived.Test.YtafghiekpgjniaaGreatDoorShD
import Derived.Test.YtafghiekpgjniaaGreatDoorSl1
import Derived.Test.YtafghiekpgjniaaGreatDoorPT
/- owner: its memory; there, Len, Room, All; slices.Clone of numbers. -/
namespace Go.Proofs.YtafghiekpgjniaaGreatDoor
open Go.RowKit
set_option linter.unusedVariables false
set_option linter.unusedSimpArgs false

set_option maxRecDepth 100000
theorem RowAt.keptB {α : Type} {cells : α → List Value} {size : Nat} {w w' : World} {B n : Nat} {A : Option Addr} {xs : List α} {X : Nat → Prop} (h : RowAt cells size w B A n xs) (hB : B ≤ w.heap.size) (k : Kept w w' X) (hX : ∀ a, A = some a → 0 < n → ¬ X a.block) : RowAt cells size w' B A n xs := by
  refine ⟨h.1, fun hn => ?_⟩
  obtain ⟨b, off, e, hb, hx⟩ := h.2 hn
  refine ⟨b, off, e, hb, fun i x hi j u hu => ?_⟩
  rw [k.cell (Nat.lt_of_lt_of_le hb hB) (hX _ e hn)]; exact hx i x hi j u hu
/-- Where an owner lies: its own block, its shard, its ring and the ring's block. -/
structure OB where
  g : Nat
  t : SB
  p : Nat
  b : Nat
  cap : Nat
/-- What a request names beyond a mark. -/
structure BeyAt (w : World) (o : OB) (r : Rq) : Prop where
  row : RowAt Icell 1 w w.heap.size r.A r.len r.bs
  ap : ∀ a, r.A = some a → 0 < r.len → a.block ≠ o.p ∧ a.block ≠ o.b ∧ a.block ≠ o.t.p
  lim : r.len ≤ 17592186044416
/-- An owner: its shard holds L, its requests are q. -/
structure OwAt (w : World) (o : OB) (first : Nat) (L : Hs) (q : List Rq) : Prop where
  hg : w.heap[o.g]? = some (.cells #[.pointer (some ⟨o.t.g, 0, none⟩), .pointer (some ⟨o.p, 0, none⟩)] 160 (0, 0))
  sh : ShAt w o.t L
  rg : RingAt w o.p o.b o.cap first q
  bey : ∀ r ∈ q, BeyAt w o r
  may : ∀ r ∈ q, mayR r = true
section
variable {w w' : World} {o : OB} {first : Nat} {L : Hs} {q : List Rq}
theorem BeyAt.kept {X : Nat → Prop} {r : Rq} (h : BeyAt w o r) (k : Kept w w' X) (hX : ∀ b, X b → b = o.p ∨ b = o.b ∨ b = o.t.p) : BeyAt w' o r :=
  ⟨(h.row.keptB (Nat.le_refl _) k (fun a e hn hx => by have := h.ap a e hn; have := hX _ hx; omega)).more k.size, h.ap, h.lim⟩
theorem OwAt.tp_ne (h : OwAt w o first L q) : o.g ≠ o.t.p ∧ o.p ≠ o.t.p ∧ o.b ≠ o.t.p := by
  have hn := h.sh.noC
  obtain ⟨cs, h1, -⟩ := h.rg.buf.hb
  exact ⟨fun e => hn _ _ _ (e ▸ h.hg), fun e => hn _ _ _ (e ▸ h.rg.hp), fun e => hn _ _ _ (e ▸ h1)⟩
/-- Where the shard's map alone may have changed. -/
theorem OwAt.shard {L' : Hs} (h : OwAt w o first L q) (hs : ShAt w' o.t L') (k : Kept w w' (· = o.t.p)) : OwAt w' o first L' q := by
  obtain ⟨n1, n2, n3⟩ := h.tp_ne
  exact ⟨k.blk h.hg (blk_lt h.hg) n1, hs, h.rg.kept k ⟨n2, n3⟩, fun r hr => (h.bey r hr).kept k (fun b e => Or.inr (Or.inr e)), h.may⟩
theorem OwAt.below (h : OwAt w o first L q) (hb : Below w.heap.size w w') : OwAt w' o first L q :=
  h.shard (h.sh.below hb) (Kept.of_below hb)
/-- Where the ring alone may have changed. -/
theorem OwAt.ring_sh (h : OwAt w o first L q) (k : Kept w w' (fun b => b = o.p ∨ b = o.b)) : ShAt w' o.t L := by
  obtain ⟨n1, n2, n3⟩ := h.tp_ne
  refine h.sh.keptV k fun b hb => ?_
  have e1 := h.rg.hp
  obtain ⟨cs, e2, -⟩ := h.rg.buf.hb
  obtain ⟨m, e3, -⟩ := h.sh
  rcases hb with rfl | rfl
  · exact ⟨n2, (fun e => by rw [← e, e1] at e3; cases e3), (fun cs fr hc => by rw [e1] at hc; cases hc)⟩
  · exact ⟨n3, (fun e => by rw [← e, e2] at e3; cases e3), (fun cs' fr hc => by rw [e2] at hc; cases hc)⟩
theorem OwAt.ring {q' : List Rq} {f' : Nat} (h : OwAt w o first L q) (hr : RingAt w' o.p o.b o.cap f' q') (k : Kept w w' (fun b => b = o.p ∨ b = o.b)) (hb : ∀ r ∈ q', BeyAt w o r) (hm : ∀ r ∈ q', mayR r = true) : OwAt w' o f' L q' := by
  have e0 := h.hg
  have e1 := h.rg.hp
  obtain ⟨cs, e2, -⟩ := h.rg.buf.hb
  refine ⟨k.blk e0 (blk_lt e0) (fun e => ?_), h.ring_sh k, hr, fun r hr => (hb r hr).kept k (fun b e => by omega), hm⟩
  rcases e with e | e
  · rw [e, e1] at e0; cases e0
  · rw [e, e2] at e0; cases e0
theorem OwAt.c0 (h : OwAt w o first L q) : w.cell? ⟨o.g, 0, none⟩ = some (.pointer (some ⟨o.t.g, 0, none⟩)) := blk_cell h.hg 0
theorem OwAt.c1 (h : OwAt w o first L q) : w.cell? ⟨o.g, 1, none⟩ = some (.pointer (some ⟨o.p, 0, none⟩)) := blk_cell h.hg 1
end
theorem othere_any (o : OB) (first : Nat) (L : Hs) (q : List Rq) (w : World) (h : OwAt w o first L q) : Calls Tryz.prog 125 #[.pointer (some ⟨o.g, 0, none⟩)] w fun e w' => e = .returned (.bool true) ∧ w' = w := by
  have h0 := h.c0
  clear h
  go_enter Tryz.func125, Tryz.ntmps125
  go_wp2_with fail
  go_ret
  exact ⟨rfl, rfl⟩
theorem oall_any (o : OB) (first : Nat) (L : Hs) (q : List Rq) (w : World) (h : OwAt w o first L q) (hn : L.length ≤ 3518437208883) : Calls Tryz.prog 40 #[.pointer (some ⟨o.g, 0, none⟩)] w (HeldsEnd w L) := by
  have h1 := h.c0
  have ht := Lib.hid (othere_any o first L q w h)
  have hr := Lib.hid (all_any o.t L w h.sh hn)
  clear h
  go_enter Tryz.func40, Tryz.ntmps40
  go_wp2_with fail
  refine ht.out.mono ?_
  rintro e w1 ⟨rfl, rfl⟩
  go_wp2_with fail
  refine hr.out.mono ?_
  rintro e w2 ⟨v, hs, rfl, hrow, hpl, hb⟩
  have Hr := Lib.hid (show HeldsEnd w1 L (.returned v) w2 from ⟨v, hs, rfl, hrow, hpl, hb⟩)
  clear hrow hpl hb
  go_wp2_with fail
  go_ret
  exact Hr.out
theorem info_int : (Tryz.prog.info? 3).map (fun i => (i.zero, i.size, i.bytes)) = some (some (.int .i64 0), 1, 8) := by kernel_rfl
theorem eqint_some (ad : Addr) (n c : Nat) (w : World) : (binOp .eql 88 (.slice (some ad) n c) (.slice none 0 0)).run Tryz.prog w = .ok (.bool false) w := by kernel_rfl
theorem eqint_none (w : World) : (binOp .eql 88 (.slice none 0 0) (.slice none 0 0)).run Tryz.prog w = .ok (.bool true) w := by kernel_rfl
abbrev OwnI (w : World) (B : Nat) (v : Value) (l : List Int) : Prop := w.ownsRow B 3 1 v l.length (l.flatMap Icell)
set_option maxHeartbeats 1000000 in
theorem clonei_any (A : Option Addr) (len cap : Nat) (l : List Int) (w : World) (hw : RowAt Icell 1 w w.heap.size A len l) (hn : A = none → cap = 0) (hl : len ≤ 17592186044416) :
    Calls Tryz.prog 127 #[.slice A len cap] w fun e w' => ∃ v, e = .returned v ∧ OwnI w' w.heap.size v l ∧ Below w.heap.size w w' := by
  have hlen := hw.len
  cases A with
  | none =>
    have h0 : len = 0 := by
      rcases Nat.eq_zero_or_pos len with h | h
      · exact h
      · obtain ⟨b, off, h, -⟩ := hw.2 h; cases h
    obtain rfl := h0
    obtain rfl := hn rfl
    obtain rfl : l = [] := List.eq_nil_of_length_eq_zero hlen
    have he := eqint_none
    go_enter Tryz.func127, Tryz.ntmps127
    go_wp2_with fail
    go_ret
    exact ⟨_, rfl, World.ownsRow_nil _ _ _ _, Below.refl _ _⟩
  | some ad =>
    obtain ⟨i0, hi, hz0, hz1, hz2⟩ := info_parts info_int
    have he := eqint_some ad len cap
    have hlen' := Lib.hid hlen
    clear hlen
    have hmade : ∀ X : World, (X.alloc (.cells #[] 3)).ownsRow X.heap.size 3 1 (.slice (some ⟨X.heap.size, 0, none⟩) 0 0) 0 [] := fun X => ⟨rfl, Or.inr ⟨_, 0, #[], rfl, Nat.le_refl _, blk_new _ _, Nat.le_refl _, Nat.zero_le _, rfl, rfl⟩⟩
    have Hmade := Lib.hid hmade
    clear hmade hn
    have hrow : ∀ X : World, Below w.heap.size w X → RowAt Icell 1 X X.heap.size (some ad) len l := fun X hX => (hw.below hX).more hX.size
    have Hrow := Lib.hid hrow
    clear hrow hw
    go_enter Tryz.func127, Tryz.ntmps127
    go_wp2_with (at_builtin; refine wpList_append_row (cells := Icell) rfl _ _ 88 rfl w.heap.size 3 i0 (.int .i64 0) 1 8 Tryz.underlying88 hi hz0 hz1 hz2 rfl (by decide) _ 0 [] rfl (Hmade.out w) (some ad) len cap _ l rfl (Hrow.out _ (bel_alloc (Below.refl _ _) _)) (fun h => by cases h) (fun _ _ => rfl) (fun y u hu => one_int y u hu) (by unfold maxLen; omega) (by omega) (by simp) ?_)
    intro v' w1 hown hg
    have Hown := Lib.hid hown
    have Hg := Lib.hid (below_grown_own (Hmade.out w) hg (by simp))
    clear hown hg
    go_wp2_with fail
    go_ret
    refine ⟨_, rfl, ?_, ?_⟩
    · have := Hown.out; rw [← hlen'.out] at this; simpa using this
    · exact ((Below.refl _ _).alloc (Nat.le_refl _) _).trans Hg.out
end Go.Proofs.YtafghiekpgjniaaGreatDoor

/- owner: New and Ask. -/

namespace Go.Proofs.YtafghiekpgjniaaGreatDoor
open Go.RowKit
set_option linter.unusedVariables false
set_option linter.unusedSimpArgs false

set_option maxRecDepth 100000
/-- What New answers. -/
def ONewEnd (w : World) (number queue : Int) (L : Hs) (e : Ending) (w' : World) : Prop :=
  if (0 ≤ number ∧ number < 16 ∧ 1 ≤ queue ∧ queue ≤ 16) ∧ mayH L = true then
    ∃ o : OB, e = .returned (.tuple #[.pointer (some ⟨o.g, 0, none⟩), .int .i64 0]) ∧ OwAt w' o 0 L [] ∧ (o.cap : Int) = queue ∧ w.heap.size ≤ o.g ∧ w.heap.size ≤ o.t.g ∧ w.heap.size ≤ o.t.p ∧ w.heap.size ≤ o.p ∧ w.heap.size ≤ o.b ∧ Below w.heap.size w w'
  else e = .returned (.tuple #[.pointer none, .int .i64 1]) ∧ Below w.heap.size w w'
set_option maxHeartbeats 2000000 in
theorem onew_any (number queue : Int) (A : Option Addr) (len cap : Nat) (hs : List HR) (w : World) (hw : HdsAt w w.heap.size A len hs) (hl : len ≤ 3518437208883) (hlv : ∀ h ∈ hs, h.len ≤ 4398046511104) :
    Calls Tryz.prog 36 #[.int .i64 number, .int .i64 queue, .slice A len cap] w (ONewEnd w number queue (plainR hs)) := by
  have hload := load_any A len cap hs w hw hl hlv
  have Hload := Lib.hid hload
  have hbad : ∀ X, ¬ ((0 ≤ number ∧ number < 16 ∧ 1 ≤ queue ∧ queue ≤ 16) ∧ mayH (plainR hs) = true) → Below w.heap.size w X → ONewEnd w number queue (plainR hs) (.returned (.tuple #[.pointer none, .int .i64 1])) X := fun X h h' => by
    unfold ONewEnd; rw [if_neg h]; exact ⟨rfl, h'⟩
  have Hbad := Lib.hid hbad
  clear hload hbad hw
  by_cases h1 : 0 ≤ number ∧ number < 16
  · obtain ⟨h2, h3⟩ := h1
    by_cases h4 : 1 ≤ queue ∧ queue ≤ 16
    · obtain ⟨h5, h6⟩ := h4
      obtain ⟨c, rfl⟩ : ∃ c : Nat, queue = c := ⟨queue.toNat, by omega⟩
      have hc1 : 1 ≤ c := by omega
      have hc2 : c ≤ 16 := by omega
      have hgood : ∀ (o : OB) X, mayH (plainR hs) = true → OwAt X o 0 (plainR hs) [] → o.cap = c → w.heap.size ≤ o.g → w.heap.size ≤ o.t.g → w.heap.size ≤ o.t.p → w.heap.size ≤ o.p → w.heap.size ≤ o.b → Below w.heap.size w X →
          ONewEnd w number c (plainR hs) (.returned (.tuple #[.pointer (some ⟨o.g, 0, none⟩), .int .i64 0])) X := fun o X g0 g1 g2 g3 g4 g5 g6 g7 g8 => by
        unfold ONewEnd; rw [if_pos ⟨⟨h2, h3, h5, h6⟩, g0⟩]; exact ⟨o, rfl, g1, by rw [g2], g3, g4, g5, g6, g7, g8⟩
      have Hgood := Lib.hid hgood
      clear hgood
      go_enter Tryz.func36, Tryz.ntmps36
      go_wp2_with fail
      refine Hload.out.mono ?_
      rintro e w1 ⟨hok, hno, hb1⟩
      have Hb1 := Lib.hid hb1
      clear hb1
      cases hm : mayH (plainR hs)
      · obtain rfl := hno hm
        have Hm := Lib.hid hm
        clear hok hno hm
        go_wp2_with fail
        go_ret2
        exact Hbad.out _ (fun h => by rw [Hm.out] at h; cases h.2) Hb1.out
      · obtain ⟨t, rfl, hsh, ht1, ht2⟩ := hok hm
        have Hm := Lib.hid hm
        have Hsh := Lib.hid hsh
        clear hok hno hm hsh
        go_wp2_with fail
        refine (rnew_any c w1 hc1 (by omega)).mono ?_
        rintro e w2 ⟨p, b, rfl, hr, hp, hb, hb2⟩
        have Hr := Lib.hid hr
        have Hb2 := Lib.hid hb2
        have hs1 := Hb1.out.size
        clear hr hb2
        go_wp2_with fail
        go_ret2
        refine Hgood.out ⟨w2.heap.size, t, p, b, c⟩ _ Hm.out ⟨blk_new _ _, (Hsh.out.below Hb2.out).alloc _, Hr.out.below (bel_alloc (Below.refl _ _) _), (fun r hr => by cases hr), (fun r hr => by cases hr)⟩ rfl ?_ ht1 ht2 ?_ ?_ (bel_alloc (Hb1.out.trans (Hb2.out.mono hs1)) _)
        · have := Hb2.out.size; simp; omega
        · simp; omega
        · simp; omega
    · by_cases h5 : 1 ≤ queue
      · have h6 : 16 < queue := by omega
        go_enter Tryz.func36, Tryz.ntmps36
        go_wp2_with fail
        go_ret2
        exact Hbad.out _ (fun h => h4 h.1.2.2) (Below.refl _ _)
      · go_enter Tryz.func36, Tryz.ntmps36
        go_wp2_with fail
        go_ret2
        exact Hbad.out _ (fun h => h4 h.1.2.2) (Below.refl _ _)
  · by_cases h5 : 0 ≤ number
    · have h6 : 16 ≤ number := by omega
      go_enter Tryz.func36, Tryz.ntmps36
      go_wp2_with fail
      go_ret2
      exact Hbad.out _ (fun h => h1 ⟨h.1.1, h.1.2.1⟩) (Below.refl _ _)
    · go_enter Tryz.func36, Tryz.ntmps36
      go_wp2_with fail
      go_ret2
      exact Hbad.out _ (fun h => h1 ⟨h.1.1, h.1.2.1⟩) (Below.refl _ _)
/-- What Ask answers. -/
def OAskEnd (w : World) (o : OB) (first : Nat) (L : Hs) (q : List Rq) (r : Rq) (e : Ending) (w' : World) : Prop :=
  if mayR r = true then
    if q.length < o.cap then ∃ A' cap', e = .returned (.tuple #[.bool true, .int .i64 0]) ∧ (∀ a, A' = some a → w.heap.size ≤ a.block) ∧ OwAt w' o first L (q ++ [{ r with A := A', cap := cap' }]) ∧ Kept w w' (fun b => b = o.p ∨ b = o.b)
    else e = .returned (.tuple #[.bool false, .int .i64 0]) ∧ Below w.heap.size w w'
  else e = .returned (.tuple #[.bool false, .int .i64 1]) ∧ Below w.heap.size w w'
set_option maxHeartbeats 8000000 in
theorem oask_any (o : OB) (first : Nat) (L : Hs) (q : List Rq) (r : Rq) (w : World) (h : OwAt w o first L q) (hi : RowAt Icell 1 w w.heap.size r.A r.len r.bs) (hA : r.A = none → r.cap = 0) (hl : r.len ≤ 17592186044416) :
    Calls Tryz.prog 38 #[.pointer (some ⟨o.g, 0, none⟩), r.val] w (OAskEnd w o first L q r) := by
  have H := Lib.hid h
  have hth : ∀ X, Below w.heap.size w X → Calls Tryz.prog 125 #[.pointer (some ⟨o.g, 0, none⟩)] X fun e w' => e = .returned (.bool true) ∧ w' = X := fun X hX => othere_any o first L q X (h.below hX)
  have Hth := Lib.hid hth
  have hmy : ∀ X, Below w.heap.size w X → Calls Tryz.prog 126 #[r.val] X fun e w' => e = .returned (.bool (mayR r)) ∧ Below X.heap.size X w' := fun X hX => omay_any r X ((hi.below hX).more hX.size) hl
  have Hmy := Lib.hid hmy
  have hcl : ∀ X, Below w.heap.size w X → Calls Tryz.prog 127 #[.slice r.A r.len r.cap] X fun e w' => ∃ v, e = .returned v ∧ OwnI w' X.heap.size v r.bs ∧ Below X.heap.size X w' := fun X hX => clonei_any r.A r.len r.cap r.bs X ((hi.below hX).more hX.size) hA hl
  have Hcl := Lib.hid hcl
  have Hi := Lib.hid hi
  have hbs : r.bs.length = r.len := hi.len
  have Hbs := Lib.hid hbs
  clear h hth hmy hcl hi hbs hA
  unfold Rq.val at Hmy ⊢
  go_enter Tryz.func38, Tryz.ntmps38
  go_wp2_with fail
  obtain ⟨W, hW⟩ : ∃ W, W = w.alloc (.cells r.cells.toArray 98) := ⟨_, rfl⟩
  change Calls _ _ _ (w.alloc (.cells r.cells.toArray 98)) _
  rw [← hW]
  have HB : Hid (Below w.heap.size w W) := Lib.hid (hW ▸ bel_alloc (Below.refl _ _) _)
  have HN : Hid (W.heap[w.heap.size]? = some (.cells r.cells.toArray 98 (0, 0))) := Lib.hid (hW ▸ blk_new _ _)
  clear hW
  refine (Hth.out _ HB.out).mono ?_
  rintro e w1 ⟨rfl, rfl⟩
  obtain ⟨z0, z1, z2, z3, z4, z5, z6, z7, z8⟩ := rqz r.kind r.from_ r.num r.wk r.wv r.wd r.key r.fin r.A r.len r.cap HN.out
  go_wp2_with fail
  refine (Hmy.out _ HB.out).mono ?_
  rintro e w2 ⟨rfl, hb2⟩
  have HB2 := Lib.hid (HB.out.trans (hb2.mono HB.out.size))
  have HN2 := Lib.hid ((hb2.block _ (blk_lt HN.out)).trans HN.out)
  clear hb2 HB HN z0 z1 z2 z3 z4 z5 z6 z7 z8
  cases hm : mayR r
  · have Hm := Lib.hid hm
    clear hm
    go_wp2_with fail
    go_ret2
    unfold OAskEnd
    rw [if_neg (by rw [Hm.out]; exact Bool.false_ne_true)]
    exact ⟨rfl, HB2.out⟩
  · have Hm := Lib.hid hm
    clear hm
    obtain ⟨z0, z1, z2, z3, z4, z5, z6, z7, z8⟩ := rqz r.kind r.from_ r.num r.wk r.wv r.wd r.key r.fin r.A r.len r.cap HN2.out
    go_wp2_with fail
    refine (Hcl.out _ HB2.out).mono ?_
    rintro e w3 ⟨v, rfl, hown, hb3⟩
    obtain ⟨A', cap', hv, hrow, hnil, hcap⟩ := rowAt_own (len_int _) hown
    have hap : ∀ a, A' = some a → w2.heap.size ≤ a.block := fun a e => (hown.lt a.block (by rw [hv, e]; rfl)).1
    rw [Hbs.out] at hv hrow hcap
    subst hv
    have Hrow := Lib.hid hrow
    have Hap := Lib.hid hap
    have Hap2 : Hid (∀ a, A' = some a → w.heap.size ≤ a.block) := Lib.hid (fun a e => Nat.le_trans HB2.out.size (hap a e))
    have HB3 := Lib.hid (HB2.out.trans (hb3.mono HB2.out.size))
    have HN3 := Lib.hid ((hb3.block _ (blk_lt HN2.out)).trans HN2.out)
    clear hown hrow hnil hcap hap hb3 z0 z1 z2 z3 z4 z5 z6 z7 z8
    have y8 : w3.cell? ⟨w.heap.size, 8, none⟩ = some (.slice r.A r.len r.cap) := blk_cell HN3.out 8
    have yf := blk_frozen HN3.out 8
    go_upto_region 6 with fail
    clear y8 yf
    have HN4 := Lib.hid (blk_set HN3.out 8 (.slice A' r.len cap'))
    have HB4 : Hid (Below w.heap.size w (w3.setCell ⟨w.heap.size, 8, none⟩ (.slice A' r.len cap'))) := Lib.hid (bel_set HB3.out (Nat.le_refl _) _)
    have HR4 : Hid (RowAt Icell 1 (w3.setCell ⟨w.heap.size, 8, none⟩ (.slice A' r.len cap')) w3.heap.size A' r.len r.bs) := Lib.hid (by
      have k : Kept w3 (w3.setCell ⟨w.heap.size, 8, none⟩ (.slice A' r.len cap')) (fun k => k = w.heap.size) := (Kept.refl w3 (fun k => k = w.heap.size)).setCell (p := ⟨w.heap.size, 8, none⟩) (Or.inl rfl) _
      exact Hrow.out.keptB (Nat.le_refl _) k (fun a e _ hx => by have := Hap.out a e; have := blk_lt HN2.out; omega))
    have hsz : (w3.setCell ⟨w.heap.size, 8, none⟩ (.slice A' r.len cap')).heap.size = w3.heap.size := by simp [World.setCell]
    have Hsz := Lib.hid hsz
    clear hsz
    generalize w3.setCell ⟨w.heap.size, 8, none⟩ (.slice A' r.len cap') = W4 at HN4 HB4 HR4 Hsz ⊢
    obtain ⟨r2, hr2⟩ : ∃ r2 : Rq, r2 = { r with A := A', cap := cap' } := ⟨_, rfl⟩
    have Hr2 := Lib.hid hr2
    have HO4 := Lib.hid (H.out.below HB4.out)
    have HN5 : Hid (W4.heap[w.heap.size]? = some (.cells #[.int .u8 r.kind, .int .i64 r.from_, .int .i64 r.num, .string r.wk, .string r.wv, .bool r.wd, .string r.key, .string r.fin, .slice A' r.len cap'] 98 (0, 0))) := HN4
    have HBy : Hid (BeyAt W4 o r2) := Lib.hid (by
      subst hr2
      refine ⟨by rw [Hsz.out]; exact HR4.out, fun a e hn => ?_, hl⟩
      have h1 := Hap.out a e
      have h2 := blk_lt H.out.rg.hp
      have h3 := H.out.rg.buf.lt
      have h4 := H.out.sh.lt.2
      have h5 := HB2.out.size
      omega)
    have HM2 : Hid (mayR r2 = true) := Lib.hid (by subst hr2; exact Hm.out)
    have hval : r2.val = .agg #[.int .u8 r.kind, .int .i64 r.from_, .int .i64 r.num, .string r.wk, .string r.wv, .bool r.wd, .string r.key, .string r.fin, .slice A' r.len cap'] := by subst hr2; rfl
    have Hval := Lib.hid hval
    clear hr2 hval HN4 HR4 Hsz Hrow Hap HB3 HN3 HB2 HN2 Hcl Hmy Hth
    have c1 := HO4.out.c1
    obtain ⟨z0, z1, z2, z3, z4, z5, z6, z7, z8⟩ := rqz r.kind r.from_ r.num r.wk r.wv r.wd r.key r.fin A' r.len cap' HN5.out
    go_still_tail 5, (by kernel_rfl)
    change wpList _ _ _ _ _ W4.drew
    clear z0 z1 z2 z3 z4 z5 z6 z7 z8 c1
    have HO5 : Hid (OwAt W4.drew o first L q) := Lib.hid (HO4.out.below (Below.refl _ _).drew)
    have HB5 : Hid (Below w.heap.size w W4.drew) := Lib.hid (bel_drew HB4.out)
    have HBy5 : Hid (BeyAt W4.drew o r2) := Lib.hid (HBy.out.kept (X := fun _ => False) (Kept.of_below (Below.refl _ _).drew) (fun _ h => h.elim))
    clear HO4 HB4 HBy HN5
    generalize W4.drew = W5 at HO5 HB5 HBy5 ⊢
    go_wp2_with fail
    rw [← Hval.out]
    by_cases hroom : q.length < o.cap
    · refine (rput_any o.p o.b o.cap first q r2 W5 HO5.out.rg hroom).mono ?_
      rintro e w6 ⟨rfl, hr6, k6⟩
      have HO6 : Hid (OwAt w6 o first L (q ++ [r2])) := Lib.hid (HO5.out.ring hr6 k6 (fun x hx => by
        rcases List.mem_append.1 hx with h | h
        · exact HO5.out.bey x h
        · simp at h; subst h; exact HBy5.out) (fun x hx => by
        rcases List.mem_append.1 hx with h | h
        · exact HO5.out.may x h
        · simp at h; subst h; exact HM2.out))
      have K6 : Hid (Kept w w6 (fun b => b = o.p ∨ b = o.b)) := Lib.hid ((Kept.of_below HB5.out).trans k6)
      clear hr6 k6
      go_wp2_with fail
      go_ret2
      unfold OAskEnd
      rw [if_pos Hm.out, if_pos hroom]
      exact ⟨A', cap', rfl, Hap2.out, Hr2.out ▸ HO6.out, K6.out⟩
    · refine (rput_full o.p o.b o.cap first q r2 W5 HO5.out.rg (by have := HO5.out.rg.hq; omega)).mono ?_
      rintro e w6 ⟨rfl, hb6⟩
      have HB6 := Lib.hid (HB5.out.trans (hb6.mono HB5.out.size))
      clear hb6
      go_wp2_with fail
      go_ret2
      unfold OAskEnd
      rw [if_pos Hm.out, if_neg hroom]
      exact ⟨rfl, HB6.out⟩
end Go.Proofs.YtafghiekpgjniaaGreatDoor


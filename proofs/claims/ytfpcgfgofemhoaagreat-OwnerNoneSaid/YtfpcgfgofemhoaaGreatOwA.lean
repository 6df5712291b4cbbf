/- owner: its memory; there, Len, Room, All; slices.Clone of numbers. -/
import Derived.Test.YtfpcgfgofemhoaaGreatOw9
import Derived.Test.YtfpcgfgofemhoaaGreatOwk
import Derived.Test.YtfpcgfgofemhoaaGreatShB
import Derived.Test.YtfpcgfgofemhoaaGreatShC
import Derived.Test.YtfpcgfgofemhoaaGreatShD
import Derived.Test.YtfpcgfgofemhoaaGreatSl1
import Derived.Test.YtfpcgfgofemhoaaGreatSh8
namespace Go.Proofs.YtfpcgfgofemhoaaGreat
open Go.RowKit
set_option linter.unusedVariables false
set_option linter.unusedSimpArgs false

set_option maxRecDepth 100000
theorem RowAt.keptB {α : Type} {cells : α → List Value} {size : Nat} {w w' : World} {B n : Nat} {A : Option Addr} {xs : List α} {X : Nat → Prop} (h : RowAt cells size w B A n xs) (hB : B ≤ w.heap.size) (k : Kept w w' X) (hX : ∀ a, A = some a → 0 < n → ¬ X a.block) : RowAt cells size w' B A n xs := by
  refine ⟨h.1, fun hn => ?_⟩
  obtain ⟨b, off, e, hb, hx⟩ := h.2 hn
  refine ⟨b, off, e, hb, fun i x hi j u hu => ?_⟩
  rw [k.cell (Nat.lt_of_lt_of_le hb hB) (hX _ e hn)]; exact hx i x hi j u hu
/-- Where an owner lies: its own block, its shard, its ring and the ring's block. -/
structure OB where
  g : Nat
  t : SB
  p : Nat
  b : Nat
  cap : Nat
/-- What a request names beyond a mark. -/
structure BeyAt (w : World) (o : OB) (r : Rq) : Prop where
  row : RowAt Icell 1 w w.heap.size r.A r.len r.bs
  ap : ∀ a, r.A = some a → 0 < r.len → a.block ≠ o.p ∧ a.block ≠ o.b ∧ a.block ≠ o.t.p
  lim : r.len ≤ 17592186044416
/-- An owner: its shard holds L, its requests are q. -/
structure OwAt (w : World) (o : OB) (first : Nat) (L : Hs) (q : List Rq) : Prop where
  hg : w.heap[o.g]? = some (.cells #[.pointer (some ⟨o.t.g, 0, none⟩), .pointer (some ⟨o.p, 0, none⟩)] 45 (0, 0))
  sh : ShAt w o.t L
  rg : RingAt w o.p o.b o.cap first q
  bey : ∀ r ∈ q, BeyAt w o r
  may : ∀ r ∈ q, mayR r = true
section
variable {w w' : World} {o : OB} {first : Nat} {L : Hs} {q : List Rq}
theorem BeyAt.kept {X : Nat → Prop} {r : Rq} (h : BeyAt w o r) (k : Kept w w' X) (hX : ∀ b, X b → b = o.p ∨ b = o.b ∨ b = o.t.p) : BeyAt w' o r :=
  ⟨(h.row.keptB (Nat.le_refl _) k (fun a e hn hx => by have := h.ap a e hn; have := hX _ hx; omega)).more k.size, h.ap, h.lim⟩
theorem OwAt.tp_ne (h : OwAt w o first L q) : o.g ≠ o.t.p ∧ o.p ≠ o.t.p ∧ o.b ≠ o.t.p := by
  have hn := h.sh.noC
  obtain ⟨cs, h1, -⟩ := h.rg.buf.hb
  exact ⟨fun e => hn _ _ _ (e ▸ h.hg), fun e => hn _ _ _ (e ▸ h.rg.hp), fun e => hn _ _ _ (e ▸ h1)⟩
/-- Where the shard's map alone may have changed. -/
theorem OwAt.shard {L' : Hs} (h : OwAt w o first L q) (hs : ShAt w' o.t L') (k : Kept w w' (· = o.t.p)) : OwAt w' o first L' q := by
  obtain ⟨n1, n2, n3⟩ := h.tp_ne
  exact ⟨k.blk h.hg (blk_lt h.hg) n1, hs, h.rg.kept k ⟨n2, n3⟩, fun r hr => (h.bey r hr).kept k (fun b e => Or.inr (Or.inr e)), h.may⟩
theorem OwAt.below (h : OwAt w o first L q) (hb : Below w.heap.size w w') : OwAt w' o first L q :=
  h.shard (h.sh.below hb) (Kept.of_below hb)
/-- Where the ring alone may have changed. -/
theorem OwAt.ring_sh (h : OwAt w o first L q) (k : Kept w w' (fun b => b = o.p ∨ b = o.b)) : ShAt w' o.t L := by
  obtain ⟨n1, n2, n3⟩ := h.tp_ne
  refine h.sh.keptV k fun b hb => ?_
  have e1 := h.rg.hp
  obtain ⟨cs, e2, -⟩ := h.rg.buf.hb
  obtain ⟨m, e3, -⟩ := h.sh
  rcases hb with rfl | rfl
  · exact ⟨n2, (fun e => by rw [← e, e1] at e3; cases e3), (fun cs fr hc => by rw [e1] at hc; cases hc)⟩
  · exact ⟨n3, (fun e => by rw [← e, e2] at e3; cases e3), (fun cs' fr hc => by rw [e2] at hc; cases hc)⟩
theorem OwAt.ring {q' : List Rq} {f' : Nat} (h : OwAt w o first L q) (hr : RingAt w' o.p o.b o.cap f' q') (k : Kept w w' (fun b => b = o.p ∨ b = o.b)) (hb : ∀ r ∈ q', BeyAt w o r) (hm : ∀ r ∈ q', mayR r = true) : OwAt w' o f' L q' := by
  have e0 := h.hg
  have e1 := h.rg.hp
  obtain ⟨cs, e2, -⟩ := h.rg.buf.hb
  refine ⟨k.blk e0 (blk_lt e0) (fun e => ?_), h.ring_sh k, hr, fun r hr => (hb r hr).kept k (fun b e => by omega), hm⟩
  rcases e with e | e
  · rw [e, e1] at e0; cases e0
  · rw [e, e2] at e0; cases e0
theorem OwAt.c0 (h : OwAt w o first L q) : w.cell? ⟨o.g, 0, none⟩ = some (.pointer (some ⟨o.t.g, 0, none⟩)) := blk_cell h.hg 0
theorem OwAt.c1 (h : OwAt w o first L q) : w.cell? ⟨o.g, 1, none⟩ = some (.pointer (some ⟨o.p, 0, none⟩)) := blk_cell h.hg 1
end
theorem othere_any (o : OB) (first : Nat) (L : Hs) (q : List Rq) (w : World) (h : OwAt w o first L q) : Calls Tryz.prog 32 #[.pointer (some ⟨o.g, 0, none⟩)] w fun e w' => e = .returned (.bool true) ∧ w' = w := by
  have h0 := h.c0
  clear h
  go_enter Tryz.func32, Tryz.ntmps32
  go_wp2_with fail
  go_ret
  exact ⟨rfl, rfl⟩
theorem olen_any (o : OB) (first : Nat) (L : Hs) (q : List Rq) (w : World) (h : OwAt w o first L q) : Calls Tryz.prog 20 #[.pointer (some ⟨o.g, 0, none⟩)] w fun e w' => e = .returned (.int .i64 q.length) ∧ w' = w := by
  have h1 := h.c1
  have ht := Lib.hid (othere_any o first L q w h)
  have hr := Lib.hid (rlen_any _ _ _ _ _ w h.rg.rg)
  clear h
  go_enter Tryz.func20, Tryz.ntmps20
  go_wp2_with fail
  refine ht.out.mono ?_
  rintro e w1 ⟨rfl, rfl⟩
  go_wp2_with fail
  refine hr.out.mono ?_
  rintro e w1 ⟨rfl, rfl⟩
  go_wp2_with fail
  go_ret
  exact ⟨rfl, rfl⟩
theorem oroom_any (o : OB) (first : Nat) (L : Hs) (q : List Rq) (w : World) (h : OwAt w o first L q) : Calls Tryz.prog 22 #[.pointer (some ⟨o.g, 0, none⟩)] w fun e w' => e = .returned (.int .i64 ((o.cap - q.length : Nat) : Int)) ∧ Below w.heap.size w w' := by
  have h1 := h.c1
  have ht := Lib.hid (othere_any o first L q w h)
  have hr := Lib.hid (rroom_any _ _ _ _ _ w h.rg.rg h.rg.hq h.rg.hc)
  clear h
  go_enter Tryz.func22, Tryz.ntmps22
  go_wp2_with fail
  refine ht.out.mono ?_
  rintro e w1 ⟨rfl, rfl⟩
  go_wp2_with fail
  refine hr.out.mono ?_
  rintro e w1 ⟨rfl, hb⟩
  go_wp2_with fail
  go_ret
  exact ⟨rfl, hb⟩
theorem oall_any (o : OB) (first : Nat) (L : Hs) (q : List Rq) (w : World) (h : OwAt w o first L q) (hn : L.length ≤ 3518437208832) : Calls Tryz.prog 25 #[.pointer (some ⟨o.g, 0, none⟩)] w (HeldsEnd w L) := by
  have h1 := h.c0
  have ht := Lib.hid (othere_any o first L q w h)
  have hr := Lib.hid (all_any o.t L w h.sh hn)
  clear h
  go_enter Tryz.func25, Tryz.ntmps25
  go_wp2_with fail
  refine ht.out.mono ?_
  rintro e w1 ⟨rfl, rfl⟩
  go_wp2_with fail
  refine hr.out.mono ?_
  rintro e w2 ⟨v, hs, rfl, hrow, hpl, hb⟩
  have Hr := Lib.hid (show HeldsEnd w1 L (.returned v) w2 from ⟨v, hs, rfl, hrow, hpl, hb⟩)
  clear hrow hpl hb
  go_wp2_with fail
  go_ret
  exact Hr.out
theorem info_int : (Tryz.prog.info? 3).map (fun i => (i.zero, i.size, i.bytes)) = some (some (.int .i64 0), 1, 8) := by kernel_rfl
theorem eqint_some (ad : Addr) (n c : Nat) (w : World) : (binOp .eql 34 (.slice (some ad) n c) (.slice none 0 0)).run Tryz.prog w = .ok (.bool false) w := by kernel_rfl
theorem eqint_none (w : World) : (binOp .eql 34 (.slice none 0 0) (.slice none 0 0)).run Tryz.prog w = .ok (.bool true) w := by kernel_rfl
abbrev OwnI (w : World) (B : Nat) (v : Value) (l : List Int) : Prop := w.ownsRow B 3 1 v l.length (l.flatMap Icell)
set_option maxHeartbeats 1000000 in
theorem clonei_any (A : Option Addr) (len cap : Nat) (l : List Int) (w : World) (hw : RowAt Icell 1 w w.heap.size A len l) (hn : A = none → cap = 0) (hl : len ≤ 17592186044416) :
    Calls Tryz.prog 43 #[.slice A len cap] w fun e w' => ∃ v, e = .returned v ∧ OwnI w' w.heap.size v l ∧ Below w.heap.size w w' := by
  have hlen := hw.len
  cases A with
  | none =>
    have h0 : len = 0 := by
      rcases Nat.eq_zero_or_pos len with h | h
      · exact h
      · obtain ⟨b, off, h, -⟩ := hw.2 h; cases h
    obtain rfl := h0
    obtain rfl := hn rfl
    obtain rfl : l = [] := List.eq_nil_of_length_eq_zero hlen
    have he := eqint_none
    go_enter Tryz.func43, Tryz.ntmps43
    go_wp2_with fail
    go_ret
    exact ⟨_, rfl, World.ownsRow_nil _ _ _ _, Below.refl _ _⟩
  | some ad =>
    obtain ⟨i0, hi, hz0, hz1, hz2⟩ := info_parts info_int
    have he := eqint_some ad len cap
    have hlen' := Lib.hid hlen
    clear hlen
    have hmade : ∀ X : World, (X.alloc (.cells #[] 3)).ownsRow X.heap.size 3 1 (.slice (some ⟨X.heap.size, 0, none⟩) 0 0) 0 [] := fun X => ⟨rfl, Or.inr ⟨_, 0, #[], rfl, Nat.le_refl _, blk_new _ _, Nat.le_refl _, Nat.zero_le _, rfl, rfl⟩⟩
    have Hmade := Lib.hid hmade
    clear hmade hn
    have hrow : ∀ X : World, Below w.heap.size w X → RowAt Icell 1 X X.heap.size (some ad) len l := fun X hX => (hw.below hX).more hX.size
    have Hrow := Lib.hid hrow
    clear hrow hw
    go_enter Tryz.func43, Tryz.ntmps43
    go_wp2_with (at_builtin; refine wpList_append_row (cells := Icell) rfl _ _ 34 rfl w.heap.size 3 i0 (.int .i64 0) 1 8 Tryz.underlying34 hi hz0 hz1 hz2 rfl (by decide) _ 0 [] rfl (Hmade.out w) (some ad) len cap _ l rfl (Hrow.out _ (bel_alloc (Below.refl _ _) _)) (fun h => by cases h) (fun _ _ => rfl) (fun y u hu => one_int y u hu) (by unfold maxLen; omega) (by omega) (by simp) ?_)
    intro v' w1 hown hg
    have Hown := Lib.hid hown
    have Hg := Lib.hid (below_grown_own (Hmade.out w) hg (by simp))
    clear hown hg
    go_wp2_with fail
    go_ret
    refine ⟨_, rfl, ?_, ?_⟩
    · have := Hown.out; rw [← hlen'.out] at this; simpa using this
    · exact ((Below.refl _ _).alloc (Nat.le_refl _) _).trans Hg.out
end Go.Proofs.YtfpcgfgofemhoaaGreat

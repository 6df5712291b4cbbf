/- Lemmas and contracts of functions that statements of this seat stand on, many texts in one; each holds under the premises typed in its head. -/
import Derived.Test.YtafghiekpgjniaaGreatDoorPC
import Derived.Laws.ResultCell
import Derived.Laws.Rows
import Derived.Deep.MidRow
import Derived.StillTailTactics
import Derived.Deep.DeepCutAuto
import Derived.OwnWalk
/- The ring of requests: is it there, how many are there, how much room. -/
namespace Go.Proofs.YtafghiekpgjniaaGreatDoor
open Go.RowKit
set_option linter.unusedVariables false
set_option linter.unusedSimpArgs false

set_option maxRecDepth 100000
theorem eqrg_some (a : Addr) (n m : Nat) (w : World) : (binOp .eql 261 (.slice (some a) n m) (.slice none 0 0)).run Tryz.prog w = .ok (.bool false) w := by kernel_rfl
structure RgC (w : World) (p : Nat) (a : Addr) (cap first n : Nat) : Prop where
  lt : p < w.heap.size
  c0 : w.cell? ⟨p, 0, none⟩ = some (.slice (some a) cap cap)
  c1 : w.cell? ⟨p, 1, none⟩ = some (.int .i64 first)
  c2 : w.cell? ⟨p, 2, none⟩ = some (.int .i64 n)
  c3 : w.cell? ⟨p, 3, none⟩ = some (.bool false)
theorem rgone_any (p : Nat) (a : Addr) (cap first n : Nat) (w : World) (h : RgC w p a cap first n) :
    Calls Tryz.prog 222 #[.pointer (some ⟨p, 0, none⟩)] w fun e w' => e = .returned (.bool false) ∧ w' = w := by
  have h0 := h.c0
  have he := eqrg_some a cap cap
  clear h
  go_enter Tryz.func222, Tryz.ntmps222
  go_wp2_with fail
  go_ret
  exact ⟨rfl, rfl⟩
theorem rlen_any (p : Nat) (a : Addr) (cap first n : Nat) (w : World) (h : RgC w p a cap first n) :
    Calls Tryz.prog 223 #[.pointer (some ⟨p, 0, none⟩)] w fun e w' => e = .returned (.int .i64 n) ∧ w' = w := by
  have hg := Lib.hid (rgone_any p a cap first n w h)
  have h2 := h.c2
  clear h
  go_enter Tryz.func223, Tryz.ntmps223
  go_wp2_with fail
  refine hg.out.mono ?_
  rintro e w1 ⟨rfl, rfl⟩
  go_wp2_with fail
  go_ret
  exact ⟨rfl, rfl⟩
theorem rroom_any (p : Nat) (a : Addr) (cap first n : Nat) (w : World) (h : RgC w p a cap first n) (hn : n ≤ cap) (hc : cap ≤ 65536) :
    Calls Tryz.prog 193 #[.pointer (some ⟨p, 0, none⟩)] w fun e w' => e = .returned (.int .i64 ((cap - n : Nat) : Int)) ∧ Below w.heap.size w w' := by
  have hg := Lib.hid (rgone_any p a cap first n w h)
  have h0 := h.c0
  have h2 := h.c2
  have h3 := h.c3
  have e1 : IntKind.i64.wrap ((cap : Int) - (n : Int)) = ((cap - n : Nat) : Int) := by rw [IntKind.wrap_i64]; omega
  clear h
  go_enter Tryz.func193, Tryz.ntmps193
  go_wp2_with fail
  refine hg.out.mono ?_
  rintro e w1 ⟨rfl, rfl⟩
  go_wp2_with fail
  go_quiet (fail)
  go_wp2_with fail
  go_ret
  exact ⟨rfl, below_drewN (Below.refl _ _) _⟩
end Go.Proofs.YtafghiekpgjniaaGreatDoor

/- The ring of requests: the first one. -/
namespace Go.Proofs.YtafghiekpgjniaaGreatDoor
open Go.RowKit
set_option linter.unusedVariables false
set_option linter.unusedSimpArgs false

set_option maxRecDepth 100000
theorem RgC.below {w w' : World} {p : Nat} {a : Addr} {cap first n : Nat} (h : RgC w p a cap first n) (hb : Below w.heap.size w w') : RgC w' p a cap first n :=
  ⟨Nat.lt_of_lt_of_le h.lt hb.size, (hb.cell (p := ⟨p, 0, none⟩) h.lt).trans h.c0, (hb.cell (p := ⟨p, 1, none⟩) h.lt).trans h.c1, (hb.cell (p := ⟨p, 2, none⟩) h.lt).trans h.c2, (hb.cell (p := ⟨p, 3, none⟩) h.lt).trans h.c3⟩
theorem results_ct_row {P : Program} {fn : Func} {p u : Tmp} {ty : TypeId} (h : fn.results = #[.cell p ty, .tmp u]) (tmps : Array Value) (w : World) (g : Nat) (t : TypeId) (cs : Array Value) (fr : Nat × Nat) (d : TypeDesc)
    (hp : tmps.getD p undef = .pointer (some ⟨g, 0, none⟩)) (hg : w.heap[g]? = some (.cells cs t fr))
    (hu : P.underlying ty = some d) (hd : (match d with | .struct _ | .array _ _ => true | _ => false) = true) (hi : (P.info? ty).map (·.size) = some cs.size) :
    (results fn tmps).run P w = .ok (.tuple #[.agg cs, tmps.getD u undef]) w := by
  have hp' : tmps[p]?.getD undef = .pointer (some ⟨g, 0, none⟩) := by simpa using hp
  rw [results_cell_tmp h]
  simp [hp', asAddr, run_loadVar_row w g t ty cs fr d hg hu hd hi, Result.andThen]
/-- A request. -/
structure Rq where
  kind : Int
  from_ : Int
  num : Int
  wk : ByteArray
  wv : ByteArray
  wd : Bool
  key : ByteArray
  fin : ByteArray
  A : Option Addr
  len : Nat
  cap : Nat
  bs : List Int
def Rq.cells (r : Rq) : List Value := [.int .u8 r.kind, .int .i64 r.from_, .int .i64 r.num, .string r.wk, .string r.wv, .bool r.wd, .string r.key, .string r.fin, .slice r.A r.len r.cap]
def Rq.val (r : Rq) : Value := .agg #[.int .u8 r.kind, .int .i64 r.from_, .int .i64 r.num, .string r.wk, .string r.wv, .bool r.wd, .string r.key, .string r.fin, .slice r.A r.len r.cap]
/-- The request at a place of a block of requests. -/
structure RqAt (w : World) (b j : Nat) (r : Rq) : Prop where
  lt : b < w.heap.size
  c0 : w.cell? ⟨b, 0 + j * 9, none⟩ = some (.int .u8 r.kind)
  c1 : w.cell? ⟨b, 0 + j * 9 + 1, none⟩ = some (.int .i64 r.from_)
  c2 : w.cell? ⟨b, 0 + j * 9 + 2, none⟩ = some (.int .i64 r.num)
  c3 : w.cell? ⟨b, 0 + j * 9 + 3, none⟩ = some (.string r.wk)
  c4 : w.cell? ⟨b, 0 + j * 9 + 4, none⟩ = some (.string r.wv)
  c5 : w.cell? ⟨b, 0 + j * 9 + 5, none⟩ = some (.bool r.wd)
  c6 : w.cell? ⟨b, 0 + j * 9 + 6, none⟩ = some (.string r.key)
  c7 : w.cell? ⟨b, 0 + j * 9 + 7, none⟩ = some (.string r.fin)
  c8 : w.cell? ⟨b, 0 + j * 9 + 8, none⟩ = some (.slice r.A r.len r.cap)
def zeroRq : Rq := ⟨0, 0, 0, ⟨#[]⟩, ⟨#[]⟩, false, ⟨#[]⟩, ⟨#[]⟩, none, 0, 0, []⟩
set_option maxHeartbeats 2000000 in
theorem rfirst_none (p : Nat) (a : Addr) (cap first : Nat) (w : World) (h : RgC w p a cap first 0) :
    Calls Tryz.prog 194 #[.pointer (some ⟨p, 0, none⟩)] w fun e w' => e = .returned (.tuple #[zeroRq.val, .bool false]) ∧ Below w.heap.size w w' := by
  have hg := Lib.hid (fun X (h2 : RgC X p a cap first 0) => rlen_any p a cap first 0 X h2)
  have H := Lib.hid h
  clear h
  go_enter Tryz.func194, Tryz.ntmps194
  go_wp2_with fail
  refine (hg.out _ (H.out.below (bel_alloc (Below.refl _ _) _))).mono ?_
  rintro e w1 ⟨rfl, rfl⟩
  go_wp2_with fail
  refine bodyPost_ret (results_ct_row rfl _ _ w.heap.size _ _ _ _ rfl (heap_alloc_new _ _) Tryz.underlying98 rfl (by kernel_rfl)) rfl ⟨rfl, bel_alloc (Below.refl _ _) _⟩
end Go.Proofs.YtafghiekpgjniaaGreatDoor

/- The ring of requests: its memory. -/
namespace Go.Proofs.YtafghiekpgjniaaGreatDoor
open Go.RowKit
set_option linter.unusedVariables false
set_option linter.unusedSimpArgs false

set_option maxRecDepth 100000
theorem kept_setCells (b : Nat) : ∀ (vs : List Value) (o : Nat) (w : World), Kept w (w.setCells b o vs) (· = b)
  | [], _, w => Kept.refl w _
  | v :: r, o, w => by
    rw [World.setCells]
    have h1 : Kept w (w.setCell ⟨b, o, none⟩ v) (· = b) := (Kept.refl w (· = b)).setCell (p := ⟨b, o, none⟩) (Or.inl rfl) v
    exact h1.trans (kept_setCells b r (o + 1) _)
theorem Kept.setRow {a b : World} {X : Nat → Prop} (h : Kept a b X) {g : Nat} (hg : X g ∨ a.heap.size ≤ g) (cs : Array Value) : Kept a (b.setRow g cs) X :=
  ⟨h.os, h.tape, h.output, by rw [setRow_size]; exact h.size, fun k hk hx => (setRow_other _ _ _ _ (by rintro rfl; rcases hg with hg | hg; exact hx hg; omega)).trans (h.block k hk hx)⟩
theorem blk_setCells {b : Nat} {t : TypeId} : ∀ (vs : List Value) (o : Nat) (w : World) (cs : Array Value), w.heap[b]? = some (.cells cs t (0, 0)) → ∃ cs', (w.setCells b o vs).heap[b]? = some (.cells cs' t (0, 0)) ∧ cs'.size = cs.size
  | [], _, _, cs, h => ⟨cs, h, rfl⟩
  | v :: r, o, w, cs, h => by
    rw [World.setCells]
    obtain ⟨cs', h1, h2⟩ := blk_setCells r (o + 1) _ _ (blk_set h o v)
    exact ⟨cs', h1, by simpa using h2⟩
/-- The block of a ring's requests. -/
structure BufAt (w : World) (b cap first : Nat) (q : List Rq) : Prop where
  hb : ∃ cs, w.heap[b]? = some (.cells cs 98 (0, 0)) ∧ cs.size = cap * 9
  at_ : ∀ i r, q[i]? = some r → w.rangeAt b ((first + i) % cap * 9) r.cells
theorem BufAt.lt {w : World} {b cap first : Nat} {q : List Rq} (h : BufAt w b cap first q) : b < w.heap.size := by
  obtain ⟨cs, h1, -⟩ := h.hb
  exact blk_lt h1
theorem BufAt.kept {w w' : World} {X : Nat → Prop} {b cap first : Nat} {q : List Rq} (h : BufAt w b cap first q) (k : Kept w w' X) (hX : ¬ X b) : BufAt w' b cap first q := by
  obtain ⟨cs, h1, h2⟩ := h.hb
  exact ⟨⟨cs, k.blk h1 (blk_lt h1) hX, h2⟩, fun i r hi j v hv => (k.cell (blk_lt h1) hX).trans (h.at_ i r hi j v hv)⟩
theorem BufAt.there {w : World} {b cap first i : Nat} {q : List Rq} (h : BufAt w b cap first q) (hi : i < cap) : w.there b (i * 9) 9 := fun j hj => by
  obtain ⟨cs, h1, h2⟩ := h.hb
  have hlt : i * 9 + j < cs.size := by omega
  exact ⟨by rw [blk_cell h1, Array.getElem?_eq_getElem hlt]; rfl, blk_frozen h1 _⟩
theorem rq_len (r : Rq) : r.cells.length = 9 := rfl
theorem mod_near {a cap i : Nat} (ha : a < cap) (hi : i < cap) : (a + i) % cap = if a + i < cap then a + i else a + i - cap := by
  split
  · exact Nat.mod_eq_of_lt ‹_›
  · rw [Nat.mod_eq_sub_mod (by omega), Nat.mod_eq_of_lt (by omega)]
theorem BufAt.drop1 {w : World} {b cap first : Nat} {q : List Rq} {r : Rq} (h : BufAt w b cap first (r :: q)) (zs : List Value) (hz : zs.length = 9) (hf : first < cap) (hn : q.length + 1 ≤ cap) :
    BufAt (w.setCells b (first * 9) zs) b cap ((first + 1) % cap) q := by
  obtain ⟨cs, h1, h2⟩ := h.hb
  obtain ⟨cs', h3, h4⟩ := blk_setCells zs (first * 9) w cs h1
  refine ⟨⟨cs', h3, by omega⟩, fun i x hi => ?_⟩
  have hlt := (List.getElem?_eq_some_iff.1 hi).1
  have g := h.at_ (i + 1) x (by simpa using hi)
  have e1 : ((first + 1) % cap + i) % cap = (first + (i + 1)) % cap := by rw [Nat.mod_add_mod, Nat.add_assoc, Nat.add_comm 1 i]
  rw [e1]
  refine World.rangeAt_setCells_apart g b _ _ (Or.inr ?_)
  have e2 := mod_near (a := first) (cap := cap) (i := i + 1) hf (by omega)
  have hl := rq_len x
  rw [hz, hl, e2]
  split <;> omega
theorem BufAt.push {w : World} {b cap first : Nat} {q : List Rq} (h : BufAt w b cap first q) (r : Rq) (hf : first < cap) (hn : q.length < cap) :
    BufAt (w.setCells b ((first + q.length) % cap * 9) r.cells) b cap first (q ++ [r]) := by
  obtain ⟨cs, h1, h2⟩ := h.hb
  obtain ⟨cs', h3, h4⟩ := blk_setCells r.cells ((first + q.length) % cap * 9) w cs h1
  refine ⟨⟨cs', h3, by omega⟩, fun i x hi => ?_⟩
  have hl := rq_len x
  have hr := rq_len r
  by_cases hlt : i < q.length
  · rw [List.getElem?_append_left hlt] at hi
    refine World.rangeAt_setCells_apart (h.at_ i x hi) b _ _ (Or.inr ?_)
    rw [hl, hr, mod_near (a := first) (cap := cap) (i := i) hf (by omega), mod_near (a := first) (cap := cap) (i := q.length) hf hn]
    split <;> split <;> omega
  · have hlen := (List.getElem?_eq_some_iff.1 hi).1
    have e : i = q.length := by simp at hlen; omega
    subst e
    simp at hi
    subst hi
    exact World.rangeAt_setCells_same w b _ _ (by rw [hr]; exact h.there (Nat.mod_lt _ (by omega)))
/-- The ring, whole: its four cells, its block. -/
structure RingAt (w : World) (p b cap first : Nat) (q : List Rq) : Prop where
  hp : w.heap[p]? = some (.cells #[.slice (some ⟨b, 0, none⟩) cap cap, .int .i64 first, .int .i64 q.length, .bool false] 263 (0, 0))
  buf : BufAt w b cap first q
  ne : p ≠ b
  hf : first < cap
  hq : q.length ≤ cap
  hc : cap ≤ 65536
theorem RingAt.rg {w : World} {p b cap first : Nat} {q : List Rq} (h : RingAt w p b cap first q) : RgC w p ⟨b, 0, none⟩ cap first q.length :=
  ⟨blk_lt h.hp, (blk_cell h.hp 0), (blk_cell h.hp 1), (blk_cell h.hp 2), (blk_cell h.hp 3)⟩
theorem RingAt.kept {w w' : World} {X : Nat → Prop} {p b cap first : Nat} {q : List Rq} (h : RingAt w p b cap first q) (k : Kept w w' X) (hX : ¬ X p ∧ ¬ X b) : RingAt w' p b cap first q :=
  ⟨k.blk h.hp (blk_lt h.hp) hX.1, h.buf.kept k hX.2, h.ne, h.hf, h.hq, h.hc⟩
theorem RingAt.below {w w' : World} {p b cap first : Nat} {q : List Rq} (h : RingAt w p b cap first q) (hb : Below w.heap.size w w') : RingAt w' p b cap first q :=
  h.kept (X := fun _ => False) (Kept.of_below hb) ⟨id, id⟩
end Go.Proofs.YtafghiekpgjniaaGreatDoor

/- The ring of requests: First and Take of one that is not empty; Put; New. -/

namespace Go.Proofs.YtafghiekpgjniaaGreatDoor
open Go.RowKit
set_option linter.unusedVariables false
set_option linter.unusedSimpArgs false

set_option maxRecDepth 100000
theorem rq_one (r : Rq) : (r.cells.toArray).all (·.oneCell') = true := by simp [Rq.cells, Value.oneCell']
theorem load_rq (w : World) (b o : Nat) (r : Rq) (h : w.rangeAt b o r.cells) : (Instr.loadAt 98 (.pointer (some ⟨b, o, none⟩))).run Tryz.prog w = .ok r.val w :=
  run_loadAt_mid w b o 98 r.cells _ h Tryz.underlying98 rfl (by kernel_rfl)
theorem rq9 {w : World} {b o : Nat} {r : Rq} (h : w.rangeAt b o r.cells) : w.cell? ⟨b, o, none⟩ = some (.int .u8 r.kind) ∧ w.cell? ⟨b, o + 1, none⟩ = some (.int .i64 r.from_) ∧ w.cell? ⟨b, o + 2, none⟩ = some (.int .i64 r.num) ∧ w.cell? ⟨b, o + 3, none⟩ = some (.string r.wk) ∧
    w.cell? ⟨b, o + 4, none⟩ = some (.string r.wv) ∧ w.cell? ⟨b, o + 5, none⟩ = some (.bool r.wd) ∧ w.cell? ⟨b, o + 6, none⟩ = some (.string r.key) ∧ w.cell? ⟨b, o + 7, none⟩ = some (.string r.fin) ∧ w.cell? ⟨b, o + 8, none⟩ = some (.slice r.A r.len r.cap) :=
  ⟨h 0 _ rfl, h 1 _ rfl, h 2 _ rfl, h 3 _ rfl, h 4 _ rfl, h 5 _ rfl, h 6 _ rfl, h 7 _ rfl, h 8 _ rfl⟩
set_option maxHeartbeats 4000000 in
theorem rfirst_any (p b cap first : Nat) (r : Rq) (q : List Rq) (w : World) (h : RingAt w p b cap first (r :: q)) :
    Calls Tryz.prog 194 #[.pointer (some ⟨p, 0, none⟩)] w fun e w' => e = .returned (.tuple #[r.val, .bool true]) ∧ Below w.heap.size w w' := by
  have H := Lib.hid h
  have hf := h.hf
  have hcap := h.hc
  obtain ⟨n, hn⟩ : ∃ n, n = (r :: q).length := ⟨_, rfl⟩
  have hn1 : 0 < n := by subst hn; simp
  have hg : ∀ X, Below w.heap.size w X → Calls Tryz.prog 223 #[.pointer (some ⟨p, 0, none⟩)] X fun e w' => e = .returned (.int .i64 n) ∧ w' = X := fun X hX => hn ▸ rlen_any p _ cap first _ X (H.out.below hX).rg
  have Hg := Lib.hid hg
  have hp0 : ∀ X, Below w.heap.size w X → X.cell? ⟨p, 0, none⟩ = some (.slice (some ⟨b, 0, none⟩) cap cap) ∧ X.cell? ⟨p, 1, none⟩ = some (.int .i64 first) ∧ X.rangeAt b (first * 9) r.cells := fun X hX => by
    have g := H.out.below hX
    refine ⟨g.rg.c0, g.rg.c1, ?_⟩
    have g2 := g.buf.at_ 0 r rfl
    rw [Nat.add_zero, Nat.mod_eq_of_lt hf] at g2
    exact g2
  have HK := Lib.hid hp0
  clear h hn hg hp0
  go_enter Tryz.func194, Tryz.ntmps194
  go_wp2_with fail
  obtain ⟨W, hW⟩ : ∃ W, W = w.alloc (.cells #[.int .u8 0, .int .i64 0, .int .i64 0, .string ⟨#[]⟩, .string ⟨#[]⟩, .bool false, .string ⟨#[]⟩, .string ⟨#[]⟩, .slice none 0 0] 98) := ⟨_, rfl⟩
  rw [← hW]
  have hB : Below w.heap.size w W := hW ▸ bel_alloc (Below.refl _ _) _
  have hnew : W.heap[w.heap.size]? = some (.cells #[.int .u8 0, .int .i64 0, .int .i64 0, .string ⟨#[]⟩, .string ⟨#[]⟩, .bool false, .string ⟨#[]⟩, .string ⟨#[]⟩, .slice none 0 0] 98 (0, 0)) := hW ▸ blk_new _ _
  have HB := Lib.hid hB
  have HN := Lib.hid hnew
  clear hW hB hnew
  refine (Hg.out _ HB.out).mono ?_
  rintro e w1 ⟨rfl, rfl⟩
  obtain ⟨k0, k1, k2⟩ := HK.out _ HB.out
  obtain ⟨l0, l1, l2, l3, l4, l5, l6, l7, l8⟩ := rq9 k2
  clear k2
  go_wp2_with fail
  go_still_tail 10, (by kernel_rfl)
  change wpList _ _ _ _ _ w1.drew
  have HB2 : Hid (Below w.heap.size w w1.drew) := Lib.hid (bel_drew HB.out)
  have HN2 : Hid (w1.drew.heap[w.heap.size]? = some (.cells #[.int .u8 0, .int .i64 0, .int .i64 0, .string ⟨#[]⟩, .string ⟨#[]⟩, .bool false, .string ⟨#[]⟩, .string ⟨#[]⟩, .slice none 0 0] 98 (0, 0))) := HN
  clear k0 k1 l0 l1 l2 l3 l4 l5 l6 l7 l8
  generalize w1.drew = W2 at HB2 HN2 ⊢
  refine wpList_store_row rfl 98 _ _ rfl w.heap.size r.cells.toArray rfl rfl 98 _ HN2.out rfl rfl (rq_one r) ?_
  have HB3 : Hid (Below w.heap.size w (W2.setRow w.heap.size r.cells.toArray)) := Lib.hid (below_setRow HB2.out (Nat.le_refl _) _)
  have HN3 : Hid ((W2.setRow w.heap.size r.cells.toArray).heap[w.heap.size]? = some (.cells r.cells.toArray 98 (0, 0))) := Lib.hid (setRow_heap W2 w.heap.size _ _ 98 (0, 0) HN2.out)
  generalize W2.setRow w.heap.size r.cells.toArray = W3 at HB3 HN3 ⊢
  go_wp2_with fail
  refine bodyPost_ret (results_ct_row rfl _ _ w.heap.size _ _ _ _ rfl HN3.out Tryz.underlying98 rfl (by kernel_rfl)) rfl ⟨rfl, HB3.out⟩
end Go.Proofs.YtafghiekpgjniaaGreatDoor

/- The ring of requests: Take of one that is not empty. -/
namespace Go.Proofs.YtafghiekpgjniaaGreatDoor
open Go.RowKit
set_option linter.unusedVariables false
set_option linter.unusedSimpArgs false

set_option maxRecDepth 100000
set_option maxHeartbeats 4000000 in
theorem rtake_any (p b cap first : Nat) (r : Rq) (q : List Rq) (w : World) (h : RingAt w p b cap first (r :: q)) :
    Calls Tryz.prog 129 #[.pointer (some ⟨p, 0, none⟩)] w fun e w' => e = .returned (.tuple #[r.val, .bool true]) ∧ RingAt w' p b cap ((first + 1) % cap) q ∧ Kept w w' (fun k => k = p ∨ k = b) := by
  have H := Lib.hid h
  have hf := h.hf
  have hcap := h.hc
  have hq := h.hq
  have hplt := blk_lt h.hp
  have hblt := h.buf.lt
  have hne := h.ne
  obtain ⟨n, hn⟩ : ∃ n, n = q.length + 1 := ⟨_, rfl⟩
  have hn1 : 0 < n := by omega
  have hn2 : n ≤ cap := by subst hn; simpa using hq
  have Hn := Lib.hid hn
  have hg : ∀ X, Below w.heap.size w X → Calls Tryz.prog 194 #[.pointer (some ⟨p, 0, none⟩)] X fun e w' => e = .returned (.tuple #[r.val, .bool true]) ∧ Below X.heap.size X w' := fun X hX => rfirst_any p b cap first r q X (H.out.below hX)
  have Hg := Lib.hid hg
  obtain ⟨f2, hf2⟩ : ∃ f2, f2 = (first + 1) % cap := ⟨_, rfl⟩
  have hf2l : f2 < cap := by rw [hf2]; exact Nat.mod_lt _ (by omega)
  have hm : ((first : Int) + 1).tmod (cap : Int) = (f2 : Int) := by
    rw [Int.tmod_eq_emod_of_nonneg (by omega), hf2]; push_cast; rfl
  have Hf2 := Lib.hid hf2
  rw [← hf2]
  clear h hn hg hq hf2
  unfold Rq.val at Hg ⊢
  go_enter Tryz.func129, Tryz.ntmps129
  go_wp2_with fail
  obtain ⟨W, hW⟩ : ∃ W, W = w.alloc (.cells zeroRq.cells.toArray 98) := ⟨_, rfl⟩
  change Calls _ _ _ (w.alloc (.cells zeroRq.cells.toArray 98)) _
  rw [← hW]
  have hB : Below w.heap.size w W := hW ▸ bel_alloc (Below.refl _ _) _
  have hnew : W.heap[w.heap.size]? = some (.cells zeroRq.cells.toArray 98 (0, 0)) := hW ▸ blk_new _ _
  have HB := Lib.hid hB
  have HN := Lib.hid hnew
  clear hW hB hnew
  refine (Hg.out _ HB.out).mono ?_
  rintro e w1 ⟨rfl, hb1⟩
  have HB1 : Hid (Below w.heap.size w w1) := Lib.hid (HB.out.trans (hb1.mono HB.out.size))
  have HN1 : Hid (w1.heap[w.heap.size]? = some (.cells zeroRq.cells.toArray 98 (0, 0))) := Lib.hid ((hb1.block _ (blk_lt HN.out)).trans HN.out)
  clear hb1 HB HN
  go_wp2_with (with_reducible refine wpList_store_row rfl 98 _ _ rfl w.heap.size r.cells.toArray rfl rfl 98 _ HN1.out rfl rfl (rq_one r) ?_)
  have HB3 : Hid (Below w.heap.size w (w1.setRow w.heap.size r.cells.toArray)) := Lib.hid (below_setRow HB1.out (Nat.le_refl _) _)
  have HN3 : Hid ((w1.setRow w.heap.size r.cells.toArray).heap[w.heap.size]? = some (.cells r.cells.toArray 98 (0, 0))) := Lib.hid (setRow_heap w1 w.heap.size _ _ 98 (0, 0) HN1.out)
  clear HB1 HN1
  obtain ⟨W3, hW3⟩ : ∃ W3, W3 = w1.setRow w.heap.size r.cells.toArray := ⟨_, rfl⟩
  rw [← hW3] at HB3 HN3
  simp only [← hW3]
  have hs3 : W3.heap.size = w1.heap.size := by rw [hW3]; simp
  clear hW3
  have HR3 := Lib.hid (H.out.below HB3.out)
  obtain ⟨W4, hW4⟩ : ∃ W4, W4 = W3.alloc (.cells zeroRq.cells.toArray 98) := ⟨_, rfl⟩
  change Code.wp _ _ _ _ (W3.alloc (.cells zeroRq.cells.toArray 98))
  rw [← hW4]
  generalize w1.heap.size = g at hs3 ⊢
  have K4 : Hid (Kept W3 W4 (fun k => k = p ∨ k = b)) := Lib.hid (hW4 ▸ (Kept.refl _ _).alloc _)
  have HN4 : Hid (W4.heap[g]? = some (.cells zeroRq.cells.toArray 98 (0, 0))) := Lib.hid (by rw [hW4, ← hs3]; exact blk_new _ _)
  have HR4 : Hid (RingAt W4 p b cap first (r :: q)) := Lib.hid (HR3.out.below (hW4 ▸ bel_alloc (Below.refl _ _) _))
  clear hW4 hs3
  have c0 := HR4.out.rg.c0
  have c1 := HR4.out.rg.c1
  have z0 : W4.cell? ⟨g, 0, none⟩ = some (.int .u8 0) := blk_cell HN4.out 0
  have z1 : W4.cell? ⟨g, 1, none⟩ = some (.int .i64 0) := blk_cell HN4.out 1
  have z2 : W4.cell? ⟨g, 2, none⟩ = some (.int .i64 0) := blk_cell HN4.out 2
  have z3 : W4.cell? ⟨g, 3, none⟩ = some (.string ⟨#[]⟩) := blk_cell HN4.out 3
  have z4 : W4.cell? ⟨g, 4, none⟩ = some (.string ⟨#[]⟩) := blk_cell HN4.out 4
  have z5 : W4.cell? ⟨g, 5, none⟩ = some (.bool false) := blk_cell HN4.out 5
  have z6 : W4.cell? ⟨g, 6, none⟩ = some (.string ⟨#[]⟩) := blk_cell HN4.out 6
  have z7 : W4.cell? ⟨g, 7, none⟩ = some (.string ⟨#[]⟩) := blk_cell HN4.out 7
  have z8 : W4.cell? ⟨g, 8, none⟩ = some (.slice none 0 0) := blk_cell HN4.out 8
  go_still_tail 10, (by kernel_rfl)
  clear z0 z1 z2 z3 z4 z5 z6 z7 z8 c0 c1
  change wpList _ _ _ _ _ W4.drew
  refine wpList_store_mid rfl 98 _ _ rfl b (first * 9) zeroRq.cells.toArray rfl rfl ((World.there_drew _ _ _ _).2 (HR4.out.buf.there hf)) rfl (rq_one zeroRq) ?_
  have hd : Kept W4 W4.drew (fun k => k = p ∨ k = b) := Kept.of_below (Below.refl _ _).drew
  have hs := kept_setCells b zeroRq.cells (first * 9) W4.drew
  have HB5 : Hid (BufAt (W4.drew.setCells b (first * 9) zeroRq.cells) b cap f2 q) := Lib.hid (Hf2.out ▸ (HR4.out.buf.kept (X := fun _ => False) (Kept.of_below (Below.refl _ _).drew) id).drop1 _ rfl hf (by rw [← Hn.out]; exact hn2))
  have HP5 : Hid ((W4.drew.setCells b (first * 9) zeroRq.cells).heap[p]? = some (.cells #[.slice (some ⟨b, 0, none⟩) cap cap, .int .i64 first, .int .i64 n, .bool false] 263 (0, 0))) := Lib.hid (by
    have h1 := HR4.out.hp
    rw [Hn.out]
    exact hs.blk h1 (blk_lt h1) hne)
  have K5 : Hid (Kept W3 (W4.drew.setCells b (first * 9) zeroRq.cells) (fun k => k = p ∨ k = b)) := Lib.hid (K4.out.trans (hd.trans (hs.mono (fun k hk => Or.inr hk))))
  clear hd hs
  change wpList _ _ _ _ _ (W4.drew.setCells b (first * 9) zeroRq.cells)
  generalize W4.drew.setCells b (first * 9) zeroRq.cells = W5 at HB5 HP5 K5 ⊢
  clear HR4 HN4 K4
  go_upto_region 5 with fail
  have c0 : W5.cell? ⟨p, 0, none⟩ = some (.slice (some ⟨b, 0, none⟩) cap cap) := blk_cell HP5.out 0
  have c1 : W5.cell? ⟨p, 1, none⟩ = some (.int .i64 first) := blk_cell HP5.out 1
  have c2 : W5.cell? ⟨p, 2, none⟩ = some (.int .i64 n) := blk_cell HP5.out 2
  have k1 := blk_frozen HP5.out 1
  have k2 := blk_frozen HP5.out 2
  have e1 : IntKind.i64.wrap ((first : Int) + 1) = (first : Int) + 1 := by rw [IntKind.wrap_i64]; omega
  have hcp : 0 < cap := by omega
  have hcq : ¬ cap = 0 := by omega
  go_still_tail 14, (by kernel_rfl)
  change wpList _ _ _ _ _ W5.drew
  clear c0 c1 c2 k1 k2 e1 hm
  have K5d : Hid (Kept W3 W5.drew (fun k => k = p ∨ k = b)) := Lib.hid (K5.out.drewN 1)
  have HP5d : Hid (W5.drew.heap[p]? = some (.cells #[.slice (some ⟨b, 0, none⟩) cap cap, .int .i64 first, .int .i64 n, .bool false] 263 (0, 0))) := HP5
  have HB5d : Hid (BufAt W5.drew b cap f2 q) := Lib.hid (HB5.out.kept (X := fun _ => False) (Kept.of_below (Below.refl _ _).drew) id)
  clear K5 HP5 HB5
  generalize W5.drew = W6 at K5d HP5d HB5d ⊢
  have d1 : W6.cell? ⟨p, 1, none⟩ = some (.int .i64 first) := blk_cell HP5d.out 1
  have d2 : W6.cell? ⟨p, 2, none⟩ = some (.int .i64 n) := blk_cell HP5d.out 2
  have g1 := blk_frozen HP5d.out 1
  have g2 := blk_frozen HP5d.out 2
  go_upto_region 7 with fail
  clear d1 d2 g1 g2
  have en : ((n : Int) - 1) = ((q.length : Nat) : Int) := by rw [Hn.out]; omega
  rw [en]
  have hb1 := blk_set HP5d.out 1 (.int .i64 f2)
  have hb2 := blk_set hb1 2 (.int .i64 (q.length : Nat))
  have k1 : Kept W6 (W6.setCell ⟨p, 1, none⟩ (.int .i64 f2)) (fun k => k = p ∨ k = b) := (Kept.refl W6 (fun k => k = p ∨ k = b)).setCell (p := ⟨p, 1, none⟩) (Or.inl (Or.inl rfl)) _
  have k2 : Kept W6 ((W6.setCell ⟨p, 1, none⟩ (.int .i64 f2)).setCell ⟨p, 2, none⟩ (.int .i64 (q.length : Nat))) (fun k => k = p ∨ k = b) := k1.setCell (p := ⟨p, 2, none⟩) (Or.inl (Or.inl rfl)) _
  have j1 : Kept W6 (W6.setCell ⟨p, 1, none⟩ (.int .i64 f2)) (fun k => k = p) := (Kept.refl W6 (fun k => k = p)).setCell (p := ⟨p, 1, none⟩) (Or.inl rfl) _
  have j2 : Kept W6 ((W6.setCell ⟨p, 1, none⟩ (.int .i64 f2)).setCell ⟨p, 2, none⟩ (.int .i64 (q.length : Nat))) (fun k => k = p) := j1.setCell (p := ⟨p, 2, none⟩) (Or.inl rfl) _
  have HB7 := Lib.hid (HB5d.out.kept j2 (fun e => hne e.symm))
  have HP7 := Lib.hid hb2
  have K7 := Lib.hid (K5d.out.trans k2)
  clear hb1 hb2 k1 k2 j1 j2 HB5d HP5d K5d
  generalize (W6.setCell ⟨p, 1, none⟩ (.int .i64 f2)).setCell ⟨p, 2, none⟩ (.int .i64 (q.length : Nat)) = W7 at HB7 HP7 K7 ⊢
  have HR7 : Hid (RingAt W7 p b cap f2 q) := Lib.hid ⟨HP7.out, HB7.out, hne, hf2l, by have := Hn.out; omega, hcap⟩
  have HN7 : Hid (W7.heap[w.heap.size]? = some (.cells r.cells.toArray 98 (0, 0))) := Lib.hid (K7.out.blk HN3.out (blk_lt HN3.out) (by omega))
  have K7w : Hid (Kept w W7 (fun k => k = p ∨ k = b)) := Lib.hid ((Kept.of_below HB3.out).trans K7.out)
  clear HB7 HP7 K7 HN3 HR3 HB3 H Hg Hf2 en Hn
  go_wp2_with (with_reducible first | refine wpList_load_row rfl 98 _ rfl w.heap.size rfl 98 r.cells.toArray (0, 0) _ HN7.out Tryz.underlying98 rfl (by kernel_rfl) ?_ | refine wpList_store_row rfl 98 _ _ rfl w.heap.size r.cells.toArray rfl rfl 98 _ HN7.out rfl rfl (rq_one r) ?_)
  have HN8 : Hid ((W7.setRow w.heap.size r.cells.toArray).heap[w.heap.size]? = some (.cells r.cells.toArray 98 (0, 0))) := Lib.hid (setRow_heap W7 w.heap.size _ _ 98 (0, 0) HN7.out)
  have hk8 : Kept w (W7.setRow w.heap.size r.cells.toArray) (fun k => k = p ∨ k = b) := K7w.out.setRow (Or.inr (Nat.le_refl _)) _
  have hk9 : Kept W7 (W7.setRow w.heap.size r.cells.toArray) (fun k => k = w.heap.size) := (Kept.refl W7 (fun k => k = w.heap.size)).setRow (Or.inl rfl) _
  exact bodyPost_ret (results_ct_row rfl _ _ w.heap.size _ _ _ _ rfl HN8.out Tryz.underlying98 rfl (by kernel_rfl)) rfl ⟨rfl, HR7.out.kept hk9 ⟨by omega, by omega⟩, hk8⟩
set_option maxHeartbeats 4000000 in
theorem rtake_none (p b cap first : Nat) (w : World) (h : RingAt w p b cap first []) :
    Calls Tryz.prog 129 #[.pointer (some ⟨p, 0, none⟩)] w fun e w' => (∃ v, e = .returned (.tuple #[v, .bool false])) ∧ Below w.heap.size w w' := by
  have H := Lib.hid h
  have hg : ∀ X, Below w.heap.size w X → Calls Tryz.prog 194 #[.pointer (some ⟨p, 0, none⟩)] X fun e w' => e = .returned (.tuple #[zeroRq.val, .bool false]) ∧ Below X.heap.size X w' := fun X hX => rfirst_none p _ cap first X (H.out.below hX).rg
  have Hg := Lib.hid hg
  clear h hg
  unfold Rq.val at Hg
  go_enter Tryz.func129, Tryz.ntmps129
  go_wp2_with fail
  obtain ⟨W, hW⟩ : ∃ W, W = w.alloc (.cells zeroRq.cells.toArray 98) := ⟨_, rfl⟩
  change Calls _ _ _ (w.alloc (.cells zeroRq.cells.toArray 98)) _
  rw [← hW]
  have hB : Below w.heap.size w W := hW ▸ bel_alloc (Below.refl _ _) _
  have hnew : W.heap[w.heap.size]? = some (.cells zeroRq.cells.toArray 98 (0, 0)) := hW ▸ blk_new _ _
  have HB := Lib.hid hB
  have HN := Lib.hid hnew
  clear hW hB hnew
  refine (Hg.out _ HB.out).mono ?_
  rintro e w1 ⟨rfl, hb1⟩
  have HB1 : Hid (Below w.heap.size w w1) := Lib.hid (HB.out.trans (hb1.mono HB.out.size))
  have HN1 : Hid (w1.heap[w.heap.size]? = some (.cells zeroRq.cells.toArray 98 (0, 0))) := Lib.hid ((hb1.block _ (blk_lt HN.out)).trans HN.out)
  clear hb1 HB HN
  go_upto_region 7 with (with_reducible refine wpList_store_row rfl 98 _ _ rfl w.heap.size zeroRq.cells.toArray rfl rfl 98 _ HN1.out rfl rfl (rq_one zeroRq) ?_)
  have HB7 : Hid (Below w.heap.size w (w1.setRow w.heap.size zeroRq.cells.toArray)) := Lib.hid (below_setRow HB1.out (Nat.le_refl _) _)
  have HN7 : Hid ((w1.setRow w.heap.size zeroRq.cells.toArray).heap[w.heap.size]? = some (.cells zeroRq.cells.toArray 98 (0, 0))) := Lib.hid (setRow_heap w1 w.heap.size _ _ 98 (0, 0) HN1.out)
  clear HB1 HN1
  generalize w1.setRow w.heap.size zeroRq.cells.toArray = W7 at HB7 HN7 ⊢
  go_wp2_with (with_reducible first | refine wpList_load_row rfl 98 _ rfl w.heap.size rfl 98 zeroRq.cells.toArray (0, 0) _ HN7.out Tryz.underlying98 rfl (by kernel_rfl) ?_ | refine wpList_store_row rfl 98 _ _ rfl w.heap.size zeroRq.cells.toArray rfl rfl 98 _ HN7.out rfl rfl (rq_one zeroRq) ?_)
  have HN8 : Hid ((W7.setRow w.heap.size zeroRq.cells.toArray).heap[w.heap.size]? = some (.cells zeroRq.cells.toArray 98 (0, 0))) := Lib.hid (setRow_heap W7 w.heap.size _ _ 98 (0, 0) HN7.out)
  exact bodyPost_ret (results_ct_row rfl _ _ w.heap.size _ _ _ _ rfl HN8.out Tryz.underlying98 rfl (by kernel_rfl)) rfl ⟨⟨_, rfl⟩, below_setRow HB7.out (Nat.le_refl _) _⟩
end Go.Proofs.YtafghiekpgjniaaGreatDoor

/- The ring of requests: Put. -/
namespace Go.Proofs.YtafghiekpgjniaaGreatDoor
open Go.RowKit
set_option linter.unusedVariables false
set_option linter.unusedSimpArgs false

set_option maxRecDepth 100000
theorem rput_full (p b cap first : Nat) (q : List Rq) (r : Rq) (w : World) (h : RingAt w p b cap first q) (hfull : q.length = cap) :
    Calls Tryz.prog 128 #[.pointer (some ⟨p, 0, none⟩), r.val] w fun e w' => e = .returned (.bool false) ∧ Below w.heap.size w w' := by
  have hg : ∀ X, Below w.heap.size w X → Calls Tryz.prog 193 #[.pointer (some ⟨p, 0, none⟩)] X fun e w' => e = .returned (.int .i64 0) ∧ Below X.heap.size X w' := fun X hX => by
    have := rroom_any p _ cap first _ X (h.below hX).rg h.hq h.hc
    rw [hfull, Nat.sub_self] at this
    exact this
  have Hg := Lib.hid hg
  clear h hg
  unfold Rq.val
  go_enter Tryz.func128, Tryz.ntmps128
  go_wp2_with fail
  refine (Hg.out _ (bel_alloc (Below.refl _ _) _)).mono ?_
  rintro e w1 ⟨rfl, hb1⟩
  have HB1 : Hid (Below w.heap.size w w1) := Lib.hid (below_box (hb1.mono (by simp)))
  clear hb1
  go_wp2_with fail
  go_ret
  exact ⟨rfl, HB1.out⟩
set_option maxHeartbeats 4000000 in
theorem rput_any (p b cap first : Nat) (q : List Rq) (r : Rq) (w : World) (h : RingAt w p b cap first q) (hroom : q.length < cap) :
    Calls Tryz.prog 128 #[.pointer (some ⟨p, 0, none⟩), r.val] w fun e w' => e = .returned (.bool true) ∧ RingAt w' p b cap first (q ++ [r]) ∧ Kept w w' (fun k => k = p ∨ k = b) := by
  have H := Lib.hid h
  have hf := h.hf
  have hcap := h.hc
  have hplt := blk_lt h.hp
  have hblt := h.buf.lt
  have hne := h.ne
  obtain ⟨n, hn⟩ : ∃ n, n = q.length := ⟨_, rfl⟩
  have hn2 : n < cap := by omega
  obtain ⟨m, hm⟩ : ∃ m : Nat, m = cap - n := ⟨_, rfl⟩
  have hm1 : 0 < m := by omega
  have hg : ∀ X, Below w.heap.size w X → Calls Tryz.prog 193 #[.pointer (some ⟨p, 0, none⟩)] X fun e w' => e = .returned (.int .i64 m) ∧ Below X.heap.size X w' := fun X hX => by
    have := rroom_any p _ cap first _ X (h.below hX).rg h.hq h.hc
    rw [← hn, ← hm] at this
    exact this
  have Hg := Lib.hid hg
  have Hn := Lib.hid hn
  obtain ⟨f2, hf2⟩ : ∃ f2, f2 = (first + n) % cap := ⟨_, rfl⟩
  have hf2l : f2 < cap := by rw [hf2]; exact Nat.mod_lt _ (by omega)
  have htm : ((first : Int) + (n : Int)).tmod (cap : Int) = (f2 : Int) := by
    rw [Int.tmod_eq_emod_of_nonneg (by omega), hf2]; push_cast; rfl
  have Hf2 := Lib.hid hf2
  clear h hg hn hm hf2 hroom
  unfold Rq.val
  go_enter Tryz.func128, Tryz.ntmps128
  go_wp2_with fail
  obtain ⟨W, hW⟩ : ∃ W, W = w.alloc (.cells r.cells.toArray 98) := ⟨_, rfl⟩
  change Calls _ _ _ (w.alloc (.cells r.cells.toArray 98)) _
  rw [← hW]
  have HB : Hid (Below w.heap.size w W) := Lib.hid (hW ▸ bel_alloc (Below.refl _ _) _)
  have HN : Hid (W.heap[w.heap.size]? = some (.cells r.cells.toArray 98 (0, 0))) := Lib.hid (hW ▸ blk_new _ _)
  clear hW
  refine (Hg.out _ HB.out).mono ?_
  rintro e w1 ⟨rfl, hb1⟩
  have HB1 : Hid (Below w.heap.size w w1) := Lib.hid (HB.out.trans (hb1.mono HB.out.size))
  have HN1 : Hid (w1.heap[w.heap.size]? = some (.cells r.cells.toArray 98 (0, 0))) := Lib.hid ((hb1.block _ (blk_lt HN.out)).trans HN.out)
  have HR1 := Lib.hid (H.out.below HB1.out)
  clear hb1 HB HN Hg
  go_upto_region 3 with fail
  have c0 := HR1.out.rg.c0
  have c1 := HR1.out.rg.c1
  have c2 : w1.cell? ⟨p, 2, none⟩ = some (.int .i64 n) := by rw [Hn.out]; exact HR1.out.rg.c2
  have z0 : w1.cell? ⟨w.heap.size, 0, none⟩ = some (.int .u8 r.kind) := blk_cell HN1.out 0
  have z1 : w1.cell? ⟨w.heap.size, 1, none⟩ = some (.int .i64 r.from_) := blk_cell HN1.out 1
  have z2 : w1.cell? ⟨w.heap.size, 2, none⟩ = some (.int .i64 r.num) := blk_cell HN1.out 2
  have z3 : w1.cell? ⟨w.heap.size, 3, none⟩ = some (.string r.wk) := blk_cell HN1.out 3
  have z4 : w1.cell? ⟨w.heap.size, 4, none⟩ = some (.string r.wv) := blk_cell HN1.out 4
  have z5 : w1.cell? ⟨w.heap.size, 5, none⟩ = some (.bool r.wd) := blk_cell HN1.out 5
  have z6 : w1.cell? ⟨w.heap.size, 6, none⟩ = some (.string r.key) := blk_cell HN1.out 6
  have z7 : w1.cell? ⟨w.heap.size, 7, none⟩ = some (.string r.fin) := blk_cell HN1.out 7
  have z8 : w1.cell? ⟨w.heap.size, 8, none⟩ = some (.slice r.A r.len r.cap) := blk_cell HN1.out 8
  have e1 : IntKind.i64.wrap ((first : Int) + (n : Int)) = (first : Int) + (n : Int) := by rw [IntKind.wrap_i64]; omega
  have hcq : ¬ cap = 0 := by omega
  go_still_tail 21, (by kernel_rfl)
  clear z0 z1 z2 z3 z4 z5 z6 z7 z8 c0 c1 c2 htm e1
  change wpList _ _ _ _ _ w1.drew
  refine wpList_store_mid rfl 98 _ _ rfl b (f2 * 9) r.cells.toArray rfl rfl ((World.there_drew _ _ _ _).2 (HR1.out.buf.there hf2l)) rfl (rq_one r) ?_
  have hs := kept_setCells b r.cells (f2 * 9) w1.drew
  have HB5 : Hid (BufAt (w1.drew.setCells b (f2 * 9) r.cells) b cap first (q ++ [r])) := Lib.hid (by
    have := (HR1.out.buf.kept (X := fun _ => False) (Kept.of_below (Below.refl _ _).drew) id).push r hf (by rw [← Hn.out]; exact hn2)
    rw [← Hn.out, ← Hf2.out] at this
    exact this)
  have HP5 : Hid ((w1.drew.setCells b (f2 * 9) r.cells).heap[p]? = some (.cells #[.slice (some ⟨b, 0, none⟩) cap cap, .int .i64 first, .int .i64 n, .bool false] 263 (0, 0))) := Lib.hid (by
    have h1 := HR1.out.hp
    rw [Hn.out]
    exact hs.blk h1 (blk_lt h1) hne)
  have K5 : Hid (Kept w (w1.drew.setCells b (f2 * 9) r.cells) (fun k => k = p ∨ k = b)) := Lib.hid ((Kept.of_below (bel_drew HB1.out)).trans (hs.mono (fun k hk => Or.inr hk)))
  clear hs
  change wpList _ _ _ _ _ (w1.drew.setCells b (f2 * 9) r.cells)
  generalize w1.drew.setCells b (f2 * 9) r.cells = W6 at HB5 HP5 K5 ⊢
  clear HB1 HN1 HR1 H Hf2
  have d2 : W6.cell? ⟨p, 2, none⟩ = some (.int .i64 n) := blk_cell HP5.out 2
  have g2 := blk_frozen HP5.out 2
  go_wp2_with fail
  go_ret
  clear d2 g2
  have en : ((n : Int) + 1) = (((q ++ [r]).length : Nat) : Int) := by rw [Hn.out]; simp
  have hb1 := blk_set HP5.out 2 (.int .i64 ((n : Int) + 1))
  have k1 : Kept W6 (W6.setCell ⟨p, 2, none⟩ (.int .i64 ((n : Int) + 1))) (fun k => k = p) := (Kept.refl W6 (fun k => k = p)).setCell (p := ⟨p, 2, none⟩) (Or.inl rfl) _
  refine ⟨rfl, ⟨?_, HB5.out.kept k1 (fun e => hne e.symm), hne, hf, ?_, hcap⟩, K5.out.trans (k1.mono fun k hk => Or.inl hk)⟩
  · rw [← en]; exact hb1
  · have := Hn.out; simp; omega
end Go.Proofs.YtafghiekpgjniaaGreatDoor

/- The ring of requests: New. -/
namespace Go.Proofs.YtafghiekpgjniaaGreatDoor
open Go.RowKit
set_option linter.unusedVariables false
set_option linter.unusedSimpArgs false

set_option maxRecDepth 100000
theorem info_rq : (Tryz.prog.info? 98).map (fun i => (i.zero, i.size)) = some (some zeroRq.val, 9) := by kernel_rfl
theorem info_rqb : (Tryz.prog.info? 98).map (fun i => decide (i.bytes ≤ 1000)) = some true := by kernel_rfl
theorem rnew_any (c : Nat) (w : World) (h0 : 1 ≤ c) (h1 : c ≤ 65536) :
    Calls Tryz.prog 124 #[.int .i64 c] w fun e w' => ∃ p b, e = .returned (.tuple #[.pointer (some ⟨p, 0, none⟩), .int .i64 0]) ∧ RingAt w' p b c 0 [] ∧ w.heap.size ≤ p ∧ w.heap.size ≤ b ∧ Below w.heap.size w w' := by
  have ha := info_rq
  have hb := info_rqb
  obtain ⟨i0, hi⟩ : ∃ i, Tryz.prog.info? 98 = some i := by
    cases hq : Tryz.prog.info? 98 with
    | none => rw [hq] at ha; cases ha
    | some i => exact ⟨i, rfl⟩
  rw [hi] at ha hb
  simp only [Option.map_some, Option.some.injEq, Prod.mk.injEq, decide_eq_true_eq] at ha hb
  obtain ⟨hz0, hz1⟩ := ha
  have hbc : i0.bytes * c ≤ 1000 * 65536 := Nat.mul_le_mul hb h1
  have Hi := Lib.hid hi
  have Hz0 := Lib.hid hz0
  have Hz1 := Lib.hid hz1
  clear hi hz0 hz1 hb
  go_enter Tryz.func124, Tryz.ntmps124
  go_wp2_with (at_make; refine wpList_make_full _ rfl _ _ 261 rfl w.heap.size 98 i0 _ 9 Tryz.underlying261 Hi.out Hz0.out Hz1.out _ _ _ _ c rfl rfl rfl rfl (by omega) (by simp only [maxLen]; omega) (Nat.le_refl _) ?_; intro w1 hown1 hgrow1)
  have hb1 : Below w.heap.size w w1 := (Below.refl _ _).grown hgrow1 (Nat.le_refl _) (fun k hk => by cases hk)
  obtain ⟨-, ⟨hv, -⟩ | ⟨g, cp, cur, hv, hg, hh, -, -, hsz, -⟩⟩ := hown1
  · cases hv
  · injection hv with e1 _ e2
    injection e1 with e1
    injection e1 with e1
    subst e1 e2
    have hlt := blk_lt hh
    go_ret2
    exact ⟨w1.heap.size, w.heap.size, rfl, ⟨blk_new _ _, ⟨⟨cur, (Below.heap_alloc _ _ _ hlt).trans hh, hsz⟩, fun i r hi => by simp at hi⟩, by omega, by omega, by simp, h1⟩, hb1.size, Nat.le_refl _, hb1.alloc hb1.size _⟩
end Go.Proofs.YtafghiekpgjniaaGreatDoor


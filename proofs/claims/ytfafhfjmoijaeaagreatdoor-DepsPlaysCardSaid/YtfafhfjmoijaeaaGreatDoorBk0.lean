/- towpathlaw01.Book: what its walks stand on. Over any program. -/
import Derived.Test.YtfafhfjmoijaeaaGreatDoorTk
import Derived.Test.YtfafhfjmoijaeaaGreatDoorExt
import Derived.Lib.AppendIntMem
namespace Go.Proofs.YtfafhfjmoijaeaaGreatDoor
open Go.RowKit
set_option linter.unusedVariables false
set_option linter.unusedSimpArgs false

/-- A list that is told to a book: the list, its number; the longer list. -/
structure BkE where
  A : Option Addr
  len : Nat
  cap : Nat
  n : Nat
  B : Option Addr
  bl : Nat
  bc : Nat
def BkE.cells (e : BkE) : List Value := [.slice e.A e.len e.cap, .slice e.B e.bl e.bc, .int .i64 e.n]
theorem len_bk (e : BkE) : (BkE.cells e).length = 3 := rfl
theorem one_bk (e : BkE) : ∀ u ∈ BkE.cells e, u.oneCell' = true := fun u hu => by
  simp [BkE.cells] at hu
  rcases hu with rfl | rfl | rfl <;> rfl
/-- The blocks of the lists. -/
def InE (es : List BkE) (b : Nat) : Prop := ∃ e ∈ es, ∃ a, e.A = some a ∧ b = a.block
def DisE (es : List BkE) : Prop := es.Pairwise fun e f => ∀ a c, e.A = some a → f.A = some c → a.block ≠ c.block
theorem DisE.ne {es : List BkE} (h : DisE es) {i j : Nat} {e f : BkE} (hi : es[i]? = some e) (hj : es[j]? = some f) (hne : i ≠ j) {a c : Addr} (ha : e.A = some a) (hc : f.A = some c) : a.block ≠ c.block := by
  obtain ⟨hi1, rfl⟩ := List.getElem?_eq_some_iff.1 hi
  obtain ⟨hj1, rfl⟩ := List.getElem?_eq_some_iff.1 hj
  have hp := List.pairwise_iff_getElem.1 h
  rcases Nat.lt_or_gt_of_ne hne with h1 | h1
  · exact hp i j hi1 hj1 h1 a c ha hc
  · exact (hp j i hj1 hi1 h1 c a hc ha).symm
section
variable {w w' : World} {B n cap : Nat} {A : Option Addr} {l : List BkE} {t : TypeId}
/-- One of the list's fields is written over. -/
theorem TkAt.put1 {g o i : Nat} {x : BkE} {C : Option Addr} {m c : Nat} (h : TkAt BkE.cells 3 t w B (some ⟨g, o, none⟩) n cap l) (hi : l[i]? = some x) :
    TkAt BkE.cells 3 t (w.setCell ⟨g, o + i * 3 + 1, none⟩ (.slice C m c)) B (some ⟨g, o, none⟩) n cap (l.set i { x with B := C, bl := m, bc := c }) := by
  obtain ⟨h1, h2, ⟨h3, h4⟩ | ⟨g', o', cur, h3, h4, h5, h6, h7⟩⟩ := h
  · cases h3
  · injection h3 with h3
    injection h3 with e1 e2
    subst e1 e2
    have hin := (List.getElem?_eq_some_iff.1 hi).1
    refine ⟨by simpa using h1, h2, Or.inr ⟨g, o, _, rfl, h4, blk_set h5 (o + i * 3 + 1) (.slice C m c), by simpa using h6, fun j y hj k u hu => ?_⟩⟩
    have hk : k < 3 := (List.getElem?_eq_some_iff.1 hu).1
    by_cases hji : j = i
    · subst hji
      rw [List.getElem?_set_self hin] at hj
      injection hj with hj
      subst hj
      match k, hk with
      | 0, _ =>
        rw [Array.getElem?_setIfInBounds_ne (by omega)]
        exact h7 j x hi 0 u (by simpa [BkE.cells] using hu)
      | 1, _ =>
        rw [Array.getElem?_setIfInBounds_self_of_lt (by omega)]
        simpa [BkE.cells] using hu
      | 2, _ =>
        rw [Array.getElem?_setIfInBounds_ne (by omega)]
        exact h7 j x hi 2 u (by simpa [BkE.cells] using hu)
    · rw [List.getElem?_set_ne (Ne.symm hji)] at hj
      rw [Array.getElem?_setIfInBounds_ne (by omega)]
      exact h7 j y hj k u hu
theorem TkAt.bk_at {i : Nat} (h : TkAt BkE.cells 3 t w B A n cap l) (hi : i < n) : ∃ b off x, A = some ⟨b, off, none⟩ ∧ b < w.heap.size ∧ B ≤ b ∧ l[i]? = some x ∧ w.cell? ⟨b, off + i * 3, none⟩ = some (.slice x.A x.len x.cap) ∧ w.cell? ⟨b, off + i * 3 + 1, none⟩ = some (.slice x.B x.bl x.bc) ∧ w.cell? ⟨b, off + i * 3 + 2, none⟩ = some (.int .i64 x.n) ∧ (∃ cs, w.heap[b]? = some (.cells cs t (0, 0))) := by
  obtain ⟨b, off, x, e, hb, hx, hc⟩ := h.row.at_ hi
  exact ⟨b, off, x, e, hb, (h.lt e).1, hx, hc 0 _ rfl, hc 1 _ rfl, hc 2 _ rfl, h.ty e⟩
end
/-- The library's table of powers of ten is there, and stays there. -/
abbrev TabB (P : Program) (B : Nat) (w : World) : Prop := Lib.TabBelow P B w "internal/strconv.uint64pow10" .u64 Lib.pow10Tab
theorem TabB.next {P : Program} {B : Nat} {w w' : World} (h : TabB P B w) (hb : Below B w w') : TabB P B w' := fun _ h2 => h _ (hb.trans h2)
theorem InE.lo {es : List BkE} {B : Nat} (h : ∀ e ∈ es, ∀ a, e.A = some a → B ≤ a.block) : ∀ b, InE es b → B ≤ b := fun b ⟨e, he, a, ha, hb⟩ => by rw [hb]; exact h e he a ha
theorem blk_ne2 {w : World} {a b : Nat} {c1 c2 : Array Value} {t1 t2 : TypeId} {f1 f2 : Nat × Nat} (h1 : w.heap[a]? = some (.cells c1 t1 f1)) (h2 : w.heap[b]? = some (.cells c2 t2 f2)) (ht : t1 ≠ t2) : a ≠ b := fun e => by
  subst e; rw [h1] at h2; injection h2 with h2; injection h2 with _ h3; exact ht h3
theorem cells_nw (w : World) (cs : List Value) (e : TypeId) : ∀ (j : Nat) (u : Value), cs[j]? = some u → (w.alloc (.cells cs.toArray e)).cell? ((⟨w.heap.size, 0, none⟩ : Addr).add j) = some u := by
  intro j u hu
  rw [Addr.add_lit, Nat.zero_add, cell_of_row _ _ _ cs.toArray e (0, 0) (heap_alloc_new w _)]
  simpa using hu
/-- A list before it is written over. -/
structure P0 (mk : Nat → List Value) (size : Nat) (t : TypeId) (lim : Nat) (w : World) (B : Nat) (e : BkE) : Prop where
  le : e.len ≤ e.cap
  lim : e.len ≤ lim
  num : e.n ≤ 1152921504606846976
  tk : TkAt mk size t w B e.A 0 e.cap []
/-- A list that is written over with its mark. -/
abbrev P1 (mk : Nat → List Value) (size : Nat) (t : TypeId) (w : World) (B : Nat) (e : BkE) : Prop := TkAt mk size t w B e.A e.len e.cap (List.replicate e.len e.n)
/-- A list that has been put more behind. -/
abbrev P2 (mk : Nat → List Value) (size : Nat) (t : TypeId) (w : World) (B : Nat) (e : BkE) : Prop := e.bl = e.len + 70 ∧ TkAt mk size t w B e.B e.bl e.bc (List.replicate e.bl e.n)
theorem P0.more {mk : Nat → List Value} {size lim : Nat} {t : TypeId} {w w' : World} {B : Nat} {e : BkE} {X : Nat → Prop} (h : P0 mk size t lim w B e) (k : Kept w w' X) (hX : ∀ a, e.A = some a → ¬ X a.block) : P0 mk size t lim w' B e := ⟨h.le, h.lim, h.num, h.tk.kept k hX⟩
theorem rep_get {n k : Nat} {x y : Nat} (h : (List.replicate n x)[k]? = some y) : y = x := by
  rw [List.getElem?_replicate] at h
  split at h
  · injection h with h; exact h.symm
  · cases h
theorem rep_take {n k : Nat} {x : Nat} (h : k ≤ n) : (List.replicate n x).take k = List.replicate k x := by rw [List.take_replicate, Nat.min_eq_left h]
theorem rep_snoc {n x : Nat} : List.replicate n x ++ [x] = List.replicate (n + 1) x := by rw [List.replicate_succ']
/-- A kind's lists in a book whose cells are cs. -/
def KdQ (H : TypeId) (F : Nat) (Q : World → BkE → Prop) (w : World) (Bo : Nat) (cs : Array Value) (es : List BkE) : Prop :=
  ∃ SA sc, cs[F]? = some (.slice SA es.length sc) ∧ TkAt BkE.cells 3 H w Bo SA es.length sc es ∧ (∀ e ∈ es, Q w e) ∧ DisE es
end Go.Proofs.YtfafhfjmoijaeaaGreatDoor

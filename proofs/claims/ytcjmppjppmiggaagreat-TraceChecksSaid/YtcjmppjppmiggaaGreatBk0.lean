/- towpathlaw01.Book: what its walks stand on. Over any program. -/
import Derived.Test.YtcjmppjppmiggaaGreatM3
import Derived.Test.YtcjmppjppmiggaaGreatExt
import Derived.Lib.AppendIntMem
namespace Go.Proofs.YtcjmppjppmiggaaGreat
open Go.RowKit
set_option linter.unusedVariables false
set_option linter.unusedSimpArgs false

structure BkE where
  A : Option Addr
  len : Nat
  cap : Nat
  n : Nat
  B : Option Addr
  bl : Nat
  bc : Nat
def BkE.cells (e : BkE) : List Value := [.slice e.A e.len e.cap, .slice e.B e.bl e.bc, .int .i64 e.n]
def InE (es : List BkE) (b : Nat) : Prop := ∃ e ∈ es, ∃ a, e.A = some a ∧ b = a.block
def DisE (es : List BkE) : Prop := es.Pairwise fun e f => ∀ a c, e.A = some a → f.A = some c → a.block ≠ c.block
theorem DisE.ne {es : List BkE} (h : DisE es) {i j : Nat} {e f : BkE} (hi : es[i]? = some e) (hj : es[j]? = some f) (hne : i ≠ j) {a c : Addr} (ha : e.A = some a) (hc : f.A = some c) : a.block ≠ c.block := by
  obtain ⟨hi1, rfl⟩ := List.getElem?_eq_some_iff.1 hi
  obtain ⟨hj1, rfl⟩ := List.getElem?_eq_some_iff.1 hj
  have hp := List.pairwise_iff_getElem.1 h
  rcases Nat.lt_or_gt_of_ne hne with h1 | h1
  · exact hp i j hi1 hj1 h1 a c ha hc
  · exact (hp j i hj1 hi1 h1 c a hc ha).symm
section
variable {w w' : World} {B n cap : Nat} {A : Option Addr} {l : List BkE} {t : TypeId}
end
abbrev TabB (P : Program) (B : Nat) (w : World) : Prop := Lib.TabBelow P B w "internal/strconv.uint64pow10" .u64 Lib.pow10Tab
theorem TabB.next {P : Program} {B : Nat} {w w' : World} (h : TabB P B w) (hb : Below B w w') : TabB P B w' := fun _ h2 => h _ (hb.trans h2)
theorem InE.lo {es : List BkE} {B : Nat} (h : ∀ e ∈ es, ∀ a, e.A = some a → B ≤ a.block) : ∀ b, InE es b → B ≤ b := fun b ⟨e, he, a, ha, hb⟩ => by rw [hb]; exact h e he a ha
theorem blk_ne2 {w : World} {a b : Nat} {c1 c2 : Array Value} {t1 t2 : TypeId} {f1 f2 : Nat × Nat} (h1 : w.heap[a]? = some (.cells c1 t1 f1)) (h2 : w.heap[b]? = some (.cells c2 t2 f2)) (ht : t1 ≠ t2) : a ≠ b := fun e => by
  subst e; rw [h1] at h2; injection h2 with h2; injection h2 with _ h3; exact ht h3
theorem cells_nw (w : World) (cs : List Value) (e : TypeId) : ∀ (j : Nat) (u : Value), cs[j]? = some u → (w.alloc (.cells cs.toArray e)).cell? ((⟨w.heap.size, 0, none⟩ : Addr).add j) = some u := by
  intro j u hu
  rw [Addr.add_lit, Nat.zero_add, cell_of_row _ _ _ cs.toArray e (0, 0) (heap_alloc_new w _)]
  simpa using hu
structure P0 (mk : Nat → List Value) (size : Nat) (t : TypeId) (lim : Nat) (w : World) (B : Nat) (e : BkE) : Prop where
  le : e.len ≤ e.cap
  lim : e.len ≤ lim
  num : e.n ≤ 1152921504606846976
  tk : TkAt mk size t w B e.A 0 e.cap []
theorem P0.more {mk : Nat → List Value} {size lim : Nat} {t : TypeId} {w w' : World} {B : Nat} {e : BkE} {X : Nat → Prop} (h : P0 mk size t lim w B e) (k : Kept w w' X) (hX : ∀ a, e.A = some a → ¬ X a.block) : P0 mk size t lim w' B e := ⟨h.le, h.lim, h.num, h.tk.kept k hX⟩
end Go.Proofs.YtcjmppjppmiggaaGreat

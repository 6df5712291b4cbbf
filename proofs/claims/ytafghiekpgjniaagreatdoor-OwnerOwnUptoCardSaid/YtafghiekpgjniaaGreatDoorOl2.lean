/- OwnerOrder: what its walk stands on: the list of numbers that is taken from; the asks that came in. -/
import Derived.Test.YtafghiekpgjniaaGreatDoorOl0
import Derived.ArgAppend
namespace Go.Proofs.YtafghiekpgjniaaGreatDoor
open Go.RowKit
set_option linter.unusedVariables false
set_option linter.unusedSimpArgs false

set_option maxRecDepth 100000
structure AskR where
  serve : Bool
  r : Rq
def AskR.cells (a : AskR) : List Value := .bool a.serve :: a.r.cells
theorem len_ask (asks : List AskR) : ∀ x ∈ asks, (AskR.cells x).length = 10 := fun _ _ => rfl
def AsAt (w : World) (B : Nat) (A : Option Addr) (n : Nat) (asks : List AskR) : Prop := RowAt AskR.cells 10 w B A n asks ∧ ∀ a ∈ asks, RowAt Icell 1 w B a.r.A a.r.len a.r.bs ∧ a.r.len ≤ 17592186043904 ∧ (a.r.A = none → a.r.cap = 0)
theorem AsAt.below {w w' : World} {B n : Nat} {A : Option Addr} {asks : List AskR} (h : AsAt w B A n asks) (hb : Below B w w') : AsAt w' B A n asks :=
  ⟨h.1.below hb, fun a ha => ⟨(h.2 a ha).1.below hb, (h.2 a ha).2⟩⟩
section
variable {w w' : World} {L L' : Hs} {r : Rq} {cs : Array Value}
theorem RepR.bound (h : RepR w L r L' cs w') (ok : HsOk L) : L'.length ≤ L.length + 1 ∧ sizeH L' ≤ sizeH L + 1 := by
  by_cases h1 : r.kind = 1
  · obtain ⟨rfl, -⟩ := h.k1 h1
    exact ⟨instH_len _ _ ok, instH_size _ _ ok⟩
  by_cases h2 : r.kind = 2
  · obtain ⟨rfl, -⟩ := h.k2 h2; omega
  by_cases h3 : r.kind = 3
  · obtain ⟨rfl, -⟩ := h.k3 h3; omega
  by_cases h4 : r.kind = 4
  · obtain ⟨rfl, -⟩ := h.k4 h4
    have := (sizeH_collH L r.num).1
    refine ⟨by simp [collH], by omega⟩
  · unfold RepR at h
    rw [if_neg h1, if_neg h2, if_neg h3, if_neg h4] at h
    obtain ⟨rfl, -⟩ := h; omega
theorem RepR.form (h : RepR w L r L' cs w') : ∃ b A1 n1 c1 A2 n2 c2 d, cs = #[.int .i64 r.from_, .bool b, .slice A1 n1 c1, .slice A2 n2 c2, .int .i64 d] := by
  by_cases h1 : r.kind = 1
  · obtain ⟨-, rfl⟩ := h.k1 h1; exact ⟨_, _, _, _, _, _, _, _, rfl⟩
  by_cases h2 : r.kind = 2
  · obtain ⟨-, v, rfl, hv⟩ := h.k2 h2
    obtain ⟨_, _, _, rfl⟩ := slice_of_get hv
    exact ⟨_, _, _, _, _, _, _, _, rfl⟩
  by_cases h3 : r.kind = 3
  · obtain ⟨-, v, rfl, hv⟩ := h.k3 h3
    obtain ⟨_, _, _, rfl⟩ := slice_of_own hv
    exact ⟨_, _, _, _, _, _, _, _, rfl⟩
  by_cases h4 : r.kind = 4
  · obtain ⟨-, rfl⟩ := h.k4 h4; exact ⟨_, _, _, _, _, _, _, _, rfl⟩
  · unfold RepR at h
    rw [if_neg h1, if_neg h2, if_neg h3, if_neg h4] at h
    obtain ⟨-, v, hs, rfl, hv, -⟩ := h
    obtain ⟨_, _, _, rfl⟩ := slice_of_own hv.1
    exact ⟨_, _, _, _, _, _, _, _, rfl⟩
end
/-- A slice of numbers, in the midst of a block above B. -/
def TakAt (w : World) (B : Nat) (A : Option Addr) (n cap : Nat) (l : List Int) : Prop :=
  l.length = n ∧ n ≤ cap ∧ ((A = none ∧ cap = 0) ∨ ∃ g o cur, A = some ⟨g, o, none⟩ ∧ B ≤ g ∧ w.heap[g]? = some (.cells cur 3 (0, 0)) ∧ o + cap ≤ cur.size ∧ ∀ i x, l[i]? = some x → cur[o + i]? = some (.int .i64 x))
section
variable {w w' : World} {B n cap : Nat} {A : Option Addr} {l : List Int}
theorem TakAt.nil (w : World) (B : Nat) : TakAt w B none 0 0 [] := ⟨rfl, Nat.le_refl _, Or.inl ⟨rfl, rfl⟩⟩
theorem TakAt.kept {X : Nat → Prop} (h : TakAt w B A n cap l) (k : Kept w w' X) (hX : ∀ b, X b → b < B) : TakAt w' B A n cap l := by
  obtain ⟨h1, h2, h3 | ⟨g, o, cur, h3, h4, h5, h6⟩⟩ := h
  · exact ⟨h1, h2, Or.inl h3⟩
  · exact ⟨h1, h2, Or.inr ⟨g, o, cur, h3, h4, k.blk h5 (blk_lt h5) (fun hx => by have := hX g hx; omega), h6⟩⟩
theorem TakAt.below (h : TakAt w B A n cap l) (hb : Below w.heap.size w w') : TakAt w' B A n cap l := h.kept (X := fun _ => False) (Kept.of_below hb) (fun _ h => h.elim)
theorem TakAt.lt {c : Addr} (h : TakAt w B A n cap l) (e : A = some c) : B ≤ c.block ∧ c.block < w.heap.size := by
  obtain ⟨-, -, ⟨h3, -⟩ | ⟨g, o, cur, h3, h4, h5, -⟩⟩ := h
  · rw [h3] at e; cases e
  · rw [h3] at e; injection e with e; subst e; exact ⟨h4, blk_lt h5⟩
theorem TakAt.none_ (h : TakAt w B none n cap l) : n = 0 ∧ cap = 0 := by
  obtain ⟨-, h2, ⟨-, h4⟩ | ⟨g, o, cur, h3, -⟩⟩ := h
  · omega
  · cases h3
theorem TakAt.some_ {ad : Addr} (h : TakAt w B (some ad) n cap l) : ∃ g o cur, ad = ⟨g, o, none⟩ ∧ B ≤ g ∧ w.heap[g]? = some (.cells cur 3 (0, 0)) ∧ o + cap ≤ cur.size ∧ ∀ i x, l[i]? = some x → cur[o + i]? = some (.int .i64 x) := by
  obtain ⟨-, -, ⟨h3, -⟩ | ⟨g, o, cur, h3, h4, h5, h6, h7⟩⟩ := h
  · cases h3
  · injection h3 with h3; exact ⟨g, o, cur, h3, h4, h5, h6, h7⟩
theorem TakAt.pop {x : Int} (h : TakAt w B A (n + 1) cap (x :: l)) : TakAt w B (if cap = 1 then A else A.map (·.add 1)) n (cap - 1) l := by
  obtain ⟨h1, h2, ⟨h3, h4⟩ | ⟨g, o, cur, h3, h4, h5, h6, h7⟩⟩ := h
  · omega
  · simp at h1
    refine ⟨h1, by omega, Or.inr ?_⟩
    split
    · exact ⟨g, o, cur, h3, h4, h5, by omega, fun i x hi => by have := (List.getElem?_eq_some_iff.1 hi).1; omega⟩
    · refine ⟨g, o + 1, cur, by rw [h3]; simp [Addr.add_lit], h4, h5, by omega, fun i y hi => ?_⟩
      have := h7 (i + 1) y (by simpa using hi)
      rwa [Nat.add_assoc, Nat.add_comm 1 i]
theorem TakAt.own {base : Nat} {v : Value} (h : w.ownsRow base 3 1 v l.length (l.map (Value.int .i64))) (hB : B ≤ base) (hl : 0 < l.length) : ∃ g cap, v = .slice (some ⟨g, 0, none⟩) l.length cap ∧ base ≤ g ∧ TakAt w B (some ⟨g, 0, none⟩) l.length cap l := by
  obtain ⟨-, ⟨-, h2⟩ | ⟨g, cp, cur, hv, hg, hh, hn, hc, hsz, ht⟩⟩ := h
  · omega
  · refine ⟨g, cp, hv, hg, rfl, hn, Or.inr ⟨g, 0, cur, rfl, by omega, hh, by omega, fun i x hi => ?_⟩⟩
    have hi1 := (List.getElem?_eq_some_iff.1 hi).1
    have h2 : (cur.toList.take (l.length * 1))[i]? = some (Value.int .i64 x) := by rw [ht, List.getElem?_map, hi]; rfl
    rw [List.getElem?_take_of_lt (by omega)] at h2
    simpa using h2
theorem TakAt.push {g o : Nat} (h : TakAt w B (some ⟨g, o, none⟩) n cap l) (hr : n + 1 ≤ cap) (x : Int) : TakAt (w.setCells g (o + n) [.int .i64 x]) B (some ⟨g, o, none⟩) (n + 1) cap (l ++ [x]) := by
  obtain ⟨h1, h2, ⟨h3, h4⟩ | ⟨g', o', cur, h3, h4, h5, h6, h7⟩⟩ := h
  · cases h3
  · injection h3 with h3
    injection h3 with e1 e2
    subst e1 e2
    refine ⟨by simp [h1], hr, Or.inr ⟨g, o, cur.setIfInBounds (o + n) (.int .i64 x), rfl, h4, ?_, by simpa using h6, fun i y hi => ?_⟩⟩
    · exact blk_set h5 (o + n) (.int .i64 x)
    · by_cases hlt : i < n
      · rw [List.getElem?_append_left (by omega)] at hi
        rw [Array.getElem?_setIfInBounds_ne (by omega)]
        exact h7 i y hi
      · have hi2 := (List.getElem?_eq_some_iff.1 hi).1
        have e : i = n := by simp at hi2; omega
        subst e
        rw [← h1] at hi
        simp at hi
        subst hi
        rw [Array.getElem?_setIfInBounds_self_of_lt (by omega)]
end
/-- Where a block of numbers that is none of the owner's may have changed. -/
theorem OwAt.far {w w' : World} {o : OB} {first : Nat} {L : Hs} {q : List Rq} {g : Nat} {cs : Array Value} {fr : Nat × Nat} (h : OwAt w o first L q) (k : Kept w w' (fun b => b = g)) (ht : w.heap[g]? = some (.cells cs 3 fr))
    (hB : o.g < g ∧ o.p < g ∧ o.b < g ∧ o.t.g < g ∧ o.t.p < g) (hap : ∀ r ∈ q, ∀ a, r.A = some a → 0 < r.len → a.block ≠ g) : OwAt w' o first L q := by
  refine ⟨k.blk h.hg (blk_lt h.hg) (by omega), h.sh.keptV k (fun b hb => ?_), h.rg.kept k ⟨by omega, by omega⟩, fun r hr => ?_, h.may⟩
  · subst hb
    exact ⟨by omega, by omega, (fun cs fr hc => by rw [ht] at hc; cases hc)⟩
  · have hb := h.bey r hr
    exact ⟨(hb.row.keptB (Nat.le_refl _) k (fun a e hn hx => hap r hr a e hn hx)).more k.size, hb.ap, hb.lim⟩
theorem OwAt.row_lt {w : World} {o : OB} {first : Nat} {L : Hs} {q : List Rq} (h : OwAt w o first L q) {r : Rq} (hr : r ∈ q) {a : Addr} (e : r.A = some a) (hn : 0 < r.len) : a.block < w.heap.size := by
  obtain ⟨b, off, e2, hb, -⟩ := (h.bey r hr).row.2 hn
  rw [e] at e2
  injection e2 with e2
  rw [e2]; exact hb
end Go.Proofs.YtafghiekpgjniaaGreatDoor

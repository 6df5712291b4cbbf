/- A slice of any elements that is cut at its head and appended to, in the midst of a block. Over any program. -/
import Derived.Test.YtfafhfjmoijaeaaGreatDoorCore
import Derived.ArgAppend
import Derived.Deep.RegionLaw
import Derived.Deep.RegionLawGrows
namespace Go.Proofs.YtfafhfjmoijaeaaGreatDoor
open Go.RowKit
set_option linter.unusedVariables false
set_option linter.unusedSimpArgs false

theorem kept_sc (b : Nat) : ∀ (vs : List Value) (o : Nat) (w : World), Kept w (w.setCells b o vs) (· = b)
  | [], _, w => Kept.refl w _
  | v :: r, o, w => by
    rw [World.setCells]
    have h1 : Kept w (w.setCell ⟨b, o, none⟩ v) (fun k => k = b) := Kept.setCell (X := fun k => k = b) (Kept.refl w _) (p := ⟨b, o, none⟩) (Or.inl rfl) v
    exact h1.trans (kept_sc b r (o + 1) _)
theorem blk_sc {b : Nat} {t : TypeId} : ∀ (vs : List Value) (o : Nat) (w : World) (cs : Array Value), w.heap[b]? = some (.cells cs t (0, 0)) →
    ∃ cs', (w.setCells b o vs).heap[b]? = some (.cells cs' t (0, 0)) ∧ cs'.size = cs.size ∧ (∀ i, i < o → cs'[i]? = cs[i]?) ∧ ∀ j u, vs[j]? = some u → o + j < cs.size → cs'[o + j]? = some u
  | [], _, w, cs, h => ⟨cs, h, rfl, fun _ _ => rfl, fun j u hu => by simp at hu⟩
  | v :: r, o, w, cs, h => by
    rw [World.setCells]
    obtain ⟨cs', h1, h2, h3, h4⟩ := blk_sc r (o + 1) _ _ (blk_set h o v)
    refine ⟨cs', h1, by simpa using h2, fun i hi => ?_, fun j u hu hj => ?_⟩
    · rw [h3 i (by omega), Array.getElem?_setIfInBounds_ne (by omega)]
    · cases j with
      | zero =>
        simp at hu; subst hu
        rw [Nat.add_zero, h3 o (by omega), Array.getElem?_setIfInBounds_self_of_lt (by omega)]
      | succ j =>
        have := h4 j u (by simpa using hu) (by simp; omega)
        rwa [show o + (j + 1) = o + 1 + j by omega]
theorem Kept.trans2 {a b c : World} {X Y : Nat → Prop} (h : Kept a b X) (k : Kept b c Y) (hY : ∀ i, Y i → X i ∨ a.heap.size ≤ i) : Kept a c X :=
  ⟨k.os.trans h.os, k.tape.trans h.tape, k.output.trans h.output, Nat.le_trans h.size k.size, fun i hi hx => (k.block i (Nat.lt_of_lt_of_le hi h.size) (fun hy => by
    rcases hY i hy with h2 | h2
    · exact hx h2
    · omega)).trans (h.block i hi hx)⟩
/-- A slice of elements, in the midst of a block above B. -/
def TkAt {α : Type} (cells : α → List Value) (size : Nat) (e : TypeId) (w : World) (B : Nat) (A : Option Addr) (n cap : Nat) (l : List α) : Prop :=
  l.length = n ∧ n ≤ cap ∧ ((A = none ∧ cap = 0) ∨ ∃ g o cur, A = some ⟨g, o, none⟩ ∧ B ≤ g ∧ w.heap[g]? = some (.cells cur e (0, 0)) ∧ o + cap * size ≤ cur.size ∧ ∀ i x, l[i]? = some x → ∀ k u, (cells x)[k]? = some u → cur[o + i * size + k]? = some u)
/-- The address lies in the block of another one, or in a new one. -/
def FromA (w : World) (A A' : Option Addr) : Prop := ∀ a, A' = some a → (∃ c, A = some c ∧ a.block = c.block) ∨ w.heap.size ≤ a.block
theorem FromA.refl (w : World) (A : Option Addr) : FromA w A A := fun a e => Or.inl ⟨a, e, rfl⟩
theorem FromA.trans {w w' : World} {A A' A'' : Option Addr} (h : FromA w A A') (h' : FromA w' A' A'') (hs : w.heap.size ≤ w'.heap.size) : FromA w A A'' := fun a e => by
  rcases h' a e with ⟨c, e1, e2⟩ | h2
  · rcases h c e1 with ⟨d, e3, e4⟩ | h3
    · exact Or.inl ⟨d, e3, e2.trans e4⟩
    · exact Or.inr (by omega)
  · exact Or.inr (by omega)
section
variable {α : Type} {cells : α → List Value} {size : Nat} {e : TypeId} {w w' : World} {B n cap : Nat} {A : Option Addr} {l : List α}
theorem TkAt.nil (w : World) (B : Nat) : TkAt cells size e w B none 0 0 [] := ⟨rfl, Nat.le_refl _, Or.inl ⟨rfl, rfl⟩⟩
theorem TkAt.kept {X : Nat → Prop} (h : TkAt cells size e w B A n cap l) (k : Kept w w' X) (hX : ∀ a, A = some a → ¬ X a.block) : TkAt cells size e w' B A n cap l := by
  obtain ⟨h1, h2, h3 | ⟨g, o, cur, h3, h4, h5, h6⟩⟩ := h
  · exact ⟨h1, h2, Or.inl h3⟩
  · exact ⟨h1, h2, Or.inr ⟨g, o, cur, h3, h4, k.blk h5 (blk_lt h5) (fun hx => hX _ h3 hx), h6⟩⟩
theorem TkAt.below (h : TkAt cells size e w B A n cap l) (hb : Below w.heap.size w w') : TkAt cells size e w' B A n cap l := h.kept (X := fun _ => False) (Kept.of_below hb) (fun _ _ h => h.elim)
theorem TkAt.more {B' : Nat} (h : TkAt cells size e w B A n cap l) (hB : B' ≤ B) : TkAt cells size e w B' A n cap l := by
  obtain ⟨h1, h2, h3 | ⟨g, o, cur, h3, h4, h5, h6⟩⟩ := h
  · exact ⟨h1, h2, Or.inl h3⟩
  · exact ⟨h1, h2, Or.inr ⟨g, o, cur, h3, by omega, h5, h6⟩⟩
theorem TkAt.len (h : TkAt cells size e w B A n cap l) : l.length = n := h.1
theorem TkAt.le (h : TkAt cells size e w B A n cap l) : n ≤ cap := h.2.1
theorem TkAt.lt {c : Addr} (h : TkAt cells size e w B A n cap l) (ea : A = some c) : B ≤ c.block ∧ c.block < w.heap.size := by
  obtain ⟨-, -, ⟨h3, -⟩ | ⟨g, o, cur, h3, h4, h5, -⟩⟩ := h
  · rw [h3] at ea; cases ea
  · rw [h3] at ea; injection ea with ea; subst ea; exact ⟨h4, blk_lt h5⟩
/-- The block's type. -/
theorem TkAt.ty {c : Addr} (h : TkAt cells size e w B A n cap l) (ea : A = some c) : ∃ cs, w.heap[c.block]? = some (.cells cs e (0, 0)) := by
  obtain ⟨-, -, ⟨h3, -⟩ | ⟨g, o, cur, h3, h4, h5, -⟩⟩ := h
  · rw [h3] at ea; cases ea
  · rw [h3] at ea; injection ea with ea; subst ea; exact ⟨cur, h5⟩
theorem TkAt.none_ (h : TkAt cells size e w B none n cap l) : n = 0 ∧ cap = 0 := by
  obtain ⟨-, h2, ⟨-, h4⟩ | ⟨g, o, cur, h3, -⟩⟩ := h
  · omega
  · cases h3
theorem TkAt.nil_ (h : TkAt cells size e w B A n cap l) (ea : A = none) : n = 0 ∧ cap = 0 := by subst ea; exact h.none_
theorem TkAt.some_ {ad : Addr} (h : TkAt cells size e w B (some ad) n cap l) : ∃ g o cur, ad = ⟨g, o, none⟩ ∧ B ≤ g ∧ w.heap[g]? = some (.cells cur e (0, 0)) ∧ o + cap * size ≤ cur.size ∧ ∀ i x, l[i]? = some x → ∀ k u, (cells x)[k]? = some u → cur[o + i * size + k]? = some u := by
  obtain ⟨-, -, ⟨h3, -⟩ | ⟨g, o, cur, h3, h4, h5, h6, h7⟩⟩ := h
  · cases h3
  · injection h3 with h3; exact ⟨g, o, cur, h3, h4, h5, h6, h7⟩
/-- It reads as its list. -/
theorem TkAt.row (h : TkAt cells size e w B A n cap l) : RowAt cells size w w.heap.size A n l := by
  obtain ⟨h1, h2, ⟨h3, h4⟩ | ⟨g, o, cur, h3, h4, h5, h6, h7⟩⟩ := h
  · exact ⟨h1, fun hn => by omega⟩
  · exact ⟨h1, fun hn => ⟨g, o, h3, blk_lt h5, fun i x hx j u hu => by rw [blk_cell h5]; exact h7 i x hx j u hu⟩⟩
theorem TkAt.pop {x : α} (h : TkAt cells size e w B A (n + 1) cap (x :: l)) : TkAt cells size e w B (if cap = 1 then A else A.map (·.add size)) n (cap - 1) l := by
  obtain ⟨h1, h2, ⟨h3, h4⟩ | ⟨g, o, cur, h3, h4, h5, h6, h7⟩⟩ := h
  · omega
  · simp at h1
    refine ⟨h1, by omega, Or.inr ?_⟩
    have h8 : (cap - 1) * size + size = cap * size := by
      obtain ⟨c, rfl⟩ : ∃ c, cap = c + 1 := ⟨cap - 1, by omega⟩
      rw [Nat.add_mul]; simp
    split
    · exact ⟨g, o, cur, h3, h4, h5, by omega, fun i x hi => by have := (List.getElem?_eq_some_iff.1 hi).1; omega⟩
    · refine ⟨g, o + size, cur, by rw [h3]; simp [Addr.add_lit], h4, h5, by omega, fun i y hi k u hu => ?_⟩
      have := h7 (i + 1) y (by simpa using hi) k u hu
      rw [Nat.add_mul] at this
      rwa [show o + size + i * size + k = o + (i * size + 1 * size) + k by omega]
theorem TkAt.take_ {m : Nat} {l' : List α} (h : TkAt cells size e w B A n cap l) (hm : m ≤ n) (hl : l.take m = l') : TkAt cells size e w B A m cap l' := by
  subst hl
  obtain ⟨h1, h2, h3⟩ := h
  refine ⟨by rw [List.length_take]; omega, by omega, h3.imp id fun ⟨g, o, cur, a1, a2, a3, a4, a5⟩ => ⟨g, o, cur, a1, a2, a3, a4, fun i x hi k u hu => ?_⟩⟩
  have hi2 : i < m := by have := (List.getElem?_eq_some_iff.1 hi).1; simp at this; omega
  rw [List.getElem?_take_of_lt hi2] at hi
  exact a5 i x hi k u hu
theorem TkAt.from_pop {w : World} {x : α} (h : TkAt cells size e w B A (n + 1) cap (x :: l)) : FromA w A (if cap = 1 then A else A.map (·.add size)) := fun a ea => by
  obtain ⟨h1, h2, ⟨h3, h4⟩ | ⟨g, o, cur, h3, h4, h5, h6, h7⟩⟩ := h
  · omega
  · refine Or.inl ⟨⟨g, o, none⟩, h3, ?_⟩
    rw [h3] at ea
    split at ea
    · injection ea with ea; rw [← ea]
    · simp [Addr.add_lit] at ea; rw [← ea]
/-- Of an owned row. -/
theorem TkAt.own {base : Nat} {v : Value} (hs : ∀ x ∈ l, (cells x).length = size) (h : w.ownsRow base e size v l.length (l.flatMap cells)) (hB : B ≤ base) : ∃ A cap, v = .slice A l.length cap ∧ (∀ a, A = some a → base ≤ a.block) ∧ TkAt cells size e w B A l.length cap l := by
  obtain ⟨-, ⟨h2, h3⟩ | ⟨g, cp, cur, hv, hg, hh, hn, hc, hsz, ht⟩⟩ := h
  · refine ⟨none, 0, by rw [h2, h3], (fun a e => by cases e), rfl, by omega, Or.inl ⟨rfl, rfl⟩⟩
  · refine ⟨some ⟨g, 0, none⟩, cp, hv, (fun a e => by injection e with e; rw [← e]; exact hg), rfl, hn, Or.inr ⟨g, 0, cur, rfl, by omega, hh, by simp; omega, fun i x hi k u hu => ?_⟩⟩
    have h2 := flat_get l hs i x hi k u hu
    rw [← ht, List.getElem?_take] at h2
    split at h2
    · simpa using h2
    · cases h2
theorem TkAt.room {g o : Nat} (hs : ∀ x, (cells x).length = size) (h : TkAt cells size e w B (some ⟨g, o, none⟩) n cap l) (hr : n + 1 ≤ cap) (y : α) : TkAt cells size e (w.setCells g (o + n * size) (cells y)) B (some ⟨g, o, none⟩) (n + 1) cap (l ++ [y]) := by
  obtain ⟨h1, h2, ⟨h3, h4⟩ | ⟨g', o', cur, h3, h4, h5, h6, h7⟩⟩ := h
  · cases h3
  · injection h3 with h3
    injection h3 with e1 e2
    subst e1 e2
    obtain ⟨cs', b1, b2, b3, b4⟩ := blk_sc (cells y) (o + n * size) w cur h5
    have hm : (n + 1) * size ≤ cap * size := Nat.mul_le_mul_right _ hr
    rw [Nat.add_mul] at hm
    refine ⟨by simp [h1], hr, Or.inr ⟨g, o, cs', rfl, h4, b1, by omega, fun i x hi k u hu => ?_⟩⟩
    have hk : k < size := by rw [← hs x]; exact (List.getElem?_eq_some_iff.1 hu).1
    by_cases hlt : i < n
    · rw [List.getElem?_append_left (by omega)] at hi
      have hm2 : (i + 1) * size ≤ n * size := Nat.mul_le_mul_right _ (by omega)
      rw [Nat.add_mul] at hm2
      rw [b3 _ (by omega)]
      exact h7 i x hi k u hu
    · have hi2 := (List.getElem?_eq_some_iff.1 hi).1
      have en : i = n := by simp at hi2; omega
      subst en
      rw [← h1] at hi
      simp at hi
      subst hi
      exact b4 k u hu (by omega)
end
/-- append of one element to such a slice, as one step of a region that draws its order. -/
theorem step_push2 {P : Program} {ops : Array Oper} {o : Oper} {a : Act} {w : World} {K : Act → World → Prop} {Q : Exit → Act → World → Prop} {E : Prop} {α : Type} {cells : α → List Value}
    (hg : o.guard = none) (s x : Operand) (t : TypeId) (hop : o.op = Op.call { callee := Callee.builtin Builtin.append, args := #[s, x], argTypes := #[t, t] })
    (e : TypeId) (i : TypeInfo) (z : Value) (size bytes : Nat) (h1 : P.underlying t = some (.slice e)) (h2 : P.info? e = some i) (h3 : i.zero = some z) (h4 : i.size = size) (h5 : i.bytes = bytes) (h6 : z.cells.size = size) (h7 : 0 < size)
    (hlen : ∀ x, (cells x).length = size) (h1c : ∀ x, ∀ u ∈ cells x, u.oneCell' = true)
    (B : Nat) (A : Option Addr) (n cap : Nat) (l : List α) (hs : a.eval s = .slice A n cap) (hT : TkAt cells size e w B A n cap l) (hB : B ≤ w.heap.size)
    (y : α) (ad : Addr) (c : Nat) (hx : a.eval x = .slice (some ad) 1 c) (hc : ∀ j u, (cells y)[j]? = some u → w.cell? (ad.add j) = some u)
    (b1 : n + 1 ≤ maxLen) (b2 : (n + 1) * bytes ≤ 140737488355328)
    (hK : ∀ A' cap' w', TkAt cells size e w' B A' (n + 1) cap' (l ++ [y]) → Kept w w' (fun b => ∃ a, A = some a ∧ b = a.block) → ((A' = A ∧ cap' = cap) ∨ ∃ a, A' = some a ∧ w.heap.size ≤ a.block) → TkAt cells size e w' B A n cap l → K (a.put o.dst (.slice A' (n + 1) cap')) w') :
    if Region.wanted o (yielded ops a.tmps) = true then Oper.wp P o a w K Q else E := by
  have hl1 : (l.flatMap cells).length = n * size := by rw [flat_len l (fun x _ => hlen x), hT.1]
  have hgrow : cap < n + 1 → (if Region.wanted o (yielded ops a.tmps) = true then Oper.wp P o a w K Q else E) := fun hf => by
    refine step_append_grows hg s x t hop e i z size bytes h1 h2 h3 h4 h5 h6 h7 A n cap (l.flatMap cells) hs hT.nil_ hl1 (fun b ea j u hu => ?_) ad 1 c (cells y) hx (by rw [hlen, Nat.one_mul]) hc (h1c y) hf b1 b2 (fun v' w' hown hgr => ?_)
    · subst ea
      obtain ⟨g, o', cur, rfl, hgB, hcur, hfit, hat⟩ := hT.some_
      rw [Addr.add_lit, blk_cell hcur]
      have hj : j < n * size := by rw [← hl1]; exact (List.getElem?_eq_some_iff.1 hu).1
      have hd : j = j / size * size + j % size := by rw [Nat.mul_comm]; exact (Nat.div_add_mod j size).symm
      have hjd : j / size < n := Nat.div_lt_of_lt_mul (by rwa [Nat.mul_comm] at hj)
      have hxl : l[j / size]? = some (l[j / size]'(by rw [hT.1]; exact hjd)) := List.getElem?_eq_getElem _
      generalize l[j / size]'(by rw [hT.1]; exact hjd) = xl at hxl
      have hkl : j % size < (cells xl).length := by rw [hlen]; exact Nat.mod_lt _ h7
      have h8 := flat_get l (fun x _ => hlen x) _ xl hxl (j % size) _ (List.getElem?_eq_getElem hkl)
      rw [← hd, hu] at h8
      have := hat _ xl hxl (j % size) _ (List.getElem?_eq_getElem hkl)
      rw [Nat.add_assoc, ← hd] at this
      rw [this, ← h8]
    · have hb : Below w.heap.size w w' := (Below.refl _ _).grown hgr (Nat.le_refl _) (fun k hk => by cases hk)
      have ho : w'.ownsRow w.heap.size e size v' (l ++ [y]).length ((l ++ [y]).flatMap cells) := by simpa [hT.1] using hown
      obtain ⟨A', cap', rfl, hfr, ht⟩ := TkAt.own (fun x _ => hlen x) ho hB
      have hl : (l ++ [y]).length = n + 1 := by simp [hT.1]
      rw [hl] at ht ⊢
      refine hK A' cap' w' ht (Kept.of_below hb) (Or.inr ?_) (hT.below hb)
      cases A' with
      | none => have := ht.none_; omega
      | some a => exact ⟨a, rfl, hfr a rfl⟩
  cases A with
  | none => exact hgrow (by have := hT.none_; omega)
  | some ad0 =>
    by_cases hr : n + 1 ≤ cap
    · obtain ⟨g, o', cur, rfl, hgB, hcur, hfit, hat⟩ := hT.some_
      have hm : (n + 1) * size ≤ cap * size := Nat.mul_le_mul_right _ hr
      rw [Nat.add_mul] at hm
      refine step_append_room hg s x t hop e i size h1 h2 h4 g o' n cap hs ad 1 c (cells y) hx (by rw [hlen, Nat.one_mul]) hc (h1c y) hr (fun j hj => ?_) (hK _ _ _ (hT.room hlen hr y) ((kept_sc g _ _ w).mono fun b hb => ⟨_, rfl, hb⟩) (Or.inl ⟨rfl, rfl⟩) ((hT.room hlen hr y).take_ (Nat.le_succ _) (by rw [List.take_left' hT.1])))
      rw [hlen] at hj
      have hlt : o' + n * size + j < cur.size := by omega
      exact ⟨by rw [blk_cell hcur, Array.getElem?_eq_getElem hlt]; rfl, blk_frozen hcur _⟩
    · exact hgrow (by omega)
/-- append of one element to such a slice, as one step of a region that draws its order. -/
theorem step_push {P : Program} {ops : Array Oper} {o : Oper} {a : Act} {w : World} {K : Act → World → Prop} {Q : Exit → Act → World → Prop} {E : Prop} {α : Type} {cells : α → List Value}
    (hg : o.guard = none) (s x : Operand) (t : TypeId) (hop : o.op = Op.call { callee := Callee.builtin Builtin.append, args := #[s, x], argTypes := #[t, t] })
    (e : TypeId) (i : TypeInfo) (z : Value) (size bytes : Nat) (h1 : P.underlying t = some (.slice e)) (h2 : P.info? e = some i) (h3 : i.zero = some z) (h4 : i.size = size) (h5 : i.bytes = bytes) (h6 : z.cells.size = size) (h7 : 0 < size)
    (hlen : ∀ x, (cells x).length = size) (h1c : ∀ x, ∀ u ∈ cells x, u.oneCell' = true)
    (B : Nat) (A : Option Addr) (n cap : Nat) (l : List α) (hs : a.eval s = .slice A n cap) (hT : TkAt cells size e w B A n cap l) (hB : B ≤ w.heap.size)
    (y : α) (ad : Addr) (c : Nat) (hx : a.eval x = .slice (some ad) 1 c) (hc : ∀ j u, (cells y)[j]? = some u → w.cell? (ad.add j) = some u)
    (b1 : n + 1 ≤ maxLen) (b2 : (n + 1) * bytes ≤ 140737488355328)
    (hK : ∀ A' cap' w', TkAt cells size e w' B A' (n + 1) cap' (l ++ [y]) → Kept w w' (fun b => ∃ a, A = some a ∧ b = a.block) → FromA w A A' → K (a.put o.dst (.slice A' (n + 1) cap')) w') :
    if Region.wanted o (yielded ops a.tmps) = true then Oper.wp P o a w K Q else E := by
  refine step_push2 hg s x t hop e i z size bytes h1 h2 h3 h4 h5 h6 h7 hlen h1c B A n cap l hs hT hB y ad c hx hc b1 b2 (fun A' cap' w' g1 g2 g3 _ => hK A' cap' w' g1 g2 (fun a ea => ?_))
  rcases g3 with ⟨rfl, -⟩ | ⟨a', e1, h⟩
  · exact Or.inl ⟨a, ea, rfl⟩
  · rw [e1] at ea; injection ea with ea; subst ea; exact Or.inr h
/-- The same, as one step of a region that does not draw. -/
theorem wpList_push {P : Program} {ops : Array Oper} {rest : List Oper} {o : Oper} {a : Act} {w : World} {Q : Exit → Act → World → Prop} {α : Type} {cells : α → List Value}
    (hg : o.guard = none) (s x : Operand) (t : TypeId) (hop : o.op = Op.call { callee := Callee.builtin Builtin.append, args := #[s, x], argTypes := #[t, t] })
    (e : TypeId) (i : TypeInfo) (z : Value) (size bytes : Nat) (h1 : P.underlying t = some (.slice e)) (h2 : P.info? e = some i) (h3 : i.zero = some z) (h4 : i.size = size) (h5 : i.bytes = bytes) (h6 : z.cells.size = size) (h7 : 0 < size)
    (hlen : ∀ x, (cells x).length = size) (h1c : ∀ x, ∀ u ∈ cells x, u.oneCell' = true)
    (B : Nat) (A : Option Addr) (n cap : Nat) (l : List α) (hs : a.eval s = .slice A n cap) (hT : TkAt cells size e w B A n cap l) (hB : B ≤ w.heap.size)
    (y : α) (ad : Addr) (c : Nat) (hx : a.eval x = .slice (some ad) 1 c) (hc : ∀ j u, (cells y)[j]? = some u → w.cell? (ad.add j) = some u)
    (b1 : n + 1 ≤ maxLen) (b2 : (n + 1) * bytes ≤ 140737488355328)
    (hK : ∀ A' cap' w', TkAt cells size e w' B A' (n + 1) cap' (l ++ [y]) → Kept w w' (fun b => ∃ a, A = some a ∧ b = a.block) → FromA w A A' → wpList P ops Q rest (a.put o.dst (.slice A' (n + 1) cap')) w') :
    wpList P ops Q (o :: rest) a w := by
  refine wpList_plain hg fun K hK' => ?_
  have h := step_push (P := P) (ops := #[]) (w := w) (K := K) (Q := Q) (E := True) hg s x t hop e i z size bytes h1 h2 h3 h4 h5 h6 h7 hlen h1c B A n cap l hs hT hB y ad c hx hc b1 b2 (fun A' cap' w' g1 g2 g3 => hK' _ _ (hK A' cap' w' g1 g2 g3))
  have hw : Region.wanted o (yielded #[] a.tmps) = true := by simp [Region.wanted, hg]
  rw [if_pos hw] at h
  exact h
/-- The same, as one step of a region that does not draw. -/
theorem wpList_push2 {P : Program} {ops : Array Oper} {rest : List Oper} {o : Oper} {a : Act} {w : World} {Q : Exit → Act → World → Prop} {α : Type} {cells : α → List Value}
    (hg : o.guard = none) (s x : Operand) (t : TypeId) (hop : o.op = Op.call { callee := Callee.builtin Builtin.append, args := #[s, x], argTypes := #[t, t] })
    (e : TypeId) (i : TypeInfo) (z : Value) (size bytes : Nat) (h1 : P.underlying t = some (.slice e)) (h2 : P.info? e = some i) (h3 : i.zero = some z) (h4 : i.size = size) (h5 : i.bytes = bytes) (h6 : z.cells.size = size) (h7 : 0 < size)
    (hlen : ∀ x, (cells x).length = size) (h1c : ∀ x, ∀ u ∈ cells x, u.oneCell' = true)
    (B : Nat) (A : Option Addr) (n cap : Nat) (l : List α) (hs : a.eval s = .slice A n cap) (hT : TkAt cells size e w B A n cap l) (hB : B ≤ w.heap.size)
    (y : α) (ad : Addr) (c : Nat) (hx : a.eval x = .slice (some ad) 1 c) (hc : ∀ j u, (cells y)[j]? = some u → w.cell? (ad.add j) = some u)
    (b1 : n + 1 ≤ maxLen) (b2 : (n + 1) * bytes ≤ 140737488355328)
    (hK : ∀ A' cap' w', TkAt cells size e w' B A' (n + 1) cap' (l ++ [y]) → Kept w w' (fun b => ∃ a, A = some a ∧ b = a.block) → ((A' = A ∧ cap' = cap) ∨ ∃ a, A' = some a ∧ w.heap.size ≤ a.block) → TkAt cells size e w' B A n cap l → wpList P ops Q rest (a.put o.dst (.slice A' (n + 1) cap')) w') :
    wpList P ops Q (o :: rest) a w := by
  refine wpList_plain hg fun K hK' => ?_
  have h := step_push2 (P := P) (ops := #[]) (w := w) (K := K) (Q := Q) (E := True) hg s x t hop e i z size bytes h1 h2 h3 h4 h5 h6 h7 hlen h1c B A n cap l hs hT hB y ad c hx hc b1 b2 (fun A' cap' w' g1 g2 g3 g4 => hK' _ _ (hK A' cap' w' g1 g2 g3 g4))
  have hw : Region.wanted o (yielded #[] a.tmps) = true := by simp [Region.wanted, hg]
  rw [if_pos hw] at h
  exact h
end Go.Proofs.YtfafhfjmoijaeaaGreatDoor

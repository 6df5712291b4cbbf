/- Lemmas and contracts of functions that statements of this seat stand on, many texts in one; each holds under the premises typed in its head. -/
import Derived.Test.YtcjmppjppmiggaaGreatM1
import Derived.ArgAppend
import Derived.Deep.RegionLaw
import Derived.Deep.RegionLawGrows
import Derived.Laws.AppendOwnNone
import Derived.Test.YtcjmppjppmiggaaGreatExt
import Derived.OrdersHeld
/- A slice of any elements that is cut at its head and appended to, in the midst of a block. Over any program. -/
namespace Go.Proofs.YtcjmppjppmiggaaGreat
open Go.RowKit
set_option linter.unusedVariables false
set_option linter.unusedSimpArgs false

theorem kept_sc (b : Nat) : ∀ (vs : List Value) (o : Nat) (w : World), Kept w (w.setCells b o vs) (· = b)
  | [], _, w => Kept.refl w _
  | v :: r, o, w => by
    rw [World.setCells]
    have h1 : Kept w (w.setCell ⟨b, o, none⟩ v) (fun k => k = b) := Kept.setCell (X := fun k => k = b) (Kept.refl w _) (p := ⟨b, o, none⟩) (Or.inl rfl) v
    exact h1.trans (kept_sc b r (o + 1) _)
theorem blk_sc {b : Nat} {t : TypeId} : ∀ (vs : List Value) (o : Nat) (w : World) (cs : Array Value), w.heap[b]? = some (.cells cs t (0, 0)) →
    ∃ cs', (w.setCells b o vs).heap[b]? = some (.cells cs' t (0, 0)) ∧ cs'.size = cs.size ∧ (∀ i, i < o → cs'[i]? = cs[i]?) ∧ ∀ j u, vs[j]? = some u → o + j < cs.size → cs'[o + j]? = some u
  | [], _, w, cs, h => ⟨cs, h, rfl, fun _ _ => rfl, fun j u hu => by simp at hu⟩
  | v :: r, o, w, cs, h => by
    rw [World.setCells]
    obtain ⟨cs', h1, h2, h3, h4⟩ := blk_sc r (o + 1) _ _ (blk_set h o v)
    refine ⟨cs', h1, by simpa using h2, fun i hi => ?_, fun j u hu hj => ?_⟩
    · rw [h3 i (by omega), Array.getElem?_setIfInBounds_ne (by omega)]
    · cases j with
      | zero =>
        simp at hu; subst hu
        rw [Nat.add_zero, h3 o (by omega), Array.getElem?_setIfInBounds_self_of_lt (by omega)]
      | succ j =>
        have := h4 j u (by simpa using hu) (by simp; omega)
        rwa [show o + (j + 1) = o + 1 + j by omega]
theorem Kept.trans2 {a b c : World} {X Y : Nat → Prop} (h : Kept a b X) (k : Kept b c Y) (hY : ∀ i, Y i → X i ∨ a.heap.size ≤ i) : Kept a c X :=
  ⟨k.os.trans h.os, k.tape.trans h.tape, k.output.trans h.output, Nat.le_trans h.size k.size, fun i hi hx => (k.block i (Nat.lt_of_lt_of_le hi h.size) (fun hy => by
    rcases hY i hy with h2 | h2
    · exact hx h2
    · omega)).trans (h.block i hi hx)⟩
def TkAt {α : Type} (cells : α → List Value) (size : Nat) (e : TypeId) (w : World) (B : Nat) (A : Option Addr) (n cap : Nat) (l : List α) : Prop :=
  l.length = n ∧ n ≤ cap ∧ ((A = none ∧ cap = 0) ∨ ∃ g o cur, A = some ⟨g, o, none⟩ ∧ B ≤ g ∧ w.heap[g]? = some (.cells cur e (0, 0)) ∧ o + cap * size ≤ cur.size ∧ ∀ i x, l[i]? = some x → ∀ k u, (cells x)[k]? = some u → cur[o + i * size + k]? = some u)
def FromA (w : World) (A A' : Option Addr) : Prop := ∀ a, A' = some a → (∃ c, A = some c ∧ a.block = c.block) ∨ w.heap.size ≤ a.block
theorem FromA.refl (w : World) (A : Option Addr) : FromA w A A := fun a e => Or.inl ⟨a, e, rfl⟩
theorem FromA.trans {w w' : World} {A A' A'' : Option Addr} (h : FromA w A A') (h' : FromA w' A' A'') (hs : w.heap.size ≤ w'.heap.size) : FromA w A A'' := fun a e => by
  rcases h' a e with ⟨c, e1, e2⟩ | h2
  · rcases h c e1 with ⟨d, e3, e4⟩ | h3
    · exact Or.inl ⟨d, e3, e2.trans e4⟩
    · exact Or.inr (by omega)
  · exact Or.inr (by omega)
section
variable {α : Type} {cells : α → List Value} {size : Nat} {e : TypeId} {w w' : World} {B n cap : Nat} {A : Option Addr} {l : List α}
theorem TkAt.nil (w : World) (B : Nat) : TkAt cells size e w B none 0 0 [] := ⟨rfl, Nat.le_refl _, Or.inl ⟨rfl, rfl⟩⟩
theorem TkAt.kept {X : Nat → Prop} (h : TkAt cells size e w B A n cap l) (k : Kept w w' X) (hX : ∀ a, A = some a → ¬ X a.block) : TkAt cells size e w' B A n cap l := by
  obtain ⟨h1, h2, h3 | ⟨g, o, cur, h3, h4, h5, h6⟩⟩ := h
  · exact ⟨h1, h2, Or.inl h3⟩
  · exact ⟨h1, h2, Or.inr ⟨g, o, cur, h3, h4, k.blk h5 (blk_lt h5) (fun hx => hX _ h3 hx), h6⟩⟩
theorem TkAt.below (h : TkAt cells size e w B A n cap l) (hb : Below w.heap.size w w') : TkAt cells size e w' B A n cap l := h.kept (X := fun _ => False) (Kept.of_below hb) (fun _ _ h => h.elim)
theorem TkAt.more {B' : Nat} (h : TkAt cells size e w B A n cap l) (hB : B' ≤ B) : TkAt cells size e w B' A n cap l := by
  obtain ⟨h1, h2, h3 | ⟨g, o, cur, h3, h4, h5, h6⟩⟩ := h
  · exact ⟨h1, h2, Or.inl h3⟩
  · exact ⟨h1, h2, Or.inr ⟨g, o, cur, h3, by omega, h5, h6⟩⟩
theorem TkAt.len (h : TkAt cells size e w B A n cap l) : l.length = n := h.1
theorem TkAt.le (h : TkAt cells size e w B A n cap l) : n ≤ cap := h.2.1
theorem TkAt.lt {c : Addr} (h : TkAt cells size e w B A n cap l) (ea : A = some c) : B ≤ c.block ∧ c.block < w.heap.size := by
  obtain ⟨-, -, ⟨h3, -⟩ | ⟨g, o, cur, h3, h4, h5, -⟩⟩ := h
  · rw [h3] at ea; cases ea
  · rw [h3] at ea; injection ea with ea; subst ea; exact ⟨h4, blk_lt h5⟩
theorem TkAt.ty {c : Addr} (h : TkAt cells size e w B A n cap l) (ea : A = some c) : ∃ cs, w.heap[c.block]? = some (.cells cs e (0, 0)) := by
  obtain ⟨-, -, ⟨h3, -⟩ | ⟨g, o, cur, h3, h4, h5, -⟩⟩ := h
  · rw [h3] at ea; cases ea
  · rw [h3] at ea; injection ea with ea; subst ea; exact ⟨cur, h5⟩
theorem TkAt.none_ (h : TkAt cells size e w B none n cap l) : n = 0 ∧ cap = 0 := by
  obtain ⟨-, h2, ⟨-, h4⟩ | ⟨g, o, cur, h3, -⟩⟩ := h
  · omega
  · cases h3
theorem TkAt.nil_ (h : TkAt cells size e w B A n cap l) (ea : A = none) : n = 0 ∧ cap = 0 := by subst ea; exact h.none_
theorem TkAt.some_ {ad : Addr} (h : TkAt cells size e w B (some ad) n cap l) : ∃ g o cur, ad = ⟨g, o, none⟩ ∧ B ≤ g ∧ w.heap[g]? = some (.cells cur e (0, 0)) ∧ o + cap * size ≤ cur.size ∧ ∀ i x, l[i]? = some x → ∀ k u, (cells x)[k]? = some u → cur[o + i * size + k]? = some u := by
  obtain ⟨-, -, ⟨h3, -⟩ | ⟨g, o, cur, h3, h4, h5, h6, h7⟩⟩ := h
  · cases h3
  · injection h3 with h3; exact ⟨g, o, cur, h3, h4, h5, h6, h7⟩
theorem TkAt.row (h : TkAt cells size e w B A n cap l) : RowAt cells size w w.heap.size A n l := by
  obtain ⟨h1, h2, ⟨h3, h4⟩ | ⟨g, o, cur, h3, h4, h5, h6, h7⟩⟩ := h
  · exact ⟨h1, fun hn => by omega⟩
  · exact ⟨h1, fun hn => ⟨g, o, h3, blk_lt h5, fun i x hx j u hu => by rw [blk_cell h5]; exact h7 i x hx j u hu⟩⟩
theorem TkAt.pop {x : α} (h : TkAt cells size e w B A (n + 1) cap (x :: l)) : TkAt cells size e w B (if cap = 1 then A else A.map (·.add size)) n (cap - 1) l := by
  obtain ⟨h1, h2, ⟨h3, h4⟩ | ⟨g, o, cur, h3, h4, h5, h6, h7⟩⟩ := h
  · omega
  · simp at h1
    refine ⟨h1, by omega, Or.inr ?_⟩
    have h8 : (cap - 1) * size + size = cap * size := by
      obtain ⟨c, rfl⟩ : ∃ c, cap = c + 1 := ⟨cap - 1, by omega⟩
      rw [Nat.add_mul]; simp
    split
    · exact ⟨g, o, cur, h3, h4, h5, by omega, fun i x hi => by have := (List.getElem?_eq_some_iff.1 hi).1; omega⟩
    · refine ⟨g, o + size, cur, by rw [h3]; simp [Addr.add_lit], h4, h5, by omega, fun i y hi k u hu => ?_⟩
      have := h7 (i + 1) y (by simpa using hi) k u hu
      rw [Nat.add_mul] at this
      rwa [show o + size + i * size + k = o + (i * size + 1 * size) + k by omega]
theorem TkAt.take_ {m : Nat} {l' : List α} (h : TkAt cells size e w B A n cap l) (hm : m ≤ n) (hl : l.take m = l') : TkAt cells size e w B A m cap l' := by
  subst hl
  obtain ⟨h1, h2, h3⟩ := h
  refine ⟨by rw [List.length_take]; omega, by omega, h3.imp id fun ⟨g, o, cur, a1, a2, a3, a4, a5⟩ => ⟨g, o, cur, a1, a2, a3, a4, fun i x hi k u hu => ?_⟩⟩
  have hi2 : i < m := by have := (List.getElem?_eq_some_iff.1 hi).1; simp at this; omega
  rw [List.getElem?_take_of_lt hi2] at hi
  exact a5 i x hi k u hu
theorem TkAt.own {base : Nat} {v : Value} (hs : ∀ x ∈ l, (cells x).length = size) (h : w.ownsRow base e size v l.length (l.flatMap cells)) (hB : B ≤ base) : ∃ A cap, v = .slice A l.length cap ∧ (∀ a, A = some a → base ≤ a.block) ∧ TkAt cells size e w B A l.length cap l := by
  obtain ⟨-, ⟨h2, h3⟩ | ⟨g, cp, cur, hv, hg, hh, hn, hc, hsz, ht⟩⟩ := h
  · refine ⟨none, 0, by rw [h2, h3], (fun a e => by cases e), rfl, by omega, Or.inl ⟨rfl, rfl⟩⟩
  · refine ⟨some ⟨g, 0, none⟩, cp, hv, (fun a e => by injection e with e; rw [← e]; exact hg), rfl, hn, Or.inr ⟨g, 0, cur, rfl, by omega, hh, by simp; omega, fun i x hi k u hu => ?_⟩⟩
    have h2 := flat_get l hs i x hi k u hu
    rw [← ht, List.getElem?_take] at h2
    split at h2
    · simpa using h2
    · cases h2
theorem TkAt.room {g o : Nat} (hs : ∀ x, (cells x).length = size) (h : TkAt cells size e w B (some ⟨g, o, none⟩) n cap l) (hr : n + 1 ≤ cap) (y : α) : TkAt cells size e (w.setCells g (o + n * size) (cells y)) B (some ⟨g, o, none⟩) (n + 1) cap (l ++ [y]) := by
  obtain ⟨h1, h2, ⟨h3, h4⟩ | ⟨g', o', cur, h3, h4, h5, h6, h7⟩⟩ := h
  · cases h3
  · injection h3 with h3
    injection h3 with e1 e2
    subst e1 e2
    obtain ⟨cs', b1, b2, b3, b4⟩ := blk_sc (cells y) (o + n * size) w cur h5
    have hm : (n + 1) * size ≤ cap * size := Nat.mul_le_mul_right _ hr
    rw [Nat.add_mul] at hm
    refine ⟨by simp [h1], hr, Or.inr ⟨g, o, cs', rfl, h4, b1, by omega, fun i x hi k u hu => ?_⟩⟩
    have hk : k < size := by rw [← hs x]; exact (List.getElem?_eq_some_iff.1 hu).1
    by_cases hlt : i < n
    · rw [List.getElem?_append_left (by omega)] at hi
      have hm2 : (i + 1) * size ≤ n * size := Nat.mul_le_mul_right _ (by omega)
      rw [Nat.add_mul] at hm2
      rw [b3 _ (by omega)]
      exact h7 i x hi k u hu
    · have hi2 := (List.getElem?_eq_some_iff.1 hi).1
      have en : i = n := by simp at hi2; omega
      subst en
      rw [← h1] at hi
      simp at hi
      subst hi
      exact b4 k u hu (by omega)
end
theorem step_push2 {P : Program} {ops : Array Oper} {o : Oper} {a : Act} {w : World} {K : Act → World → Prop} {Q : Exit → Act → World → Prop} {E : Prop} {α : Type} {cells : α → List Value}
    (hg : o.guard = none) (s x : Operand) (t : TypeId) (hop : o.op = Op.call { callee := Callee.builtin Builtin.append, args := #[s, x], argTypes := #[t, t] })
    (e : TypeId) (i : TypeInfo) (z : Value) (size bytes : Nat) (h1 : P.underlying t = some (.slice e)) (h2 : P.info? e = some i) (h3 : i.zero = some z) (h4 : i.size = size) (h5 : i.bytes = bytes) (h6 : z.cells.size = size) (h7 : 0 < size)
    (hlen : ∀ x, (cells x).length = size) (h1c : ∀ x, ∀ u ∈ cells x, u.oneCell' = true)
    (B : Nat) (A : Option Addr) (n cap : Nat) (l : List α) (hs : a.eval s = .slice A n cap) (hT : TkAt cells size e w B A n cap l) (hB : B ≤ w.heap.size)
    (y : α) (ad : Addr) (c : Nat) (hx : a.eval x = .slice (some ad) 1 c) (hc : ∀ j u, (cells y)[j]? = some u → w.cell? (ad.add j) = some u)
    (b1 : n + 1 ≤ maxLen) (b2 : (n + 1) * bytes ≤ 140737488355328)
    (hK : ∀ A' cap' w', TkAt cells size e w' B A' (n + 1) cap' (l ++ [y]) → Kept w w' (fun b => ∃ a, A = some a ∧ b = a.block) → ((A' = A ∧ cap' = cap) ∨ ∃ a, A' = some a ∧ w.heap.size ≤ a.block) → TkAt cells size e w' B A n cap l → K (a.put o.dst (.slice A' (n + 1) cap')) w') :
    if Region.wanted o (yielded ops a.tmps) = true then Oper.wp P o a w K Q else E := by
  have hl1 : (l.flatMap cells).length = n * size := by rw [flat_len l (fun x _ => hlen x), hT.1]
  have hgrow : cap < n + 1 → (if Region.wanted o (yielded ops a.tmps) = true then Oper.wp P o a w K Q else E) := fun hf => by
    refine step_append_grows hg s x t hop e i z size bytes h1 h2 h3 h4 h5 h6 h7 A n cap (l.flatMap cells) hs hT.nil_ hl1 (fun b ea j u hu => ?_) ad 1 c (cells y) hx (by rw [hlen, Nat.one_mul]) hc (h1c y) hf b1 b2 (fun v' w' hown hgr => ?_)
    · subst ea
      obtain ⟨g, o', cur, rfl, hgB, hcur, hfit, hat⟩ := hT.some_
      rw [Addr.add_lit, blk_cell hcur]
      have hj : j < n * size := by rw [← hl1]; exact (List.getElem?_eq_some_iff.1 hu).1
      have hd : j = j / size * size + j % size := by rw [Nat.mul_comm]; exact (Nat.div_add_mod j size).symm
      have hjd : j / size < n := Nat.div_lt_of_lt_mul (by rwa [Nat.mul_comm] at hj)
      have hxl : l[j / size]? = some (l[j / size]'(by rw [hT.1]; exact hjd)) := List.getElem?_eq_getElem _
      generalize l[j / size]'(by rw [hT.1]; exact hjd) = xl at hxl
      have hkl : j % size < (cells xl).length := by rw [hlen]; exact Nat.mod_lt _ h7
      have h8 := flat_get l (fun x _ => hlen x) _ xl hxl (j % size) _ (List.getElem?_eq_getElem hkl)
      rw [← hd, hu] at h8
      have := hat _ xl hxl (j % size) _ (List.getElem?_eq_getElem hkl)
      rw [Nat.add_assoc, ← hd] at this
      rw [this, ← h8]
    · have hb : Below w.heap.size w w' := (Below.refl _ _).grown hgr (Nat.le_refl _) (fun k hk => by cases hk)
      have ho : w'.ownsRow w.heap.size e size v' (l ++ [y]).length ((l ++ [y]).flatMap cells) := by simpa [hT.1] using hown
      obtain ⟨A', cap', rfl, hfr, ht⟩ := TkAt.own (fun x _ => hlen x) ho hB
      have hl : (l ++ [y]).length = n + 1 := by simp [hT.1]
      rw [hl] at ht ⊢
      refine hK A' cap' w' ht (Kept.of_below hb) (Or.inr ?_) (hT.below hb)
      cases A' with
      | none => have := ht.none_; omega
      | some a => exact ⟨a, rfl, hfr a rfl⟩
  cases A with
  | none => exact hgrow (by have := hT.none_; omega)
  | some ad0 =>
    by_cases hr : n + 1 ≤ cap
    · obtain ⟨g, o', cur, rfl, hgB, hcur, hfit, hat⟩ := hT.some_
      have hm : (n + 1) * size ≤ cap * size := Nat.mul_le_mul_right _ hr
      rw [Nat.add_mul] at hm
      refine step_append_room hg s x t hop e i size h1 h2 h4 g o' n cap hs ad 1 c (cells y) hx (by rw [hlen, Nat.one_mul]) hc (h1c y) hr (fun j hj => ?_) (hK _ _ _ (hT.room hlen hr y) ((kept_sc g _ _ w).mono fun b hb => ⟨_, rfl, hb⟩) (Or.inl ⟨rfl, rfl⟩) ((hT.room hlen hr y).take_ (Nat.le_succ _) (by rw [List.take_left' hT.1])))
      rw [hlen] at hj
      have hlt : o' + n * size + j < cur.size := by omega
      exact ⟨by rw [blk_cell hcur, Array.getElem?_eq_getElem hlt]; rfl, blk_frozen hcur _⟩
    · exact hgrow (by omega)
theorem step_push {P : Program} {ops : Array Oper} {o : Oper} {a : Act} {w : World} {K : Act → World → Prop} {Q : Exit → Act → World → Prop} {E : Prop} {α : Type} {cells : α → List Value}
    (hg : o.guard = none) (s x : Operand) (t : TypeId) (hop : o.op = Op.call { callee := Callee.builtin Builtin.append, args := #[s, x], argTypes := #[t, t] })
    (e : TypeId) (i : TypeInfo) (z : Value) (size bytes : Nat) (h1 : P.underlying t = some (.slice e)) (h2 : P.info? e = some i) (h3 : i.zero = some z) (h4 : i.size = size) (h5 : i.bytes = bytes) (h6 : z.cells.size = size) (h7 : 0 < size)
    (hlen : ∀ x, (cells x).length = size) (h1c : ∀ x, ∀ u ∈ cells x, u.oneCell' = true)
    (B : Nat) (A : Option Addr) (n cap : Nat) (l : List α) (hs : a.eval s = .slice A n cap) (hT : TkAt cells size e w B A n cap l) (hB : B ≤ w.heap.size)
    (y : α) (ad : Addr) (c : Nat) (hx : a.eval x = .slice (some ad) 1 c) (hc : ∀ j u, (cells y)[j]? = some u → w.cell? (ad.add j) = some u)
    (b1 : n + 1 ≤ maxLen) (b2 : (n + 1) * bytes ≤ 140737488355328)
    (hK : ∀ A' cap' w', TkAt cells size e w' B A' (n + 1) cap' (l ++ [y]) → Kept w w' (fun b => ∃ a, A = some a ∧ b = a.block) → FromA w A A' → K (a.put o.dst (.slice A' (n + 1) cap')) w') :
    if Region.wanted o (yielded ops a.tmps) = true then Oper.wp P o a w K Q else E := by
  refine step_push2 hg s x t hop e i z size bytes h1 h2 h3 h4 h5 h6 h7 hlen h1c B A n cap l hs hT hB y ad c hx hc b1 b2 (fun A' cap' w' g1 g2 g3 _ => hK A' cap' w' g1 g2 (fun a ea => ?_))
  rcases g3 with ⟨rfl, -⟩ | ⟨a', e1, h⟩
  · exact Or.inl ⟨a, ea, rfl⟩
  · rw [e1] at ea; injection ea with ea; subst ea; exact Or.inr h
theorem wpList_push {P : Program} {ops : Array Oper} {rest : List Oper} {o : Oper} {a : Act} {w : World} {Q : Exit → Act → World → Prop} {α : Type} {cells : α → List Value}
    (hg : o.guard = none) (s x : Operand) (t : TypeId) (hop : o.op = Op.call { callee := Callee.builtin Builtin.append, args := #[s, x], argTypes := #[t, t] })
    (e : TypeId) (i : TypeInfo) (z : Value) (size bytes : Nat) (h1 : P.underlying t = some (.slice e)) (h2 : P.info? e = some i) (h3 : i.zero = some z) (h4 : i.size = size) (h5 : i.bytes = bytes) (h6 : z.cells.size = size) (h7 : 0 < size)
    (hlen : ∀ x, (cells x).length = size) (h1c : ∀ x, ∀ u ∈ cells x, u.oneCell' = true)
    (B : Nat) (A : Option Addr) (n cap : Nat) (l : List α) (hs : a.eval s = .slice A n cap) (hT : TkAt cells size e w B A n cap l) (hB : B ≤ w.heap.size)
    (y : α) (ad : Addr) (c : Nat) (hx : a.eval x = .slice (some ad) 1 c) (hc : ∀ j u, (cells y)[j]? = some u → w.cell? (ad.add j) = some u)
    (b1 : n + 1 ≤ maxLen) (b2 : (n + 1) * bytes ≤ 140737488355328)
    (hK : ∀ A' cap' w', TkAt cells size e w' B A' (n + 1) cap' (l ++ [y]) → Kept w w' (fun b => ∃ a, A = some a ∧ b = a.block) → FromA w A A' → wpList P ops Q rest (a.put o.dst (.slice A' (n + 1) cap')) w') :
    wpList P ops Q (o :: rest) a w := by
  refine wpList_plain hg fun K hK' => ?_
  have h := step_push (P := P) (ops := #[]) (w := w) (K := K) (Q := Q) (E := True) hg s x t hop e i z size bytes h1 h2 h3 h4 h5 h6 h7 hlen h1c B A n cap l hs hT hB y ad c hx hc b1 b2 (fun A' cap' w' g1 g2 g3 => hK' _ _ (hK A' cap' w' g1 g2 g3))
  have hw : Region.wanted o (yielded #[] a.tmps) = true := by simp [Region.wanted, hg]
  rw [if_pos hw] at h
  exact h
theorem wpList_push2 {P : Program} {ops : Array Oper} {rest : List Oper} {o : Oper} {a : Act} {w : World} {Q : Exit → Act → World → Prop} {α : Type} {cells : α → List Value}
    (hg : o.guard = none) (s x : Operand) (t : TypeId) (hop : o.op = Op.call { callee := Callee.builtin Builtin.append, args := #[s, x], argTypes := #[t, t] })
    (e : TypeId) (i : TypeInfo) (z : Value) (size bytes : Nat) (h1 : P.underlying t = some (.slice e)) (h2 : P.info? e = some i) (h3 : i.zero = some z) (h4 : i.size = size) (h5 : i.bytes = bytes) (h6 : z.cells.size = size) (h7 : 0 < size)
    (hlen : ∀ x, (cells x).length = size) (h1c : ∀ x, ∀ u ∈ cells x, u.oneCell' = true)
    (B : Nat) (A : Option Addr) (n cap : Nat) (l : List α) (hs : a.eval s = .slice A n cap) (hT : TkAt cells size e w B A n cap l) (hB : B ≤ w.heap.size)
    (y : α) (ad : Addr) (c : Nat) (hx : a.eval x = .slice (some ad) 1 c) (hc : ∀ j u, (cells y)[j]? = some u → w.cell? (ad.add j) = some u)
    (b1 : n + 1 ≤ maxLen) (b2 : (n + 1) * bytes ≤ 140737488355328)
    (hK : ∀ A' cap' w', TkAt cells size e w' B A' (n + 1) cap' (l ++ [y]) → Kept w w' (fun b => ∃ a, A = some a ∧ b = a.block) → ((A' = A ∧ cap' = cap) ∨ ∃ a, A' = some a ∧ w.heap.size ≤ a.block) → TkAt cells size e w' B A n cap l → wpList P ops Q rest (a.put o.dst (.slice A' (n + 1) cap')) w') :
    wpList P ops Q (o :: rest) a w := by
  refine wpList_plain hg fun K hK' => ?_
  have h := step_push2 (P := P) (ops := #[]) (w := w) (K := K) (Q := Q) (E := True) hg s x t hop e i z size bytes h1 h2 h3 h4 h5 h6 h7 hlen h1c B A n cap l hs hT hB y ad c hx hc b1 b2 (fun A' cap' w' g1 g2 g3 g4 => hK' _ _ (hK A' cap' w' g1 g2 g3 g4))
  have hw : Region.wanted o (yielded #[] a.tmps) = true := by simp [Region.wanted, hg]
  rw [if_pos hw] at h
  exact h
end Go.Proofs.YtcjmppjppmiggaaGreat

/- append of many elements to a slice that is cut at its head and appended to. Over any program. -/
namespace Go.Proofs.YtcjmppjppmiggaaGreat
open Go.RowKit
set_option linter.unusedVariables false
set_option linter.unusedSimpArgs false

theorem TkAt.roomN {α : Type} {cells : α → List Value} {size : Nat} {e : TypeId} {w : World} {B n cap : Nat} {l : List α} {g o : Nat} (hs : ∀ x, (cells x).length = size) (h : TkAt cells size e w B (some ⟨g, o, none⟩) n cap l) (ys : List α) (hr : n + ys.length ≤ cap) :
    TkAt cells size e (w.setCells g (o + n * size) (ys.flatMap cells)) B (some ⟨g, o, none⟩) (n + ys.length) cap (l ++ ys) := by
  obtain ⟨h1, h2, ⟨h3, h4⟩ | ⟨g', o', cur, h3, h4, h5, h6, h7⟩⟩ := h
  · cases h3
  · injection h3 with h3
    injection h3 with e1 e2
    subst e1 e2
    obtain ⟨cs', b1, b2, b3, b4⟩ := blk_sc (ys.flatMap cells) (o + n * size) w cur h5
    have hm : (n + ys.length) * size ≤ cap * size := Nat.mul_le_mul_right _ hr
    rw [Nat.add_mul] at hm
    refine ⟨by simp [h1], hr, Or.inr ⟨g, o, cs', rfl, h4, b1, by omega, fun i x hi k u hu => ?_⟩⟩
    have hk : k < size := by rw [← hs x]; exact (List.getElem?_eq_some_iff.1 hu).1
    by_cases hlt : i < n
    · rw [List.getElem?_append_left (by omega)] at hi
      have hm2 : (i + 1) * size ≤ n * size := Nat.mul_le_mul_right _ (by omega)
      rw [Nat.add_mul] at hm2
      rw [b3 _ (by omega)]
      exact h7 i x hi k u hu
    · rw [List.getElem?_append_right (by omega), h1] at hi
      have hi2 := (List.getElem?_eq_some_iff.1 hi).1
      have hg := flat_get ys (fun x _ => hs x) (i - n) x hi k u hu
      have hm3 : (i - n + 1) * size ≤ ys.length * size := Nat.mul_le_mul_right _ (by omega)
      rw [Nat.add_mul] at hm3
      have hin : i * size = n * size + (i - n) * size := by rw [← Nat.add_mul]; congr 1; omega
      have := b4 _ u hg (by omega)
      rwa [show o + n * size + ((i - n) * size + k) = o + i * size + k by omega] at this
theorem wpList_pushN {P : Program} {ops : Array Oper} {rest : List Oper} {o : Oper} {a : Act} {w : World} {Q : Exit → Act → World → Prop} {α : Type} {cells : α → List Value}
    (hg : o.guard = none) (s x : Operand) (t : TypeId) (hop : o.op = Op.call { callee := Callee.builtin Builtin.append, args := #[s, x], argTypes := #[t, t] })
    (e : TypeId) (i : TypeInfo) (z : Value) (size bytes : Nat) (h1 : P.underlying t = some (.slice e)) (h2 : P.info? e = some i) (h3 : i.zero = some z) (h4 : i.size = size) (h5 : i.bytes = bytes) (h6 : z.cells.size = size) (h7 : 0 < size)
    (hlen : ∀ x, (cells x).length = size) (h1c : ∀ x, ∀ u ∈ cells x, u.oneCell' = true)
    (B : Nat) (A : Option Addr) (n cap : Nat) (l : List α) (hs : a.eval s = .slice A n cap) (hT : TkAt cells size e w B A n cap l) (hB : B ≤ w.heap.size)
    (ys : List α) (ad : Addr) (c : Nat) (hx : a.eval x = .slice (some ad) ys.length c) (hc : ∀ j u, (ys.flatMap cells)[j]? = some u → w.cell? (ad.add j) = some u)
    (b1 : n + ys.length ≤ maxLen) (b2 : (n + ys.length) * bytes ≤ 140737488355328)
    (hK : ∀ A' cap' w', TkAt cells size e w' B A' (n + ys.length) cap' (l ++ ys) → Kept w w' (fun b => ∃ a, A = some a ∧ b = a.block) → FromA w A A' → wpList P ops Q rest (a.put o.dst (.slice A' (n + ys.length) cap')) w') :
    wpList P ops Q (o :: rest) a w := by
  have hl1 : (l.flatMap cells).length = n * size := by rw [flat_len l (fun x _ => hlen x), hT.1]
  have hy1 : (ys.flatMap cells).length = ys.length * size := flat_len ys (fun x _ => hlen x)
  have hyc : ∀ u ∈ ys.flatMap cells, u.oneCell' = true := fun u hu => by
    obtain ⟨y, -, hu2⟩ := List.mem_flatMap.1 hu; exact h1c y u hu2
  cases A with
  | none =>
    obtain ⟨hn0, hc0⟩ := hT.none_
    subst hn0 hc0
    have hl0 : l = [] := List.eq_nil_of_length_eq_zero hT.1
    subst hl0
    refine wpList_append_own w hg s x t hop w.heap.size e i z size bytes h1 h2 h3 h4 h5 h6 h7 (.slice none 0 0) 0 [] hs (World.ownsRow_nil _ _ _ _) ad ys.length c (ys.flatMap cells) hx hy1 hc hyc b1 b2 (Nat.le_refl _) (fun v' w' hown hgr _ => ?_)
    have hb : Below w.heap.size w w' := (Below.refl _ _).grown hgr (Nat.le_refl _) (fun k hk => by cases hk)
    have ho : w'.ownsRow w.heap.size e size v' ys.length (ys.flatMap cells) := by simpa using hown
    obtain ⟨A', cap', rfl, hfr, ht⟩ := TkAt.own (fun x _ => hlen x) ho hB
    have := hK A' cap' w' (by simpa using ht) (Kept.of_below hb) (fun a ea => Or.inr (hfr a ea))
    simpa using this
  | some ad0 =>
  refine wpList_plain hg fun K hK' => ?_
  suffices h : (if Region.wanted o (yielded (#[] : Array Oper) a.tmps) = true then Oper.wp P o a w K Q else True) by
    have hw : Region.wanted o (yielded #[] a.tmps) = true := by simp [Region.wanted, hg]
    rw [if_pos hw] at h
    exact h
  have hgrow : cap < n + ys.length → (if Region.wanted o (yielded (#[] : Array Oper) a.tmps) = true then Oper.wp P o a w K Q else True) := fun hf => by
    refine step_append_grows hg s x t hop e i z size bytes h1 h2 h3 h4 h5 h6 h7 (some ad0) n cap (l.flatMap cells) hs hT.nil_ hl1 (fun b ea j u hu => ?_) ad ys.length c (ys.flatMap cells) hx hy1 hc hyc hf b1 b2 (fun v' w' hown hgr => ?_)
    · injection ea with ea
      subst ea
      obtain ⟨g, o', cur, rfl, hgB, hcur, hfit, hat⟩ := hT.some_
      rw [Addr.add_lit, blk_cell hcur]
      have hj : j < n * size := by rw [← hl1]; exact (List.getElem?_eq_some_iff.1 hu).1
      have hd : j = j / size * size + j % size := by rw [Nat.mul_comm]; exact (Nat.div_add_mod j size).symm
      have hjd : j / size < n := Nat.div_lt_of_lt_mul (by rwa [Nat.mul_comm] at hj)
      have hxl : l[j / size]? = some (l[j / size]'(by rw [hT.1]; exact hjd)) := List.getElem?_eq_getElem _
      generalize l[j / size]'(by rw [hT.1]; exact hjd) = xl at hxl
      have hkl : j % size < (cells xl).length := by rw [hlen]; exact Nat.mod_lt _ h7
      have h8 := flat_get l (fun x _ => hlen x) _ xl hxl (j % size) _ (List.getElem?_eq_getElem hkl)
      rw [← hd, hu] at h8
      have := hat _ xl hxl (j % size) _ (List.getElem?_eq_getElem hkl)
      rw [Nat.add_assoc, ← hd] at this
      rw [this, ← h8]
    · have hb : Below w.heap.size w w' := (Below.refl _ _).grown hgr (Nat.le_refl _) (fun k hk => by cases hk)
      have hl : (l ++ ys).length = n + ys.length := by simp [hT.1]
      have ho : w'.ownsRow w.heap.size e size v' (l ++ ys).length ((l ++ ys).flatMap cells) := by rw [hl, List.flatMap_append]; exact hown
      obtain ⟨A', cap', rfl, hfr, ht⟩ := TkAt.own (fun x _ => hlen x) ho hB
      rw [hl] at ht ⊢
      exact hK' _ _ (hK A' cap' w' ht (Kept.of_below hb) (fun a ea => Or.inr (hfr a ea)))
  by_cases hr : n + ys.length ≤ cap
  · obtain ⟨g, o', cur, rfl, hgB, hcur, hfit, hat⟩ := hT.some_
    have hm : (n + ys.length) * size ≤ cap * size := Nat.mul_le_mul_right _ hr
    rw [Nat.add_mul] at hm
    refine step_append_room hg s x t hop e i size h1 h2 h4 g o' n cap hs ad ys.length c (ys.flatMap cells) hx hy1 hc hyc hr (fun j hj => ?_) (hK' _ _ (hK _ _ _ (hT.roomN hlen ys hr) ((kept_sc g _ _ w).mono fun b hb => ⟨_, rfl, hb⟩) (FromA.refl _ _)))
    rw [hy1] at hj
    have hlt : o' + n * size + j < cur.size := by omega
    exact ⟨by rw [blk_cell hcur, Array.getElem?_eq_getElem hlt]; rfl, blk_frozen hcur _⟩
  · exact hgrow (by omega)
theorem wpList_push0 {P : Program} {ops : Array Oper} {rest : List Oper} {o : Oper} {a : Act} {w : World} {Q : Exit → Act → World → Prop} {α : Type} {cells : α → List Value}
    (hg : o.guard = none) (s x : Operand) (t : TypeId) (hop : o.op = Op.call { callee := Callee.builtin Builtin.append, args := #[s, x], argTypes := #[t, t] })
    (e : TypeId) (i : TypeInfo) (size : Nat) (h1 : P.underlying t = some (.slice e)) (h2 : P.info? e = some i)
    (B : Nat) (A : Option Addr) (n cap : Nat) (l : List α) (hs : a.eval s = .slice A n cap) (hT : TkAt cells size e w B A n cap l) (hx : a.eval x = .slice none 0 0)
    (hK : wpList P ops Q rest (a.put o.dst (.slice A n cap)) w) : wpList P ops Q (o :: rest) a w := by
  refine wpList_plain hg fun K hK' => ?_
  have hle := hT.le
  have hrun : (Builtin.append_ #[t, t] o.type #[.slice A n cap, .slice none 0 0]).run P w = .ok (.slice A n cap) w := by
    cases A with
    | none =>
      obtain ⟨rfl, rfl⟩ := hT.none_
      simp [Builtin.append_, run_underlying h1, sizeOf, typeInfo, h2, Builtin.lenOf, Builtin.firstCells]
    | some ad => simp [Builtin.append_, run_underlying h1, sizeOf, typeInfo, h2, Builtin.lenOf, Builtin.firstCells, hle, storeCells]
  unfold Oper.wp
  simp [execOp, hop, resolve, invoke, builtin, hs, hx, hrun, Result.andThen]
  exact hK' _ _ hK
end Go.Proofs.YtcjmppjppmiggaaGreat

/- A region that draws its order: reads in any order, and an append and a store behind them, each in worlds of one class. Over any program. -/
namespace Go.Proofs.YtcjmppjppmiggaaGreat
open Go.RowKit
set_option linter.unusedVariables false
set_option linter.unusedSimpArgs false

structure KX (w : World) (I : Nat → Prop) where
  X : World
  h : Kept w X I
instance kx_some (w : World) (I : Nat → Prop) : Nonempty (KX w I) := ⟨⟨w, Kept.refl _ _⟩⟩
def rdB : Op → Bool
  | .move _ | .assign _ | .load .. | .nilCheck _ | .fieldAddr .. | .indexAddr .. | .binOp .. | .build .. | .extract .. | .field .. | .index .. | .lookup .. | .unOp .. | .slice .. | .convert .. | .pick .. => true
  | _ => false
theorem vrun {P : Program} {s : Sem Value} {w w' : World} {n : Next} (h : (do pure (Next.value (← s)) : Sem Next).run P w = .ok n w') : ∃ u, n = .value u := by
  simp only [Sem.run_bind] at h
  cases hs : s.run P w with
  | ok u w1 =>
    rw [hs] at h
    simp only [Result.andThen, Sem.run_pure] at h
    injection h with h1 h2
    exact ⟨u, h1.symm⟩
  | halt x w1 =>
    rw [hs] at h
    simp only [Result.andThen] at h
    cases h
theorem bval {P : Program} {α : Type} {x : Sem α} {k : α → Sem Next} (hk : ∀ b w w' n, (k b).run P w = .ok n w' → ∃ u, n = .value u) {w w' : World} {n : Next} (h : (x >>= k).run P w = .ok n w') : ∃ u, n = .value u := by
  simp only [Sem.run_bind] at h
  cases hs : x.run P w with
  | ok u w1 => rw [hs] at h; exact hk _ _ _ _ h
  | halt x w1 => rw [hs] at h; cases h
theorem rd_value {P : Program} {ρ : Operand → Value} {o : Oper} {w w' : World} {n : Next} (hr : rdB o.op = true) (h : (execOp ρ o).run P w = .ok n w') : (∃ u, n = .value u) := by
  obtain ⟨dst, op, ty, pos, af, gu⟩ := o
  cases op <;> simp only [rdB, Bool.false_eq_true] at hr
  case move x => simp only [execOp, Sem.run_pure] at h; injection h with h1 h2; exact ⟨_, h1.symm⟩
  case assign x => simp only [execOp, Sem.run_pure] at h; injection h with h1 h2; exact ⟨_, h1.symm⟩
  case nilCheck x =>
    simp only [execOp] at h
    split at h
    · simp [go_sem] at h
    · simp [go_sem] at h
    · simp [go_sem] at h
    · split at h
      · simp [go_sem] at h
      · refine bval (fun b w1 w2 m h2 => ?_) h
        refine bval (fun b w1 w2 m h2 => ?_) h2
        split at h2
        · refine bval (fun b w1 w2 m h2 => ?_) h2
          simp only [Sem.run_pure] at h2; injection h2 with h1 h2; exact ⟨_, h1.symm⟩
        · simp only [Sem.run_pure] at h2; injection h2 with h1 h2; exact ⟨_, h1.symm⟩
      · simp only [Sem.run_pure] at h; injection h with h1 h2; exact ⟨_, h1.symm⟩
    · simp only [Sem.run_pure] at h; injection h with h1 h2; exact ⟨_, h1.symm⟩
  case pick x y z =>
    refine bval (fun b w1 w2 m h2 => ?_) h
    simp only [Sem.run_pure] at h2; injection h2 with h1 h2; exact ⟨_, h1.symm⟩
  all_goals exact vrun h
theorem YieldsIn.toIf {P : Program} {ops : Array Oper} {S : World → Prop} {o : Oper} {v : Value} {a : Act} (hr : rdB o.op = true) (hy : YieldsIn P ops S o v a) : YieldsIf P ops S o v a := by
  rcases hy with ⟨hw, h⟩ | h
  · refine Or.inl ⟨hw, fun w hS => ?_⟩
    have h1 := h w hS
    unfold Oper.quietAt at h1
    cases hrun : (execOp a.eval o).run P w with
    | ok n w' =>
      obtain ⟨u, rfl⟩ := rd_value hr hrun
      rw [hrun] at h1
      obtain ⟨rfl, rfl⟩ := h1
      rfl
    | halt x w' => rw [hrun] at h1; exact h1.elim
  · exact Or.inr h
section
variable {P : Program} {ops : Array Oper} {Q : Exit → Act → World → Prop} {md : Region.Mode} {S : World → Prop} {z : Nat}
def wpAnyZ (P : Program) (md : Region.Mode) (ops : Array Oper) (Q : Exit → Act → World → Prop) (S : World → Prop) (z : Nat) : Nat → Array Bool → Act → World → Prop
  | 0, listed, a, w => Region.ready md ops listed = [] ∧ Q .normal a w
  | fuel + 1, listed, a, w =>
    (Region.ready md ops listed = [] → Q .normal a w) ∧
    ∀ i ∈ Region.ready md ops listed, wpOp P ops Q i (fun a' w' => (i ≠ z → S w') ∧ wpAnyZ P md ops Q S z fuel (listed.setIfInBounds i true) a' w') a w
theorem wpAny_of_Z : ∀ (fuel : Nat) (listed : Array Bool) (a : Act) (w : World), wpAnyZ P md ops Q S z fuel listed a w → wpAny P md ops Q fuel listed a w
  | 0, _, _, _, h => h
  | fuel + 1, _, _, _, h => ⟨h.1, fun i hi => wpOp_mono (fun a' w' h' => wpAny_of_Z fuel _ a' w' h'.2) (h.2 i hi)⟩
theorem Z_first {i : Nat} {oi : Oper} {v : Value} (hi : ops[i]? = some oi) (hiz : i < z) (hs : Region.sinkB md ops z = true) (hc : Region.chainB md ops z = true) (hn : z < ops.size) (hzl : z + 1 = ops.size)
    (hsel : ∀ (j : Nat) (o : Oper) cs b, ops[j]? = some o → o.op ≠ .select cs b) (hQ : ∀ c a w, Q (.panic c) (a.put oi.dst v) w → Q (.panic c) a w) :
    ∀ (fuel : Nat) (listed : Array Bool) (a : Act) (w : World), HeadInv md ops z listed →
      (∀ j oj, ops[j]? = some oj → j ≠ i → listed.getD j true = false → (∀ e ∈ oj.after, Region.binds md e = true → e.on ≠ i) → oi.apart ops oj = true) →
      i ∈ Region.ready md ops listed → YieldsIf P ops S oi v a → S w →
      wpAnyZ P md ops Q S z fuel (listed.setIfInBounds i true) (a.put oi.dst v) w → wpAnyZ P md ops Q S z (fuel + 1) listed a w := by
  intro fuel
  induction fuel with
  | zero =>
    intro listed a w inv _ hr hy hS H
    refine ⟨fun h => (by rw [h] at hr; cases hr), fun j hj => ?_⟩
    by_cases hji : j = i
    · subst hji; exact hy.wpOp hi hS ⟨fun _ => hS, H⟩
    · have := ready_mono hj hji
      rw [H.1] at this
      cases this
  | succ fuel ih =>
    intro listed a w inv hfree hr hy hS H
    refine ⟨fun h => (by rw [h] at hr; cases hr), fun j hj => ?_⟩
    by_cases hji : j = i
    · subst hji; exact hy.wpOp hi hS ⟨fun _ => hS, H⟩
    · have hun := (mem_ready.1 hr).1
      have hjz : j ≠ z := fun e => tail_waits hs hc hn inv _ i rfl hiz hun j (by omega) hj
      have h1 := H.2 j (ready_mono hj hji)
      obtain ⟨hjun, oj, hoj, hall⟩ := mem_ready.1 hj
      have hjl : j < z := by have := (Array.getElem?_eq_some_iff.1 hoj).1; omega
      have hnot : ∀ e ∈ oj.after, Region.binds md e = true → e.on ≠ i := fun e he hb heq => by
        have h1 := hall e he hb
        rw [heq, getD_both hun] at h1
        exact Bool.false_ne_true h1
      have h2 := wpOp_putIf hoj (hfree j oj hoj hji hjun hnot) (fun cs b => hsel i oi cs b hi) (fun cs b => hsel j oj cs b hoj) hQ hy h1
      have hfree' : ∀ k ok, ops[k]? = some ok → k ≠ i → (listed.setIfInBounds j true).getD k true = false →
          (∀ e ∈ ok.after, Region.binds md e = true → e.on ≠ i) → oi.apart ops ok = true := fun k ok hk hki hun hno => by
        refine hfree k ok hk hki ?_ hno
        by_cases hjk : j = k
        · subst hjk; exact hjun
        · rw [getD_set_ne true hjk] at hun; exact hun
      refine wpOp_mono (fun a' w' h3 => ⟨h3.2.1, ih (listed.setIfInBounds j true) a' w' (inv.set hj hjl) hfree' (ready_mono hr (Ne.symm hji)) h3.1 (h3.2.1 hjz) ?_⟩) h2
      rw [Array.setIfInBounds_comm _ _ hji]
      exact h3.2.2
def tailC (P : Program) (ops : Array Oper) (Q : Exit → Act → World → Prop) (S : World → Prop) : List Oper → Act → World → Prop
  | [], a, w => Q .normal a w
  | o :: rest, a, w =>
    if Region.wanted o (yielded ops a.tmps) = true then o.wp P a w (fun a' w' => (rest ≠ [] → S w') ∧ tailC P ops Q S rest a' w') Q ∨ (o.asks P a w ∧ LetsOut Q) else (rest ≠ [] → S w) ∧ tailC P ops Q S rest (a.put o.dst undef) w
def QT (Q : Exit → Act → World → Prop) (K : Act → World → Prop) : Exit → Act → World → Prop
  | .normal, a, w => K a w
  | e, a, w => Q e a w
theorem QT.normal {K : Act → World → Prop} {a : Act} {w : World} (h : K a w) : QT Q K .normal a w := h
theorem wp_QT {o : Oper} {K K2 : Act → World → Prop} {a : Act} {w : World} (h : o.wp P a w K (QT Q K2)) : o.wp P a w K Q := by
  unfold Oper.wp at *
  generalize (execOp a.eval o).run P w = r at *
  cases r with
  | ok n w' =>
    cases n <;> simp only [Oper.upon] at h ⊢
    case enter f args => exact h.mono fun e w'' he => by cases e <;> exact he
    all_goals exact h
  | halt x w' => cases x <;> simp only [Oper.upon] at h ⊢ <;> exact h
theorem tailC_one {o : Oper} {rest : List Oper} {a : Act} {w : World} (hg : o.guard = none) (h : wpList P ops (QT Q fun a' w' => (rest ≠ [] → S w') ∧ tailC P ops Q S rest a' w') [o] a w) : tailC P ops Q S (o :: rest) a w := by
  have hw : Region.wanted o (yielded ops a.tmps) = true := by simp [Region.wanted, hg]
  simp only [wpList, hw, if_true] at h
  simp only [tailC, hw, if_true]
  rcases h with h | ⟨h1, h2⟩
  · exact Or.inl (wp_QT h)
  · exact Or.inr ⟨h1, by obtain ⟨a, w, h⟩ := h2; exact ⟨a, w, h⟩⟩
theorem tailC_nil {a : Act} {w : World} (h : Q .normal a w) : tailC P ops Q S [] a w := h
theorem Z_seq : ∀ (l : List Oper) (k : Nat) (listed : Array Bool) (a : Act) (w : World), (∀ j, l[j]? = ops[k + j]?) → k + l.length = z + 1 →
    Region.seqB md ops l.length k listed = true → tailC P ops Q S l a w → wpAnyZ P md ops Q S z l.length listed a w
  | [], _, _, _, _, _, _, hB, h => ⟨by simpa [Region.seqB] using hB, h⟩
  | o :: l, k, listed, a, w, hl, hk, hB, h => by
    have h0 : ops[k]? = some o := by simpa using (hl 0).symm
    simp only [List.length_cons, Region.seqB, Bool.and_eq_true, decide_eq_true_eq] at hB
    simp only [List.length_cons] at hk
    refine ⟨fun h1 => (by rw [hB.1] at h1; cases h1), fun i hi => ?_⟩
    rw [hB.1] at hi
    have hik : i = k := by simpa using hi
    subst hik
    have hw : wpOp P ops Q i (fun a' w' => (l ≠ [] → S w') ∧ tailC P ops Q S l a' w') a w := by unfold wpOp; simp only [h0]; simpa only [tailC] using h
    exact wpOp_mono (fun a' w' h' => ⟨fun hz => h'.1 (fun e => hz (by subst e; simp at hk; omega)), Z_seq l (i + 1) _ a' w' (fun j => by have := hl (j + 1); simpa [Nat.add_assoc, Nat.add_comm 1 j] using this) (by omega) hB.2 h'.2⟩) hw
theorem Z_lex {n g : Nat} {R : Act → Prop} {w : World} (hS : S w) (hsel : Region.noSelect ops = true) (hs : Region.sinkB md ops z = true) (hc : Region.chainB md ops z = true) (hzl : z + 1 = ops.size) (hnz : n ≤ z) (hQ : ∀ c a d v w, Q (.panic c) (a.put d v) w → Q (.panic c) a w)
    (hR : ∀ (listed : Array Bool) (a : Act), Region.seqB md ops g n listed = true → R a → wpAnyZ P md ops Q S z g listed a w) :
    ∀ (l : List Oper) (k : Nat) (listed : Array Bool) (a : Act), (∀ j, j < l.length → l[j]? = ops[k + j]?) → k + l.length = n → l.all (fun o => rdB o.op) = true → HeadInv md ops z listed → Region.lexHead md ops g l.length k listed = true → wpQuiet P ops S R l a →
      wpAnyZ P md ops Q S z (l.length + g) listed a w
  | [], k, listed, a, _, hk, _, _, hB, h => by
    obtain rfl : k = n := by simpa using hk
    rw [List.length_nil, Nat.zero_add]
    exact hR listed a (by simpa [Region.lexHead] using hB) h
  | o :: l, k, listed, a, hl, hk, hrd, inv, hB, h => by
    have h0 : ops[k]? = some o := by simpa using (hl 0 (by simp)).symm
    simp only [List.length_cons, Region.lexHead, Bool.and_eq_true] at hB
    simp only [List.length_cons] at hk
    simp only [List.all_cons, Bool.and_eq_true] at hrd
    have hr : k ∈ Region.ready md ops listed := by simpa using hB.1.1
    obtain ⟨v, hy, hK⟩ := yieldsIn_of_qOp (C := S) h0 (show qOp P ops S k (wpQuiet P ops S R l) a by unfold qOp; simp only [h0]; exact h)
    have := Z_first (P := P) (Q := Q) h0 (by omega) hs hc (by omega) hzl (Region.noSelect_spec hsel) (fun c a w => hQ c a o.dst v w) (l.length + g) listed a w inv (Region.free_spec h0 hB.1.2) hr (YieldsIn.toIf hrd.1 hy) hS
      (Z_lex hS hsel hs hc hzl hnz hQ hR l (k + 1) _ _ (fun j hj => by have := hl (j + 1) (by simp; omega); simpa [Nat.add_assoc, Nat.add_comm 1 j] using this) (by omega) hrd.2 (inv.set hr (by omega)) hB.2 hK)
    rwa [show (o :: l).length + g = l.length + g + 1 by simp; omega]
end
def zTailB (l : List Oper) (n : Nat) : Bool :=
  Region.noSelect l.toArray && decide (n < l.length) && Region.sinkB .any l.toArray (l.length - 1) && Region.chainB .any l.toArray (l.length - 1) && (l.take n).all (fun o => rdB o.op) && Region.lexHead .any l.toArray (l.length - n) n 0 (Array.replicate l.length false)
theorem wp_region_reads_tail {P : Program} {id : Nat} {Q : Exit → Act → World → Prop} {a : Act} {w : World} {l : List Oper} (n : Nat) (I : Nat → Prop) (hm : P.follows .mixedOrders = true) (hB : zTailB l n = true)
    (hQ : ∀ c a d v w, Q (.panic c) (a.put d v) w → Q (.panic c) a w)
    (h : wpQuiet P l.toArray (fun w' => ∃ m : KX w I, w' = m.X) (fun b => tailC P l.toArray Q (fun w' => ∃ m : KX w I, w' = m.X) (l.drop n) b w.drew) (l.take n) a) : (Code.region id l.toArray true).wp P Q a w := by
  simp only [zTailB, Bool.and_eq_true, decide_eq_true_eq] at hB
  obtain ⟨⟨⟨⟨⟨hsel, hn⟩, hs⟩, hc⟩, hrd⟩, hx⟩ := hB
  have ht : (l.take n).length = n := by rw [List.length_take]; omega
  have hd : (l.drop n).length = l.length - n := by simp
  have hzs : l.length - 1 + 1 = l.toArray.size := by simp; omega
  refine wp_region_any hm (wpAny_of_Z _ _ _ _ (z := l.length - 1) (S := fun w' => ∃ m : KX w I, w' = m.X) ?_)
  have := Z_lex (P := P) (Q := Q) (md := .any) (S := fun w' => ∃ m : KX w I, w' = m.X) (n := n) (g := l.length - n) (w := { w with drawn := w.drawn + 1 }) ⟨⟨_, Kept.of_below (Below.refl _ w).drew⟩, rfl⟩ hsel hs hc hzs (by omega) hQ (fun listed b hB2 hb => by
      have h3 := Z_seq (P := P) (Q := Q) (md := .any) (ops := l.toArray) (S := fun w' => ∃ m : KX w I, w' = m.X) (z := l.length - 1) (l.drop n) n listed b _ (fun j => by simp [List.getElem?_drop]) (by rw [hd]; omega) (by rw [hd]; exact hB2) hb
      rwa [hd] at h3)
    (l.take n) 0 (Array.replicate l.length false) a (fun j hj => by rw [ht] at hj; simp [hj]) (by simpa using ht) hrd
    ⟨by simp, fun j q _ hl => (by rw [getD_replicate_false] at hl; cases hl), fun t _ h2 => getD_in (by simpa using h2) (getD_replicate_false _ _)⟩ (by rw [ht]; exact hx) h
  rwa [ht, show n + (l.length - n) = l.toArray.size by simp; omega, show Array.replicate l.length false = Array.replicate l.toArray.size false by simp] at this
theorem KX.in_ {w X : World} {I : Nat → Prop} (h : Kept w X I) : ∃ m : KX w I, X = m.X := ⟨⟨X, h⟩, rfl⟩
end Go.Proofs.YtcjmppjppmiggaaGreat

/- A region that draws its order: reads, then makers of new memory in any order, then a forced tail. Over any program. -/

namespace Go.Proofs.YtcjmppjppmiggaaGreat
open Go.RowKit
set_option linter.unusedVariables false
set_option linter.unusedSimpArgs false

def Makes (P : Program) (o : Oper) (a : Act) (R : Value → World → Prop) (X : World) : Prop :=
  match (execOp a.eval o).run P X with
  | .ok (.value v) X' => Below X.heap.size X X' ∧ R v X'
  | .ok (.enter f args) X' => X' = X ∧ Calls P f args X fun e X'' => ∃ v, e = .returned v ∧ Below X.heap.size X X'' ∧ R v X''
  | _ => False
section
variable {P : Program} {ops : Array Oper} {Q : Exit → Act → World → Prop} {md : Region.Mode}
theorem Makes.wpOp {o : Oper} {a : Act} {R : Value → World → Prop} {X : World} {i : Nat} {K : Act → World → Prop} (hi : ops[i]? = some o) (hg : o.guard = none) (h : Makes P o a R X)
    (hK : ∀ v X', Below X.heap.size X X' → R v X' → K (a.put o.dst v) X') : wpOp P ops Q i K a X := by
  have hw : Region.wanted o (yielded ops a.tmps) = true := by simp [Region.wanted, hg]
  unfold Go.wpOp
  simp only [hi, hw, if_true]
  refine Or.inl ?_
  unfold Makes at h
  unfold Oper.wp
  cases hr : (execOp a.eval o).run P X with
  | ok n X' =>
    rw [hr] at h
    cases n <;> simp only at h
    case value v => simp only [Oper.upon]; exact hK v X' h.1 h.2
    case enter f args =>
      obtain ⟨rfl, hc⟩ := h
      simp only [Oper.upon]
      refine hc.mono fun e w'' he => ?_
      obtain ⟨v, rfl, hb, hR⟩ := he
      exact hK v w'' hb hR
  | halt x X' => rw [hr] at h; exact h.elim
theorem Makes.put_ {o : Oper} {a : Act} {R : Value → World → Prop} {X : World} {d : Option Tmp} {v : Value} (hs : ∀ cs b, o.op ≠ .select cs b) (hl : ∀ t, d = some t → t ∉ o.looksAt ops) (h : Makes P o a R X) : Makes P o (a.put d v) R X := by
  unfold Makes at *
  rw [execOp_put (ops := ops) o hs a d v hl]
  exact h
end
structure Mk where
  j : Nat
  d : Tmp
  R : Value → World → Prop
  own : Value → Nat → Prop
def Mk.RF (m : Mk) (X : World) (v : Value) (X' : World) : Prop := m.R v X' ∧ ∀ b, m.own v b → X.heap.size ≤ b ∧ b < X'.heap.size
def MkInv (w : World) (L : List Mk) (vs : Nat → Option Value) (X : World) : Prop :=
  (∀ m ∈ L, ∀ v, vs m.j = some v → m.R v X ∧ ∀ b, m.own v b → w.heap.size ≤ b ∧ b < X.heap.size) ∧
  ∀ m ∈ L, ∀ m' ∈ L, m.j ≠ m'.j → ∀ v v', vs m.j = some v → vs m'.j = some v' → ∀ b, m.own v b → ¬ m'.own v' b
def puts (vs : Nat → Option Value) : List Mk → Act → Act
  | [], a => a
  | m :: r, a => puts vs r (match vs m.j with | some v => a.put (some m.d) v | none => a)
def upd (vs : Nat → Option Value) (j : Nat) (v : Value) : Nat → Option Value := fun i => if i = j then some v else vs i
theorem puts_same {vs vs' : Nat → Option Value} : ∀ {L : List Mk} {a : Act}, (∀ m ∈ L, vs m.j = vs' m.j) → puts vs L a = puts vs' L a
  | [], _, _ => rfl
  | m :: r, a, h => by
    simp only [puts]
    rw [h m (by simp), puts_same (fun m' hm => h m' (List.mem_cons_of_mem _ hm))]
theorem puts_put {vs : Nat → Option Value} {d : Tmp} {v : Value} : ∀ {L : List Mk} {a : Act}, (∀ m ∈ L, m.d ≠ d) → (puts vs L a).put (some d) v = puts vs L (a.put (some d) v)
  | [], _, _ => rfl
  | m :: r, a, h => by
    simp only [puts]
    rw [puts_put (fun m' hm => h m' (List.mem_cons_of_mem _ hm))]
    cases vs m.j with
    | none => rfl
    | some u =>
      simp only
      rw [Act.put_comm a u v (by intro t h1 h2; injection h1 with h1; injection h2 with h2; exact h m (by simp) (by rw [h1, h2]))]
theorem puts_upd {vs : Nat → Option Value} {v : Value} {m : Mk} : ∀ {L : List Mk} {a : Act}, (L.map Mk.j).Nodup → (L.map Mk.d).Nodup → m ∈ L → vs m.j = none → (puts vs L a).put (some m.d) v = puts (upd vs m.j v) L a
  | m0 :: r, a, hj, hd, hm, hv => by
    simp only [List.map_cons, List.nodup_cons] at hj hd
    simp only [puts]
    by_cases e : m0.j = m.j
    · have hmm : m0 = m := by
        rcases List.mem_cons.1 hm with h | h
        · exact h.symm
        · exact absurd (List.mem_map.2 ⟨m, h, e.symm⟩) hj.1
      subst hmm
      rw [hv]
      simp only [upd, if_true]
      rw [puts_put (fun m' hm' e2 => hd.1 (List.mem_map.2 ⟨m', hm', e2⟩))]
      refine puts_same fun m' hm' => ?_
      have : m'.j ≠ m0.j := fun e2 => hj.1 (List.mem_map.2 ⟨m', hm', e2⟩)
      simp [upd, this]
    · have hm' : m ∈ r := by
        rcases List.mem_cons.1 hm with h | h
        · exact absurd (by rw [h]) e
        · exact h
      rw [puts_upd hj.2 hd.2 hm' hv]
      simp [upd, e]
theorem Makes.puts_ {P : Program} {ops : Array Oper} {o : Oper} {R : Value → World → Prop} {X : World} {vs : Nat → Option Value} (hs : ∀ cs b, o.op ≠ .select cs b) : ∀ {L : List Mk} {a : Act}, (∀ m ∈ L, m.d ∉ o.looksAt ops) → Makes P o a R X → Makes P o (puts vs L a) R X
  | [], _, _, h => h
  | m :: r, a, hl, h => by
    simp only [puts]
    refine Makes.puts_ hs (fun m' hm => hl m' (List.mem_cons_of_mem _ hm)) ?_
    cases vs m.j with
    | none => exact h
    | some v => exact h.put_ hs (fun t e => by injection e with e; rw [← e]; exact hl m (by simp))
def lst (vs : Nat → Option Value) : List Mk → Array Bool → Array Bool
  | [], l => l
  | m :: r, l => lst vs r (if (vs m.j).isSome then l.setIfInBounds m.j true else l)
theorem lst_same {vs vs' : Nat → Option Value} : ∀ {L : List Mk} {l : Array Bool}, (∀ m ∈ L, (vs m.j).isSome = (vs' m.j).isSome) → lst vs L l = lst vs' L l
  | [], _, _ => rfl
  | m :: r, l, h => by
    simp only [lst]
    rw [h m (by simp), lst_same (fun m' hm => h m' (List.mem_cons_of_mem _ hm))]
theorem lst_put {vs : Nat → Option Value} {j : Nat} : ∀ {L : List Mk} {l : Array Bool}, (∀ m ∈ L, m.j ≠ j) → (lst vs L l).setIfInBounds j true = lst vs L (l.setIfInBounds j true)
  | [], _, _ => rfl
  | m :: r, l, h => by
    simp only [lst]
    rw [lst_put (fun m' hm => h m' (List.mem_cons_of_mem _ hm))]
    split
    · rw [Array.setIfInBounds_comm _ _ (h m (by simp))]
    · rfl
theorem lst_upd {vs : Nat → Option Value} {v : Value} {m : Mk} : ∀ {L : List Mk} {l : Array Bool}, (L.map Mk.j).Nodup → m ∈ L → vs m.j = none → (lst vs L l).setIfInBounds m.j true = lst (upd vs m.j v) L l
  | m0 :: r, l, hj, hm, hv => by
    simp only [List.map_cons, List.nodup_cons] at hj
    simp only [lst]
    by_cases e : m0.j = m.j
    · rw [e, hv]
      simp only [upd, if_true, Option.isSome_none, Option.isSome_some, Bool.false_eq_true, if_false]
      rw [lst_put (fun m' hm' e2 => hj.1 (List.mem_map.2 ⟨m', hm', by rw [e2, e]⟩))]
      refine lst_same fun m' hm' => ?_
      have : m'.j ≠ m.j := fun e2 => hj.1 (List.mem_map.2 ⟨m', hm', by rw [e2, e]⟩)
      show (vs m'.j).isSome = (if m'.j = m.j then some v else vs m'.j).isSome
      rw [if_neg this]
    · have hm' : m ∈ r := by
        rcases List.mem_cons.1 hm with h | h
        · exact absurd (by rw [h]) e
        · exact h
      rw [lst_upd (v := v) hj.2 hm' hv]
      simp [upd, e]
theorem nodup_j : ∀ {L : List Mk}, (L.map Mk.j).Nodup → ∀ {m m' : Mk}, m ∈ L → m' ∈ L → m.j = m'.j → m = m'
  | m0 :: r, h, m, m', h1, h2, e => by
    simp only [List.map_cons, List.nodup_cons] at h
    rcases List.mem_cons.1 h1 with e1 | h3
    · rcases List.mem_cons.1 h2 with e2 | h4
      · rw [e1, e2]
      · exact absurd (List.mem_map.2 ⟨m', h4, by rw [← e, e1]⟩) h.1
    · rcases List.mem_cons.1 h2 with e2 | h4
      · exact absurd (List.mem_map.2 ⟨m, h3, by rw [e, e2]⟩) h.1
      · exact nodup_j h.2 h3 h4 e
theorem filter_upd {vs : Nat → Option Value} {v : Value} {m : Mk} : ∀ {L : List Mk}, (L.map Mk.j).Nodup → m ∈ L → vs m.j = none → (L.filter fun m' => (vs m'.j).isNone).length = (L.filter fun m' => (upd vs m.j v m'.j).isNone).length + 1
  | m0 :: r, hj, hm, hv => by
    simp only [List.map_cons, List.nodup_cons] at hj
    by_cases e : m0.j = m.j
    · have h1 : (vs m0.j).isNone = true := by rw [e, hv]; rfl
      have h2 : (upd vs m.j v m0.j).isNone = false := by simp [upd, e]
      have h3 : (r.filter fun m' => (upd vs m.j v m'.j).isNone) = r.filter fun m' => (vs m'.j).isNone := by
        refine List.filter_congr fun m' hm' => ?_
        have : m'.j ≠ m.j := fun e2 => hj.1 (List.mem_map.2 ⟨m', hm', by rw [e2, e]⟩)
        simp [upd, this]
      rw [List.filter_cons, if_pos h1, List.filter_cons, if_neg (by rw [h2]; exact Bool.false_ne_true), h3, List.length_cons]
    · have hm' : m ∈ r := by
        rcases List.mem_cons.1 hm with h | h
        · exact absurd (by rw [h]) e
        · exact h
      have ih := filter_upd (v := v) hj.2 hm' hv
      have h2 : (upd vs m.j v m0.j).isNone = (vs m0.j).isNone := by simp [upd, e]
      rw [List.filter_cons, List.filter_cons, h2]
      split
      · rw [List.length_cons, List.length_cons, ih]
      · exact ih
section
variable {P : Program} {ops : Array Oper} {Q : Exit → Act → World → Prop} {md : Region.Mode} {S : World → Prop} {z g : Nat}
theorem Z_makers {w : World} {L : List Mk} {base : Array Bool} {a0 : Act} (hj : (L.map Mk.j).Nodup) (hd : (L.map Mk.d).Nodup)
    (hop : ∀ m ∈ L, ∃ o, ops[m.j]? = some o ∧ o.guard = none ∧ o.dst = some m.d ∧ (∀ cs b, o.op ≠ .select cs b) ∧ (∀ m' ∈ L, m'.d ∉ o.looksAt ops) ∧ ∀ X, Below w.heap.size w X → Makes P o a0 (m.RF X) X)
    (hgrow : ∀ m ∈ L, ∀ v X X', m.R v X → Below X.heap.size X X' → m.R v X') (hS : ∀ X, Below w.heap.size w X → S X)
    (hready : ∀ vs : Nat → Option Value, (∃ m ∈ L, vs m.j = none) → Region.ready md ops (lst vs L base) ≠ [] ∧ ∀ i ∈ Region.ready md ops (lst vs L base), ∃ m ∈ L, m.j = i ∧ vs m.j = none)
    (hend : ∀ (v : Nat → Value) (X : World), Below w.heap.size w X → MkInv w L (fun j => some (v j)) X → wpAnyZ P md ops Q S z g (lst (fun j => some (v j)) L base) (puts (fun j => some (v j)) L a0) X) :
    ∀ (k : Nat) (vs : Nat → Option Value) (X : World), (L.filter fun m => (vs m.j).isNone).length = k → Below w.heap.size w X → MkInv w L vs X → wpAnyZ P md ops Q S z (k + g) (lst vs L base) (puts vs L a0) X
  | 0, vs, X, hk, hX, hR => by
    have hall : ∀ m ∈ L, ∃ v, vs m.j = some v := fun m hm => by
      have h0 := List.eq_nil_of_length_eq_zero hk
      cases hv : vs m.j with
      | some v => exact ⟨v, rfl⟩
      | none => exact absurd (List.mem_filter.2 ⟨hm, show (vs m.j).isNone = true by rw [hv]; rfl⟩) (by rw [h0]; exact List.not_mem_nil)
    have e : ∀ m ∈ L, vs m.j = some ((vs m.j).getD undef) := fun m hm => by obtain ⟨v, hv⟩ := hall m hm; rw [hv]; rfl
    rw [Nat.zero_add, puts_same (vs' := fun j => some ((vs j).getD undef)) e, lst_same (vs' := fun j => some ((vs j).getD undef)) (fun m hm => by rw [e m hm]; rfl)]
    refine hend (fun j => (vs j).getD undef) X hX ⟨fun m hm v hv => ?_, fun m hm m' hm' hj v v' hv hv' => ?_⟩
    · injection hv with hv; exact hR.1 m hm v (by rw [e m hm, hv])
    · injection hv with hv; injection hv' with hv'; exact hR.2 m hm m' hm' hj v v' (by rw [e m hm, hv]) (by rw [e m' hm', hv'])
  | k + 1, vs, X, hk, hX, hR => by
    have hex : ∃ m ∈ L, vs m.j = none := by
      obtain ⟨m, hm⟩ := List.exists_mem_of_length_pos (l := L.filter fun m => (vs m.j).isNone) (by omega)
      rw [List.mem_filter] at hm
      exact ⟨m, hm.1, by simpa using hm.2⟩
    obtain ⟨h1, h2⟩ := hready vs hex
    rw [show k + 1 + g = (k + g) + 1 by omega]
    refine ⟨fun h => absurd h h1, fun i hi => ?_⟩
    obtain ⟨m, hm, rfl, hv⟩ := h2 i hi
    obtain ⟨o, ho, hg, hdst, hsel, hl, hM⟩ := hop m hm
    refine Makes.wpOp ho hg (Makes.puts_ hsel hl (hM X hX)) fun v X' hb hRv => ⟨fun _ => hS _ (hX.trans (hb.mono hX.size)), ?_⟩
    rw [hdst, puts_upd hj hd hm hv, lst_upd (v := v) hj hm hv]
    have hold : ∀ m' : Mk, m' ∈ L → m'.j ≠ m.j → ∀ u, upd vs m.j v m'.j = some u → vs m'.j = some u := fun m' _ hne u hu => by simpa [upd, hne] using hu
    have hnew : ∀ u, upd vs m.j v m.j = some u → u = v := fun u hu => by simpa [upd] using hu.symm
    refine Z_makers hj hd hop hgrow hS hready hend k (upd vs m.j v) X' ?_ (hX.trans (hb.mono hX.size)) ⟨fun m' hm' u hu => ?_, fun m1 hm1 m2 hm2 hne u u' hu hu' b hb1 hb2 => ?_⟩
    · have hp := filter_upd (v := v) hj hm hv
      omega
    · by_cases e : m'.j = m.j
      · obtain rfl := nodup_j hj hm' hm e
        obtain rfl := hnew u hu
        exact ⟨hRv.1, fun b hb2 => ⟨Nat.le_trans hX.size (hRv.2 b hb2).1, (hRv.2 b hb2).2⟩⟩
      · obtain ⟨g1, g2⟩ := hR.1 m' hm' u (hold m' hm' e u hu)
        exact ⟨hgrow m' hm' u X X' g1 hb, fun b hb2 => ⟨(g2 b hb2).1, Nat.lt_of_lt_of_le (g2 b hb2).2 hb.size⟩⟩
    · by_cases e1 : m1.j = m.j
      · obtain rfl := nodup_j hj hm1 hm e1
        obtain rfl := hnew u hu
        have g := (hR.1 m2 hm2 u' (hold m2 hm2 (fun e => hne e.symm) u' hu')).2 b hb2
        have := (hRv.2 b hb1).1
        omega
      · by_cases e2 : m2.j = m.j
        · obtain rfl := nodup_j hj hm2 hm e2
          obtain rfl := hnew u' hu'
          have g := (hR.1 m1 hm1 u (hold m1 hm1 e1 u hu)).2 b hb1
          have := (hRv.2 b hb2).1
          omega
        · exact hR.2 m1 hm1 m2 hm2 hne u u' (hold m1 hm1 e1 u hu) (hold m2 hm2 e2 u' hu') b hb1 hb2
def lexHeadI (md : Region.Mode) (ops : Array Oper) : List Nat → Array Bool → Bool
  | [], _ => true
  | k :: ks, listed => (Region.ready md ops listed).contains k && Region.free md ops listed k && lexHeadI md ops ks (listed.setIfInBounds k true)
def setI : List Nat → Array Bool → Array Bool
  | [], l => l
  | k :: ks, l => setI ks (l.setIfInBounds k true)
theorem Z_lexI {R : Act → Prop} {w : World} (hS : S w) (hsel : Region.noSelect ops = true) (hs : Region.sinkB md ops z = true) (hc : Region.chainB md ops z = true) (hzl : z + 1 = ops.size) (hQ : ∀ c a d v w, Q (.panic c) (a.put d v) w → Q (.panic c) a w) :
    ∀ (ks : List Nat) (lo : List Oper) (listed : Array Bool) (a : Act), ks.map (fun k => ops[k]?) = lo.map some → (∀ k ∈ ks, k < z) → lo.all (fun o => rdB o.op) = true → HeadInv md ops z listed → lexHeadI md ops ks listed = true →
      (∀ b, R b → wpAnyZ P md ops Q S z g (setI ks listed) b w) → wpQuiet P ops S R lo a → wpAnyZ P md ops Q S z (ks.length + g) listed a w
  | [], lo, listed, a, hl, _, _, _, _, hR, h => by
    obtain rfl : lo = [] := by cases lo with | nil => rfl | cons o r => simp at hl
    rw [List.length_nil, Nat.zero_add]
    exact hR a h
  | k :: ks, [], listed, a, hl, _, _, _, _, _, _ => by simp at hl
  | k :: ks, o :: lo, listed, a, hl, hkz, hrd, inv, hB, hR, h => by
    simp only [List.map_cons, List.cons.injEq] at hl
    simp only [lexHeadI, Bool.and_eq_true] at hB
    simp only [List.all_cons, Bool.and_eq_true] at hrd
    have hr : k ∈ Region.ready md ops listed := by simpa using hB.1.1
    have hkz' := hkz k (by simp)
    obtain ⟨v, hy, hK⟩ := yieldsIn_of_qOp (C := S) hl.1 (show qOp P ops S k (wpQuiet P ops S R lo) a by unfold qOp; simp only [hl.1]; exact h)
    have := Z_first (P := P) (Q := Q) hl.1 hkz' hs hc (by omega) hzl (Region.noSelect_spec hsel) (fun c a w => hQ c a o.dst v w) (ks.length + g) listed a w inv (Region.free_spec hl.1 hB.1.2) hr (YieldsIn.toIf hrd.1 hy) hS
      (Z_lexI hS hsel hs hc hzl hQ ks lo _ _ hl.2 (fun k' hk' => hkz k' (List.mem_cons_of_mem _ hk')) hrd.2 (inv.set hr hkz') hB.2 hR hK)
    rwa [show (k :: ks).length + g = ks.length + g + 1 by simp; omega]
end
def lstB : List Nat → List Bool → Array Bool → Array Bool
  | j :: js, b :: bs, l => lstB js bs (if b then l.setIfInBounds j true else l)
  | _, _, l => l
theorem lst_B {vs : Nat → Option Value} : ∀ {L : List Mk} {l : Array Bool}, lst vs L l = lstB (L.map Mk.j) (L.map fun m => (vs m.j).isSome) l
  | [], _ => rfl
  | m :: r, l => by simp only [lst, List.map_cons, lstB]; rw [lst_B]
def allBools (p : List Bool → Bool) : Nat → Bool
  | 0 => p []
  | n + 1 => allBools (fun r => p (true :: r)) n && allBools (fun r => p (false :: r)) n
theorem allBools_spec : ∀ {n : Nat} {p : List Bool → Bool}, allBools p n = true → ∀ bs : List Bool, bs.length = n → p bs = true
  | 0, p, h, bs, hb => by
    obtain rfl := List.eq_nil_of_length_eq_zero hb
    exact h
  | n + 1, p, h, [], hb => by simp at hb
  | n + 1, p, h, b :: bs, hb => by
    simp only [allBools, Bool.and_eq_true] at h
    cases b
    · exact allBools_spec (p := fun r => p (false :: r)) h.2 bs (by simpa using hb)
    · exact allBools_spec (p := fun r => p (true :: r)) h.1 bs (by simpa using hb)
def readyB (md : Region.Mode) (ops : Array Oper) (js : List Nat) (base : Array Bool) (bs : List Bool) : Bool :=
  bs.all id || (!(Region.ready md ops (lstB js bs base)).isEmpty && (Region.ready md ops (lstB js bs base)).all fun i => (js.zip bs).any fun p => p.1 == i && !p.2)
theorem zip_selfE {α : Type} : ∀ (L : List α), L.zip L = L.map fun x => (x, x)
  | [] => rfl
  | a :: r => by rw [List.zip_cons_cons, List.map_cons, zip_selfE r]
theorem ready_of {md : Region.Mode} {ops : Array Oper} {L : List Mk} {base : Array Bool} (h : allBools (readyB md ops (L.map Mk.j) base) L.length = true) (vs : Nat → Option Value) (hex : ∃ m ∈ L, vs m.j = none) :
    Region.ready md ops (lst vs L base) ≠ [] ∧ ∀ i ∈ Region.ready md ops (lst vs L base), ∃ m ∈ L, m.j = i ∧ vs m.j = none := by
  have h1 := allBools_spec h (L.map fun m => (vs m.j).isSome) (by simp)
  rw [lst_B]
  simp only [readyB, Bool.or_eq_true, Bool.and_eq_true, Bool.not_eq_true', List.isEmpty_eq_false_iff] at h1
  rcases h1 with h1 | ⟨h1, h2⟩
  · obtain ⟨m, hm, hv⟩ := hex
    have := List.all_eq_true.1 h1 _ (List.mem_map.2 ⟨m, hm, rfl⟩)
    simp [hv] at this
  · refine ⟨h1, fun i hi => ?_⟩
    obtain ⟨p, hp, hp2⟩ := List.any_eq_true.1 (List.all_eq_true.1 h2 i hi)
    simp only [Bool.and_eq_true, beq_iff_eq, Bool.not_eq_true'] at hp2
    rw [List.zip_map, List.mem_map] at hp
    obtain ⟨q, hq, rfl⟩ := hp
    have hqq : q.1 = q.2 ∧ q.1 ∈ L := by
      rw [zip_selfE, List.mem_map] at hq
      obtain ⟨x, hx, rfl⟩ := hq
      exact ⟨rfl, hx⟩
    refine ⟨q.1, hqq.2, hp2.1, ?_⟩
    have h3 := hp2.2
    simp only [Prod.map] at h3
    rw [← hqq.1] at h3
    simpa using h3
theorem lst_all {v : Nat → Value} : ∀ {L : List Mk} {l : Array Bool}, lst (fun j => some (v j)) L l = setI (L.map Mk.j) l
  | [], _ => rfl
  | m :: r, l => by simp only [lst, List.map_cons, setI, Option.isSome_some, if_true]; rw [lst_all]
theorem lst_none : ∀ (L : List Mk) (l : Array Bool), lst (fun _ => none) L l = l
  | [], _ => rfl
  | m :: r, l => by simp only [lst, Option.isSome_none, Bool.false_eq_true, if_false]; exact lst_none r l
theorem puts_none : ∀ (L : List Mk) (a : Act), puts (fun _ => none) L a = a
  | [], _ => rfl
  | m :: r, a => by simp only [puts]; exact puts_none r a
def mkB (l : List Oper) (ks : List Nat) (ms : List (Nat × Tmp)) (n : Nat) : Bool :=
  (Region.noSelect l.toArray && decide (n < l.length ∧ l.length = ks.length + (ms.length + (l.length - n))) && Region.sinkB .any l.toArray (l.length - 1) && Region.chainB .any l.toArray (l.length - 1) && ks.all (fun k => decide (k < l.length - 1)) && lexHeadI .any l.toArray ks (Array.replicate l.length false)) &&
  (decide ((ms.map (·.1)).Nodup) && decide ((ms.map (·.2)).Nodup) && ms.all (fun m => match l[m.1]? with | some o => o.guard.isNone && o.dst == some m.2 && ms.all (fun m' => !(o.looksAt l.toArray).contains m'.2) | none => false) &&
    allBools (readyB .any l.toArray (ms.map (·.1)) (setI ks (Array.replicate l.length false))) ms.length && Region.seqB .any l.toArray (l.length - n) n (setI (ms.map (·.1)) (setI ks (Array.replicate l.length false))))
theorem wp_region_makers {P : Program} {id : Nat} {Q : Exit → Act → World → Prop} {a : Act} {w : World} {l : List Oper} (ks : List Nat) (lo : List Oper) (L : List Mk) (n : Nat) (hm : P.follows .mixedOrders = true)
    (hlo : ks.map (fun k => l.toArray[k]?) = lo.map some) (hrd : lo.all (fun o => rdB o.op) = true) (hB : mkB l ks (L.map fun m => (m.j, m.d)) n = true) (hQ : ∀ c a d v w, Q (.panic c) (a.put d v) w → Q (.panic c) a w)
    (hgrow : ∀ m ∈ L, ∀ v X X', m.R v X → Below X.heap.size X X' → m.R v X')
    (h : wpQuiet P l.toArray (fun w' => ∃ m : Ext w, w' = m.X) (fun b => (∀ m ∈ L, ∀ o, l[m.j]? = some o → ∀ X, Below w.heap.size w X → Makes P o b (m.RF X) X) ∧
      ∀ (v : Nat → Value) (X : World), Below w.heap.size w X → MkInv w L (fun j => some (v j)) X → tailC P l.toArray Q (fun w' => ∃ m : Ext w, w' = m.X) (l.drop n) (puts (fun j => some (v j)) L b) X) lo a) : (Code.region id l.toArray true).wp P Q a w := by
  simp only [mkB, Bool.and_eq_true, decide_eq_true_eq, List.map_map] at hB
  obtain ⟨⟨⟨⟨⟨⟨hsel, hn, hn2⟩, hs⟩, hc⟩, hkz⟩, hx⟩, ⟨⟨⟨hj, hd⟩, hms⟩, hrb⟩, hsq⟩ := hB
  have hj' : (L.map Mk.j).Nodup := hj
  have hd' : (L.map Mk.d).Nodup := hd
  have hdl : (l.drop n).length = l.length - n := by simp
  have hzs : l.length - 1 + 1 = l.toArray.size := by simp; omega
  have hkz' : ∀ k ∈ ks, k < l.length - 1 := fun k hk => by simpa using List.all_eq_true.1 hkz k hk
  have inv0 : HeadInv .any l.toArray (l.length - 1) (Array.replicate l.length false) := ⟨by simp, fun j q _ hl => (by rw [getD_replicate_false] at hl; cases hl), fun t _ h2 => getD_in (by simpa using h2) (getD_replicate_false _ _)⟩
  refine wp_region_any hm (wpAny_of_Z _ _ _ _ (z := l.length - 1) (S := fun w' => ∃ m : Ext w, w' = m.X) ?_)
  have hlen : l.toArray.size = ks.length + (L.length + (l.length - n)) := by rw [List.length_map] at hn2; simpa using hn2
  rw [hlen, show Array.replicate (ks.length + (L.length + (l.length - n))) false = Array.replicate l.length false by rw [← hlen]; simp]
  refine Z_lexI (S := fun w' => ∃ m : Ext w, w' = m.X) ⟨⟨_, (Below.refl _ w).drew⟩, rfl⟩ hsel hs hc hzs hQ ks lo _ a hlo hkz' hrd inv0 hx (fun b hb => ?_) h
  obtain ⟨hM, hT⟩ := hb
  have hmk := Z_makers (P := P) (Q := Q) (md := .any) (ops := l.toArray) (S := fun w' => ∃ m : Ext w, w' = m.X) (z := l.length - 1) (g := l.length - n) (w := w) (L := L) (base := setI ks (Array.replicate l.length false)) (a0 := b) hj' hd'
    (fun m hmL => by
      have := List.all_eq_true.1 hms (m.j, m.d) (List.mem_map.2 ⟨m, hmL, rfl⟩)
      simp only at this
      split at this
      · rename_i o ho
        simp only [Bool.and_eq_true, Option.isNone_iff_eq_none, beq_iff_eq] at this
        refine ⟨o, by simpa using ho, this.1.1, this.1.2, fun cs b => Region.noSelect_spec hsel m.j o cs b (by simpa using ho), fun m' hm' => ?_, hM m hmL o ho⟩
        have h3 := List.all_eq_true.1 this.2 (m'.j, m'.d) (List.mem_map.2 ⟨m', hm', rfl⟩)
        simpa using h3
      · cases this)
    hgrow (fun X hX => ⟨⟨X, hX⟩, rfl⟩) (ready_of (by have h9 := hrb; rw [List.length_map] at h9; exact h9))
    (fun v X hX hR => by
      rw [lst_all]
      have h3 := Z_seq (P := P) (Q := Q) (md := .any) (ops := l.toArray) (S := fun w' => ∃ m : Ext w, w' = m.X) (z := l.length - 1) (l.drop n) n (setI (L.map Mk.j) (setI ks (Array.replicate l.length false))) _ X (fun j => by simp [List.getElem?_drop]) (by rw [hdl]; omega) (by rw [hdl]; exact hsq) (hT v X hX hR)
      rwa [hdl] at h3)
    L.length (fun _ => none) w.drew (by simp) (Below.refl _ w).drew ⟨fun m _ v e => by (cases e), fun m _ m' _ _ v v' e => by (cases e)⟩
  have e1 : lst (fun _ => none) L (setI ks (Array.replicate l.length false)) = setI ks (Array.replicate l.length false) := lst_none _ _
  have e2 : puts (fun _ => none) L b = b := puts_none _ _
  rw [e1, e2] at hmk
  exact hmk
end Go.Proofs.YtcjmppjppmiggaaGreat


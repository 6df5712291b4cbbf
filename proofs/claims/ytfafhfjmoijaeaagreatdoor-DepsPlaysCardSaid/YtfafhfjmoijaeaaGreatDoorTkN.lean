/- append of many elements to a slice that is cut at its head and appended to. Over any program. -/
import Derived.Test.YtfafhfjmoijaeaaGreatDoorTk
import Derived.Laws.AppendOwnNone
namespace Go.Proofs.YtfafhfjmoijaeaaGreatDoor
open Go.RowKit
set_option linter.unusedVariables false
set_option linter.unusedSimpArgs false

theorem TkAt.roomN {α : Type} {cells : α → List Value} {size : Nat} {e : TypeId} {w : World} {B n cap : Nat} {l : List α} {g o : Nat} (hs : ∀ x, (cells x).length = size) (h : TkAt cells size e w B (some ⟨g, o, none⟩) n cap l) (ys : List α) (hr : n + ys.length ≤ cap) :
    TkAt cells size e (w.setCells g (o + n * size) (ys.flatMap cells)) B (some ⟨g, o, none⟩) (n + ys.length) cap (l ++ ys) := by
  obtain ⟨h1, h2, ⟨h3, h4⟩ | ⟨g', o', cur, h3, h4, h5, h6, h7⟩⟩ := h
  · cases h3
  · injection h3 with h3
    injection h3 with e1 e2
    subst e1 e2
    obtain ⟨cs', b1, b2, b3, b4⟩ := blk_sc (ys.flatMap cells) (o + n * size) w cur h5
    have hm : (n + ys.length) * size ≤ cap * size := Nat.mul_le_mul_right _ hr
    rw [Nat.add_mul] at hm
    refine ⟨by simp [h1], hr, Or.inr ⟨g, o, cs', rfl, h4, b1, by omega, fun i x hi k u hu => ?_⟩⟩
    have hk : k < size := by rw [← hs x]; exact (List.getElem?_eq_some_iff.1 hu).1
    by_cases hlt : i < n
    · rw [List.getElem?_append_left (by omega)] at hi
      have hm2 : (i + 1) * size ≤ n * size := Nat.mul_le_mul_right _ (by omega)
      rw [Nat.add_mul] at hm2
      rw [b3 _ (by omega)]
      exact h7 i x hi k u hu
    · rw [List.getElem?_append_right (by omega), h1] at hi
      have hi2 := (List.getElem?_eq_some_iff.1 hi).1
      have hg := flat_get ys (fun x _ => hs x) (i - n) x hi k u hu
      have hm3 : (i - n + 1) * size ≤ ys.length * size := Nat.mul_le_mul_right _ (by omega)
      rw [Nat.add_mul] at hm3
      have hin : i * size = n * size + (i - n) * size := by rw [← Nat.add_mul]; congr 1; omega
      have := b4 _ u hg (by omega)
      rwa [show o + n * size + ((i - n) * size + k) = o + i * size + k by omega] at this
/-- append of a row of elements to such a slice, as one step. -/
theorem wpList_pushN {P : Program} {ops : Array Oper} {rest : List Oper} {o : Oper} {a : Act} {w : World} {Q : Exit → Act → World → Prop} {α : Type} {cells : α → List Value}
    (hg : o.guard = none) (s x : Operand) (t : TypeId) (hop : o.op = Op.call { callee := Callee.builtin Builtin.append, args := #[s, x], argTypes := #[t, t] })
    (e : TypeId) (i : TypeInfo) (z : Value) (size bytes : Nat) (h1 : P.underlying t = some (.slice e)) (h2 : P.info? e = some i) (h3 : i.zero = some z) (h4 : i.size = size) (h5 : i.bytes = bytes) (h6 : z.cells.size = size) (h7 : 0 < size)
    (hlen : ∀ x, (cells x).length = size) (h1c : ∀ x, ∀ u ∈ cells x, u.oneCell' = true)
    (B : Nat) (A : Option Addr) (n cap : Nat) (l : List α) (hs : a.eval s = .slice A n cap) (hT : TkAt cells size e w B A n cap l) (hB : B ≤ w.heap.size)
    (ys : List α) (ad : Addr) (c : Nat) (hx : a.eval x = .slice (some ad) ys.length c) (hc : ∀ j u, (ys.flatMap cells)[j]? = some u → w.cell? (ad.add j) = some u)
    (b1 : n + ys.length ≤ maxLen) (b2 : (n + ys.length) * bytes ≤ 140737488355328)
    (hK : ∀ A' cap' w', TkAt cells size e w' B A' (n + ys.length) cap' (l ++ ys) → Kept w w' (fun b => ∃ a, A = some a ∧ b = a.block) → FromA w A A' → wpList P ops Q rest (a.put o.dst (.slice A' (n + ys.length) cap')) w') :
    wpList P ops Q (o :: rest) a w := by
  have hl1 : (l.flatMap cells).length = n * size := by rw [flat_len l (fun x _ => hlen x), hT.1]
  have hy1 : (ys.flatMap cells).length = ys.length * size := flat_len ys (fun x _ => hlen x)
  have hyc : ∀ u ∈ ys.flatMap cells, u.oneCell' = true := fun u hu => by
    obtain ⟨y, -, hu2⟩ := List.mem_flatMap.1 hu; exact h1c y u hu2
  cases A with
  | none =>
    obtain ⟨hn0, hc0⟩ := hT.none_
    subst hn0 hc0
    have hl0 : l = [] := List.eq_nil_of_length_eq_zero hT.1
    subst hl0
    refine wpList_append_own w hg s x t hop w.heap.size e i z size bytes h1 h2 h3 h4 h5 h6 h7 (.slice none 0 0) 0 [] hs (World.ownsRow_nil _ _ _ _) ad ys.length c (ys.flatMap cells) hx hy1 hc hyc b1 b2 (Nat.le_refl _) (fun v' w' hown hgr _ => ?_)
    have hb : Below w.heap.size w w' := (Below.refl _ _).grown hgr (Nat.le_refl _) (fun k hk => by cases hk)
    have ho : w'.ownsRow w.heap.size e size v' ys.length (ys.flatMap cells) := by simpa using hown
    obtain ⟨A', cap', rfl, hfr, ht⟩ := TkAt.own (fun x _ => hlen x) ho hB
    have := hK A' cap' w' (by simpa using ht) (Kept.of_below hb) (fun a ea => Or.inr (hfr a ea))
    simpa using this
  | some ad0 =>
  refine wpList_plain hg fun K hK' => ?_
  suffices h : (if Region.wanted o (yielded (#[] : Array Oper) a.tmps) = true then Oper.wp P o a w K Q else True) by
    have hw : Region.wanted o (yielded #[] a.tmps) = true := by simp [Region.wanted, hg]
    rw [if_pos hw] at h
    exact h
  have hgrow : cap < n + ys.length → (if Region.wanted o (yielded (#[] : Array Oper) a.tmps) = true then Oper.wp P o a w K Q else True) := fun hf => by
    refine step_append_grows hg s x t hop e i z size bytes h1 h2 h3 h4 h5 h6 h7 (some ad0) n cap (l.flatMap cells) hs hT.nil_ hl1 (fun b ea j u hu => ?_) ad ys.length c (ys.flatMap cells) hx hy1 hc hyc hf b1 b2 (fun v' w' hown hgr => ?_)
    · injection ea with ea
      subst ea
      obtain ⟨g, o', cur, rfl, hgB, hcur, hfit, hat⟩ := hT.some_
      rw [Addr.add_lit, blk_cell hcur]
      have hj : j < n * size := by rw [← hl1]; exact (List.getElem?_eq_some_iff.1 hu).1
      have hd : j = j / size * size + j % size := by rw [Nat.mul_comm]; exact (Nat.div_add_mod j size).symm
      have hjd : j / size < n := Nat.div_lt_of_lt_mul (by rwa [Nat.mul_comm] at hj)
      have hxl : l[j / size]? = some (l[j / size]'(by rw [hT.1]; exact hjd)) := List.getElem?_eq_getElem _
      generalize l[j / size]'(by rw [hT.1]; exact hjd) = xl at hxl
      have hkl : j % size < (cells xl).length := by rw [hlen]; exact Nat.mod_lt _ h7
      have h8 := flat_get l (fun x _ => hlen x) _ xl hxl (j % size) _ (List.getElem?_eq_getElem hkl)
      rw [← hd, hu] at h8
      have := hat _ xl hxl (j % size) _ (List.getElem?_eq_getElem hkl)
      rw [Nat.add_assoc, ← hd] at this
      rw [this, ← h8]
    · have hb : Below w.heap.size w w' := (Below.refl _ _).grown hgr (Nat.le_refl _) (fun k hk => by cases hk)
      have hl : (l ++ ys).length = n + ys.length := by simp [hT.1]
      have ho : w'.ownsRow w.heap.size e size v' (l ++ ys).length ((l ++ ys).flatMap cells) := by rw [hl, List.flatMap_append]; exact hown
      obtain ⟨A', cap', rfl, hfr, ht⟩ := TkAt.own (fun x _ => hlen x) ho hB
      rw [hl] at ht ⊢
      exact hK' _ _ (hK A' cap' w' ht (Kept.of_below hb) (fun a ea => Or.inr (hfr a ea)))
  by_cases hr : n + ys.length ≤ cap
  · obtain ⟨g, o', cur, rfl, hgB, hcur, hfit, hat⟩ := hT.some_
    have hm : (n + ys.length) * size ≤ cap * size := Nat.mul_le_mul_right _ hr
    rw [Nat.add_mul] at hm
    refine step_append_room hg s x t hop e i size h1 h2 h4 g o' n cap hs ad ys.length c (ys.flatMap cells) hx hy1 hc hyc hr (fun j hj => ?_) (hK' _ _ (hK _ _ _ (hT.roomN hlen ys hr) ((kept_sc g _ _ w).mono fun b hb => ⟨_, rfl, hb⟩) (FromA.refl _ _)))
    rw [hy1] at hj
    have hlt : o' + n * size + j < cur.size := by omega
    exact ⟨by rw [blk_cell hcur, Array.getElem?_eq_getElem hlt]; rfl, blk_frozen hcur _⟩
  · exact hgrow (by omega)
/-- append of nil. -/
theorem wpList_push0 {P : Program} {ops : Array Oper} {rest : List Oper} {o : Oper} {a : Act} {w : World} {Q : Exit → Act → World → Prop} {α : Type} {cells : α → List Value}
    (hg : o.guard = none) (s x : Operand) (t : TypeId) (hop : o.op = Op.call { callee := Callee.builtin Builtin.append, args := #[s, x], argTypes := #[t, t] })
    (e : TypeId) (i : TypeInfo) (size : Nat) (h1 : P.underlying t = some (.slice e)) (h2 : P.info? e = some i)
    (B : Nat) (A : Option Addr) (n cap : Nat) (l : List α) (hs : a.eval s = .slice A n cap) (hT : TkAt cells size e w B A n cap l) (hx : a.eval x = .slice none 0 0)
    (hK : wpList P ops Q rest (a.put o.dst (.slice A n cap)) w) : wpList P ops Q (o :: rest) a w := by
  refine wpList_plain hg fun K hK' => ?_
  have hle := hT.le
  have hrun : (Builtin.append_ #[t, t] o.type #[.slice A n cap, .slice none 0 0]).run P w = .ok (.slice A n cap) w := by
    cases A with
    | none =>
      obtain ⟨rfl, rfl⟩ := hT.none_
      simp [Builtin.append_, run_underlying h1, sizeOf, typeInfo, h2, Builtin.lenOf, Builtin.firstCells]
    | some ad => simp [Builtin.append_, run_underlying h1, sizeOf, typeInfo, h2, Builtin.lenOf, Builtin.firstCells, hle, storeCells]
  unfold Oper.wp
  simp [execOp, hop, resolve, invoke, builtin, hs, hx, hrun, Result.andThen]
  exact hK' _ _ hK
end Go.Proofs.YtfafhfjmoijaeaaGreatDoor

/- The document's table of dependencies, a list of all that were added, against what waits for what. Plain theorems. -/
import Derived.Test.YtcjmppjppmiggaaGreatM2
namespace Go.Proofs.YtcjmppjppmiggaaGreat
open Go.RowKit
set_option linter.unusedVariables false
set_option linter.unusedSimpArgs false

theorem rise_ext : ∀ {l1 l2 : List Nat}, l1.Pairwise (· < ·) → l2.Pairwise (· < ·) → (∀ n, n ∈ l1 ↔ n ∈ l2) → l1 = l2
  | [], [], _, _, _ => rfl
  | [], b :: r, _, _, h => absurd ((h b).2 (by simp)) (by simp)
  | a :: r, [], _, _, h => absurd ((h a).1 (by simp)) (by simp)
  | a :: r, b :: s, h1, h2, h => by
    rw [List.pairwise_cons] at h1 h2
    have hab : a = b := by
      have ha := (h a).1 (by simp)
      have hb := (h b).2 (by simp)
      rcases List.mem_cons.1 ha with rfl | ha
      · rfl
      · rcases List.mem_cons.1 hb with rfl | hb
        · rfl
        · have := h1.1 b hb; have := h2.1 a ha; omega
    subst hab
    rw [rise_ext h1.2 h2.2 fun n => ?_]
    have hn := h n
    simp only [List.mem_cons] at hn
    constructor
    · intro hr
      rcases hn.1 (Or.inr hr) with rfl | hs
      · exact absurd (h1.1 _ hr) (by omega)
      · exact hs
    · intro hs
      rcases hn.2 (Or.inr hs) with rfl | hr
      · exact absurd (h2.1 _ hs) (by omega)
      · exact hr
structure O1 where
  num : Nat
  ws : List Wr
  wt : List Nat
  ended : Bool
def withN (l : List Nat) (n : Nat) : List Nat := if l.contains n = true then l else insN n l
def lastO (L : List O1) (k : ByteArray) : Option O1 := L.reverse.find? fun o => hasKey o.ws k
def waitS (L : List O1) (acc : List Nat) (x : Wr) : List Nat := match lastO L x.key with
  | some o => if o.ended = true then acc else withN acc o.num
  | none => acc
def waitsO (L : List O1) (ws : List Wr) : List Nat := ws.foldl (waitS L) []
def doneO (L : List O1) (n : Nat) : List O1 := L.map fun o => { o with wt := o.wt.filter fun b => decide (b ≠ n), ended := decide (o.num = n) || o.ended }
def outO (L : List O1) (n : Nat) : List Nat := (L.filter fun o => decide (o.wt ≠ []) && decide ((o.wt.filter fun b => decide (b ≠ n)) = [])).map O1.num
structure RInv (rs : List RTx) (m : Nat) (E : Nat → Bool) (L : List O1) : Prop where
  rise : (L.map O1.num).Pairwise (· < ·)
  at_ : ∀ o ∈ L, 1 ≤ o.num ∧ o.num ≤ m ∧ o.ws = wsOf rs (o.num - 1) ∧ o.wt = depL rs E o.num ∧ o.ended = E o.num
  rest : ∀ a, 1 ≤ a → a ≤ m → (∀ o ∈ L, o.num ≠ a) → wsOf rs (a - 1) = [] ∧ E a = true
theorem lastN_eq {rs : List RTx} {k : ByteArray} {b : Nat} : ∀ {m : Nat}, 1 ≤ b → b ≤ m → hasKey (wsOf rs (b - 1)) k = true → (∀ j, b < j → j ≤ m → hasKey (wsOf rs (j - 1)) k = false) → lastN rs k m = b
  | 0, h1, h2, _, _ => by omega
  | m + 1, h1, h2, h3, h4 => by
    rw [lastN]
    by_cases hb : b = m + 1
    · subst hb
      rw [Nat.add_sub_cancel] at h3
      rw [if_pos h3]
    · have := h4 (m + 1) (by omega) (Nat.le_refl _)
      rw [Nat.add_sub_cancel] at this
      rw [if_neg (by rw [this]; exact Bool.false_ne_true)]
      exact lastN_eq h1 (by omega) h3 (fun j hj1 hj2 => h4 j hj1 (by omega))
theorem lastN_none {rs : List RTx} {k : ByteArray} : ∀ {m : Nat}, (∀ j, 1 ≤ j → j ≤ m → hasKey (wsOf rs (j - 1)) k = false) → lastN rs k m = 0
  | 0, _ => rfl
  | m + 1, h => by
    have := h (m + 1) (by omega) (Nat.le_refl _)
    rw [Nat.add_sub_cancel] at this
    rw [lastN, if_neg (by rw [this]; exact Bool.false_ne_true)]
    exact lastN_none (fun j hj1 hj2 => h j hj1 (by omega))
section
variable {rs : List RTx} {m : Nat} {E : Nat → Bool} {L : List O1}
theorem RInv.has_none (h : RInv rs m E L) {j : Nat} {k : ByteArray} (h1 : 1 ≤ j) (h2 : j ≤ m) (hj : ∀ o ∈ L, o.num = j → hasKey o.ws k = false) : hasKey (wsOf rs (j - 1)) k = false := by
  by_cases hx : ∃ o ∈ L, o.num = j
  · obtain ⟨o, ho, rfl⟩ := hx
    rw [← (h.at_ o ho).2.2.1]
    exact hj o ho rfl
  · rw [(h.rest j h1 h2 fun o ho e => hx ⟨o, ho, e⟩).1]; rfl
theorem RInv.last (h : RInv rs m E L) (k : ByteArray) : match lastO L k with
    | some o => o ∈ L ∧ lastN rs k m = o.num
    | none => lastN rs k m = 0 := by
  cases hf : lastO L k with
  | none =>
    unfold lastO at hf
    rw [List.find?_eq_none] at hf
    exact lastN_none fun j h1 h2 => h.has_none h1 h2 fun o ho _ => by simpa using hf o (List.mem_reverse.2 ho)
  | some o =>
    unfold lastO at hf
    rw [List.find?_eq_some_iff_append] at hf
    obtain ⟨hk, xs, ys, hL, has⟩ := hf
    have hL2 : L = ys.reverse ++ (o :: xs.reverse) := by
      have := congrArg List.reverse hL
      simpa using this
    have ho : o ∈ L := by rw [hL2]; simp
    obtain ⟨a1, a2, a3, -, -⟩ := h.at_ o ho
    refine ⟨ho, lastN_eq a1 a2 (by rw [← a3]; exact hk) fun j hj1 hj2 => h.has_none (by omega) hj2 fun o' ho' e => ?_⟩
    have hp := h.rise
    rw [hL2, List.map_append, List.map_cons, List.pairwise_append] at hp
    rw [hL2] at ho'
    rcases List.mem_append.1 ho' with hb | hb
    · have := hp.2.2 o'.num (List.mem_map.2 ⟨o', hb, rfl⟩) o.num (by simp)
      omega
    · rcases List.mem_cons.1 hb with rfl | hb
      · omega
      · simpa using has o' (List.mem_reverse.1 hb)
theorem withN_rise {l : List Nat} {n : Nat} (h : l.Pairwise (· < ·)) : (withN l n).Pairwise (· < ·) := by
  unfold withN
  split
  · exact h
  · rename_i hc
    exact insN_rise h (by simpa using hc)
theorem mem_withN {l : List Nat} {n b : Nat} : b ∈ withN l n ↔ b = n ∨ b ∈ l := by
  unfold withN
  split
  · rename_i hc
    have : n ∈ l := by simpa using hc
    constructor
    · exact Or.inr
    · rintro (rfl | hb)
      · exact this
      · exact hb
  · exact mem_insN
theorem fold_waits (L : List O1) : ∀ (ws : List Wr) (acc : List Nat), acc.Pairwise (· < ·) → (ws.foldl (waitS L) acc).Pairwise (· < ·) ∧ ∀ b, b ∈ ws.foldl (waitS L) acc ↔ b ∈ acc ∨ ∃ x ∈ ws, ∃ o, lastO L x.key = some o ∧ o.ended = false ∧ o.num = b
  | [], acc, h => ⟨h, fun b => by simp⟩
  | x :: r, acc, h => by
    rw [List.foldl_cons]
    have hs : (waitS L acc x).Pairwise (· < ·) ∧ ∀ b, b ∈ waitS L acc x ↔ b ∈ acc ∨ ∃ o, lastO L x.key = some o ∧ o.ended = false ∧ o.num = b := by
      unfold waitS
      cases hl : lastO L x.key with
      | none => exact ⟨h, fun b => by simp⟩
      | some o =>
        simp only
        by_cases he : o.ended = true
        · rw [if_pos he]
          refine ⟨h, fun b => ⟨Or.inl, ?_⟩⟩
          rintro (hb | ⟨o', e, h1, -⟩)
          · exact hb
          · injection e with e; subst e; rw [he] at h1; cases h1
        · rw [if_neg he]
          refine ⟨withN_rise h, fun b => ?_⟩
          rw [mem_withN]
          constructor
          · rintro (rfl | hb)
            · exact Or.inr ⟨o, rfl, by simpa using he, rfl⟩
            · exact Or.inl hb
          · rintro (hb | ⟨o', e, -, h2⟩)
            · exact Or.inr hb
            · injection e with e; subst e; exact Or.inl h2.symm
    obtain ⟨g1, g2⟩ := fold_waits L r _ hs.1
    refine ⟨g1, fun b => ?_⟩
    rw [g2, hs.2]
    constructor
    · rintro ((hb | ⟨o, ho⟩) | ⟨y, hy, o, ho⟩)
      · exact Or.inl hb
      · exact Or.inr ⟨x, by simp, o, ho⟩
      · exact Or.inr ⟨y, by simp [hy], o, ho⟩
    · rintro (hb | ⟨y, hy, o, ho⟩)
      · exact Or.inl (Or.inl hb)
      · rcases List.mem_cons.1 hy with rfl | hy
        · exact Or.inl (Or.inr ⟨o, ho⟩)
        · exact Or.inr ⟨y, hy, o, ho⟩
theorem RInv.waits (h : RInv rs m E L) : waitsO L (wsOf rs m) = depL rs E (m + 1) := by
  obtain ⟨g1, g2⟩ := fold_waits L (wsOf rs m) [] List.Pairwise.nil
  refine rise_ext g1 (depL_rises _ _ _) fun b => ?_
  rw [show (b ∈ waitsO L (wsOf rs m)) = (b ∈ (wsOf rs m).foldl (waitS L) []) from rfl, g2, mem_depL]
  simp only [dep, Nat.add_sub_cancel]
  constructor
  · rintro (hb | ⟨x, hx, o, ho, he, rfl⟩)
    · cases hb
    · have hl := h.last x.key
      rw [ho] at hl
      obtain ⟨a1, a2, a3, a4, a5⟩ := h.at_ o hl.1
      exact ⟨⟨a1, x, hx, hl.2⟩, by rw [← a5]; exact he⟩
  · rintro ⟨⟨h1, x, hx, hb⟩, hE⟩
    refine Or.inr ⟨x, hx, ?_⟩
    have hl := h.last x.key
    cases ho : lastO L x.key with
    | none => rw [ho] at hl; simp only at hl; omega
    | some o =>
      rw [ho] at hl
      obtain ⟨a1, a2, a3, a4, a5⟩ := h.at_ o hl.1
      have e : o.num = b := by rw [← hl.2]; exact hb
      exact ⟨o, rfl, by rw [a5, e]; exact hE, e⟩
theorem RInv.start (rs : List RTx) (M : Nat) (h : ∀ i, i < M → wsOf rs i = []) : RInv rs M (E0 M) [] :=
  ⟨List.Pairwise.nil, fun o ho => by (cases ho), fun a h1 h2 _ => ⟨h _ (by omega), by simp [E0]; omega⟩⟩
theorem RInv.add (h : RInv rs m E L) (hE : E (m + 1) = false) : RInv rs (m + 1) E (L ++ [⟨m + 1, wsOf rs m, waitsO L (wsOf rs m), false⟩]) := by
  refine ⟨?_, fun o ho => ?_, fun a h1 h2 h3 => ?_⟩
  · rw [List.map_append, List.pairwise_append]
    refine ⟨h.rise, by simp, fun a ha b hb => ?_⟩
    obtain ⟨o, ho, rfl⟩ := List.mem_map.1 ha
    have := (h.at_ o ho).2.1
    simp at hb
    omega
  · rcases List.mem_append.1 ho with ho | ho
    · obtain ⟨a1, a2, a3, a4, a5⟩ := h.at_ o ho
      exact ⟨a1, by omega, a3, a4, a5⟩
    · simp at ho
      subst ho
      exact ⟨by simp, Nat.le_refl _, by simp, h.waits, hE.symm⟩
  · by_cases ha : a = m + 1
    · exact absurd ha.symm (h3 ⟨m + 1, wsOf rs m, waitsO L (wsOf rs m), false⟩ (by simp))
    · exact h.rest a h1 (by omega) fun o ho => h3 o (by simp [ho])
theorem RInv.skip (h : RInv rs m E L) (hw : wsOf rs m = []) : RInv rs (m + 1) (E1 E (m + 1)) L := by
  refine ⟨h.rise, fun o ho => ?_, fun a h1 h2 h3 => ?_⟩
  · obtain ⟨a1, a2, a3, a4, a5⟩ := h.at_ o ho
    refine ⟨a1, by omega, a3, ?_, ?_⟩
    · rw [depL_E1, a4, List.filter_eq_self.2]
      intro b hb
      have := (dep_lt (mem_depL.1 hb).1).2
      simp; omega
    · have : o.num ≠ m + 1 := by omega
      simp only [E1, this, decide_false, Bool.false_or]; exact a5
  · by_cases ha : a = m + 1
    · subst ha; exact ⟨by simpa using hw, by simp [E1]⟩
    · obtain ⟨g1, g2⟩ := h.rest a h1 (by omega) h3
      exact ⟨g1, by simp only [E1, ha, decide_false, Bool.false_or]; exact g2⟩
theorem RInv.done (h : RInv rs m E L) (n : Nat) : RInv rs m (E1 E n) (doneO L n) := by
  refine ⟨?_, fun o ho => ?_, fun a h1 h2 h3 => ?_⟩
  · have : (doneO L n).map O1.num = L.map O1.num := by simp [doneO, Function.comp_def]
    rw [this]; exact h.rise
  · obtain ⟨o', ho', rfl⟩ := List.mem_map.1 ho
    obtain ⟨a1, a2, a3, a4, a5⟩ := h.at_ o' ho'
    exact ⟨a1, a2, a3, by simp only [a4, depL_E1], by simp only [E1, a5]⟩
  · obtain ⟨g1, g2⟩ := h.rest a h1 h2 fun o ho => by
      have := h3 _ (List.mem_map.2 ⟨o, ho, rfl⟩)
      exact this
    exact ⟨g1, by simp only [E1, g2, Bool.or_true]⟩
theorem RInv.out (h : RInv rs m E L) (hcl : ∀ a, 1 ≤ a → a ≤ m → E a = true → depL rs E a = []) (n : Nat) : outO L n = freeL rs m E n := by
  refine rise_ext ?_ (List.pairwise_lt_range.filter _) fun a => ?_
  · unfold outO
    rw [List.pairwise_map]
    have := h.rise
    rw [List.pairwise_map] at this
    exact this.filter _
  · rw [freeL_mem]
    unfold outO
    rw [List.mem_map]
    simp only [List.mem_filter, Bool.and_eq_true, decide_eq_true_eq]
    constructor
    · rintro ⟨o, ⟨ho, h1, h2⟩, rfl⟩
      obtain ⟨a1, a2, a3, a4, a5⟩ := h.at_ o ho
      rw [a4] at h1 h2
      refine ⟨a1, a2, ?_, (filter_ne_nil (depL_nodup _ _ _) n h1).1 h2⟩
      cases hE : E o.num with
      | false => rfl
      | true => exact absurd (hcl _ a1 a2 hE) h1
    · rintro ⟨h1, h2, h3, h4⟩
      by_cases hx : ∃ o ∈ L, o.num = a
      · obtain ⟨o, ho, rfl⟩ := hx
        obtain ⟨a1, a2, a3, a4, a5⟩ := h.at_ o ho
        refine ⟨o, ⟨ho, by rw [a4, h4]; simp, by rw [a4, h4]; simp⟩, rfl⟩
      · have := (h.rest a h1 h2 fun o ho e => hx ⟨o, ho, e⟩).2
        rw [h3] at this; cases this
end
end Go.Proofs.YtcjmppjppmiggaaGreat

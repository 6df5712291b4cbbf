/- A region that draws its order: reads in any order, and an append and a store behind them, each in worlds of one class. Over any program. -/
import Derived.Test.YtbiamjgkedmceaaGreatDoorExt
import Derived.OrdersHeld
namespace Go.Proofs.YtbiamjgkedmceaaGreatDoor
open Go.RowKit
set_option linter.unusedVariables false
set_option linter.unusedSimpArgs false

/-- A world whose blocks outside I are as they were. -/
structure KX (w : World) (I : Nat → Prop) where
  X : World
  h : Kept w X I
instance kx_some (w : World) (I : Nat → Prop) : Nonempty (KX w I) := ⟨⟨w, Kept.refl _ _⟩⟩
/-- What only reads. -/
def rdB : Op → Bool
  | .move _ | .assign _ | .load .. | .nilCheck _ | .fieldAddr .. | .indexAddr .. | .binOp .. | .build .. | .extract .. | .field .. | .index .. | .lookup .. | .unOp .. | .slice .. | .convert .. | .pick .. => true
  | _ => false
theorem vrun {P : Program} {s : Sem Value} {w w' : World} {n : Next} (h : (do pure (Next.value (← s)) : Sem Next).run P w = .ok n w') : ∃ u, n = .value u := by
  simp only [Sem.run_bind] at h
  cases hs : s.run P w with
  | ok u w1 =>
    rw [hs] at h
    simp only [Result.andThen, Sem.run_pure] at h
    injection h with h1 h2
    exact ⟨u, h1.symm⟩
  | halt x w1 =>
    rw [hs] at h
    simp only [Result.andThen] at h
    cases h
theorem bval {P : Program} {α : Type} {x : Sem α} {k : α → Sem Next} (hk : ∀ b w w' n, (k b).run P w = .ok n w' → ∃ u, n = .value u) {w w' : World} {n : Next} (h : (x >>= k).run P w = .ok n w') : ∃ u, n = .value u := by
  simp only [Sem.run_bind] at h
  cases hs : x.run P w with
  | ok u w1 => rw [hs] at h; exact hk _ _ _ _ h
  | halt x w1 => rw [hs] at h; cases h
theorem rd_value {P : Program} {ρ : Operand → Value} {o : Oper} {w w' : World} {n : Next} (hr : rdB o.op = true) (h : (execOp ρ o).run P w = .ok n w') : (∃ u, n = .value u) := by
  obtain ⟨dst, op, ty, pos, af, gu⟩ := o
  cases op <;> simp only [rdB, Bool.false_eq_true] at hr
  case move x => simp only [execOp, Sem.run_pure] at h; injection h with h1 h2; exact ⟨_, h1.symm⟩
  case assign x => simp only [execOp, Sem.run_pure] at h; injection h with h1 h2; exact ⟨_, h1.symm⟩
  case nilCheck x =>
    simp only [execOp] at h
    split at h
    · simp [go_sem] at h
    · simp [go_sem] at h
    · simp [go_sem] at h
    · split at h
      · simp [go_sem] at h
      · refine bval (fun b w1 w2 m h2 => ?_) h
        refine bval (fun b w1 w2 m h2 => ?_) h2
        split at h2
        · refine bval (fun b w1 w2 m h2 => ?_) h2
          simp only [Sem.run_pure] at h2; injection h2 with h1 h2; exact ⟨_, h1.symm⟩
        · simp only [Sem.run_pure] at h2; injection h2 with h1 h2; exact ⟨_, h1.symm⟩
      · simp only [Sem.run_pure] at h; injection h with h1 h2; exact ⟨_, h1.symm⟩
    · simp only [Sem.run_pure] at h; injection h with h1 h2; exact ⟨_, h1.symm⟩
  case pick x y z =>
    refine bval (fun b w1 w2 m h2 => ?_) h
    simp only [Sem.run_pure] at h2; injection h2 with h1 h2; exact ⟨_, h1.symm⟩
  all_goals exact vrun h
theorem YieldsIn.toIf {P : Program} {ops : Array Oper} {S : World → Prop} {o : Oper} {v : Value} {a : Act} (hr : rdB o.op = true) (hy : YieldsIn P ops S o v a) : YieldsIf P ops S o v a := by
  rcases hy with ⟨hw, h⟩ | h
  · refine Or.inl ⟨hw, fun w hS => ?_⟩
    have h1 := h w hS
    unfold Oper.quietAt at h1
    cases hrun : (execOp a.eval o).run P w with
    | ok n w' =>
      obtain ⟨u, rfl⟩ := rd_value hr hrun
      rw [hrun] at h1
      obtain ⟨rfl, rfl⟩ := h1
      rfl
    | halt x w' => rw [hrun] at h1; exact h1.elim
  · exact Or.inr h
section
variable {P : Program} {ops : Array Oper} {Q : Exit → Act → World → Prop} {md : Region.Mode} {S : World → Prop} {z : Nat}
/-- Whatever order is picked; S holds behind every operation but z. -/
def wpAnyZ (P : Program) (md : Region.Mode) (ops : Array Oper) (Q : Exit → Act → World → Prop) (S : World → Prop) (z : Nat) : Nat → Array Bool → Act → World → Prop
  | 0, listed, a, w => Region.ready md ops listed = [] ∧ Q .normal a w
  | fuel + 1, listed, a, w =>
    (Region.ready md ops listed = [] → Q .normal a w) ∧
    ∀ i ∈ Region.ready md ops listed, wpOp P ops Q i (fun a' w' => (i ≠ z → S w') ∧ wpAnyZ P md ops Q S z fuel (listed.setIfInBounds i true) a' w') a w
theorem wpAny_of_Z : ∀ (fuel : Nat) (listed : Array Bool) (a : Act) (w : World), wpAnyZ P md ops Q S z fuel listed a w → wpAny P md ops Q fuel listed a w
  | 0, _, _, _, h => h
  | fuel + 1, _, _, _, h => ⟨h.1, fun i hi => wpOp_mono (fun a' w' h' => wpAny_of_Z fuel _ a' w' h'.2) (h.2 i hi)⟩
theorem Z_first {i : Nat} {oi : Oper} {v : Value} (hi : ops[i]? = some oi) (hiz : i < z) (hs : Region.sinkB md ops z = true) (hc : Region.chainB md ops z = true) (hn : z < ops.size) (hzl : z + 1 = ops.size)
    (hsel : ∀ (j : Nat) (o : Oper) cs b, ops[j]? = some o → o.op ≠ .select cs b) (hQ : ∀ c a w, Q (.panic c) (a.put oi.dst v) w → Q (.panic c) a w) :
    ∀ (fuel : Nat) (listed : Array Bool) (a : Act) (w : World), HeadInv md ops z listed →
      (∀ j oj, ops[j]? = some oj → j ≠ i → listed.getD j true = false → (∀ e ∈ oj.after, Region.binds md e = true → e.on ≠ i) → oi.apart ops oj = true) →
      i ∈ Region.ready md ops listed → YieldsIf P ops S oi v a → S w →
      wpAnyZ P md ops Q S z fuel (listed.setIfInBounds i true) (a.put oi.dst v) w → wpAnyZ P md ops Q S z (fuel + 1) listed a w := by
  intro fuel
  induction fuel with
  | zero =>
    intro listed a w inv _ hr hy hS H
    refine ⟨fun h => (by rw [h] at hr; cases hr), fun j hj => ?_⟩
    by_cases hji : j = i
    · subst hji; exact hy.wpOp hi hS ⟨fun _ => hS, H⟩
    · have := ready_mono hj hji
      rw [H.1] at this
      cases this
  | succ fuel ih =>
    intro listed a w inv hfree hr hy hS H
    refine ⟨fun h => (by rw [h] at hr; cases hr), fun j hj => ?_⟩
    by_cases hji : j = i
    · subst hji; exact hy.wpOp hi hS ⟨fun _ => hS, H⟩
    · have hun := (mem_ready.1 hr).1
      have hjz : j ≠ z := fun e => tail_waits hs hc hn inv _ i rfl hiz hun j (by omega) hj
      have h1 := H.2 j (ready_mono hj hji)
      obtain ⟨hjun, oj, hoj, hall⟩ := mem_ready.1 hj
      have hjl : j < z := by have := (Array.getElem?_eq_some_iff.1 hoj).1; omega
      have hnot : ∀ e ∈ oj.after, Region.binds md e = true → e.on ≠ i := fun e he hb heq => by
        have h1 := hall e he hb
        rw [heq, getD_both hun] at h1
        exact Bool.false_ne_true h1
      have h2 := wpOp_putIf hoj (hfree j oj hoj hji hjun hnot) (fun cs b => hsel i oi cs b hi) (fun cs b => hsel j oj cs b hoj) hQ hy h1
      have hfree' : ∀ k ok, ops[k]? = some ok → k ≠ i → (listed.setIfInBounds j true).getD k true = false →
          (∀ e ∈ ok.after, Region.binds md e = true → e.on ≠ i) → oi.apart ops ok = true := fun k ok hk hki hun hno => by
        refine hfree k ok hk hki ?_ hno
        by_cases hjk : j = k
        · subst hjk; exact hjun
        · rw [getD_set_ne true hjk] at hun; exact hun
      refine wpOp_mono (fun a' w' h3 => ⟨h3.2.1, ih (listed.setIfInBounds j true) a' w' (inv.set hj hjl) hfree' (ready_mono hr (Ne.symm hji)) h3.1 (h3.2.1 hjz) ?_⟩) h2
      rw [Array.setIfInBounds_comm _ _ hji]
      exact h3.2.2
/-- The tail, in its forced order; S holds behind each but the last. -/
def tailC (P : Program) (ops : Array Oper) (Q : Exit → Act → World → Prop) (S : World → Prop) : List Oper → Act → World → Prop
  | [], a, w => Q .normal a w
  | o :: rest, a, w =>
    if Region.wanted o (yielded ops a.tmps) = true then o.wp P a w (fun a' w' => (rest ≠ [] → S w') ∧ tailC P ops Q S rest a' w') Q ∨ (o.asks P a w ∧ LetsOut Q) else (rest ≠ [] → S w) ∧ tailC P ops Q S rest (a.put o.dst undef) w
/-- Normal ends go to K, the others to Q. -/
def QT (Q : Exit → Act → World → Prop) (K : Act → World → Prop) : Exit → Act → World → Prop
  | .normal, a, w => K a w
  | e, a, w => Q e a w
theorem QT.normal {K : Act → World → Prop} {a : Act} {w : World} (h : K a w) : QT Q K .normal a w := h
theorem wp_QT {o : Oper} {K K2 : Act → World → Prop} {a : Act} {w : World} (h : o.wp P a w K (QT Q K2)) : o.wp P a w K Q := by
  unfold Oper.wp at *
  generalize (execOp a.eval o).run P w = r at *
  cases r with
  | ok n w' =>
    cases n <;> simp only [Oper.upon] at h ⊢
    case enter f args => exact h.mono fun e w'' he => by cases e <;> exact he
    all_goals exact h
  | halt x w' => cases x <;> simp only [Oper.upon] at h ⊢ <;> exact h
/-- One operation of the tail. -/
theorem tailC_one {o : Oper} {rest : List Oper} {a : Act} {w : World} (hg : o.guard = none) (h : wpList P ops (QT Q fun a' w' => (rest ≠ [] → S w') ∧ tailC P ops Q S rest a' w') [o] a w) : tailC P ops Q S (o :: rest) a w := by
  have hw : Region.wanted o (yielded ops a.tmps) = true := by simp [Region.wanted, hg]
  simp only [wpList, hw, if_true] at h
  simp only [tailC, hw, if_true]
  rcases h with h | ⟨h1, h2⟩
  · exact Or.inl (wp_QT h)
  · exact Or.inr ⟨h1, by obtain ⟨a, w, h⟩ := h2; exact ⟨a, w, h⟩⟩
theorem tailC_nil {a : Act} {w : World} (h : Q .normal a w) : tailC P ops Q S [] a w := h
theorem Z_seq : ∀ (l : List Oper) (k : Nat) (listed : Array Bool) (a : Act) (w : World), (∀ j, l[j]? = ops[k + j]?) → k + l.length = z + 1 →
    Region.seqB md ops l.length k listed = true → tailC P ops Q S l a w → wpAnyZ P md ops Q S z l.length listed a w
  | [], _, _, _, _, _, _, hB, h => ⟨by simpa [Region.seqB] using hB, h⟩
  | o :: l, k, listed, a, w, hl, hk, hB, h => by
    have h0 : ops[k]? = some o := by simpa using (hl 0).symm
    simp only [List.length_cons, Region.seqB, Bool.and_eq_true, decide_eq_true_eq] at hB
    simp only [List.length_cons] at hk
    refine ⟨fun h1 => (by rw [hB.1] at h1; cases h1), fun i hi => ?_⟩
    rw [hB.1] at hi
    have hik : i = k := by simpa using hi
    subst hik
    have hw : wpOp P ops Q i (fun a' w' => (l ≠ [] → S w') ∧ tailC P ops Q S l a' w') a w := by unfold wpOp; simp only [h0]; simpa only [tailC] using h
    exact wpOp_mono (fun a' w' h' => ⟨fun hz => h'.1 (fun e => hz (by subst e; simp at hk; omega)), Z_seq l (i + 1) _ a' w' (fun j => by have := hl (j + 1); simpa [Nat.add_assoc, Nat.add_comm 1 j] using this) (by omega) hB.2 h'.2⟩) hw
theorem Z_lex {n g : Nat} {R : Act → Prop} {w : World} (hS : S w) (hsel : Region.noSelect ops = true) (hs : Region.sinkB md ops z = true) (hc : Region.chainB md ops z = true) (hzl : z + 1 = ops.size) (hnz : n ≤ z) (hQ : ∀ c a d v w, Q (.panic c) (a.put d v) w → Q (.panic c) a w)
    (hR : ∀ (listed : Array Bool) (a : Act), Region.seqB md ops g n listed = true → R a → wpAnyZ P md ops Q S z g listed a w) :
    ∀ (l : List Oper) (k : Nat) (listed : Array Bool) (a : Act), (∀ j, j < l.length → l[j]? = ops[k + j]?) → k + l.length = n → l.all (fun o => rdB o.op) = true → HeadInv md ops z listed → Region.lexHead md ops g l.length k listed = true → wpQuiet P ops S R l a →
      wpAnyZ P md ops Q S z (l.length + g) listed a w
  | [], k, listed, a, _, hk, _, _, hB, h => by
    obtain rfl : k = n := by simpa using hk
    rw [List.length_nil, Nat.zero_add]
    exact hR listed a (by simpa [Region.lexHead] using hB) h
  | o :: l, k, listed, a, hl, hk, hrd, inv, hB, h => by
    have h0 : ops[k]? = some o := by simpa using (hl 0 (by simp)).symm
    simp only [List.length_cons, Region.lexHead, Bool.and_eq_true] at hB
    simp only [List.length_cons] at hk
    simp only [List.all_cons, Bool.and_eq_true] at hrd
    have hr : k ∈ Region.ready md ops listed := by simpa using hB.1.1
    obtain ⟨v, hy, hK⟩ := yieldsIn_of_qOp (C := S) h0 (show qOp P ops S k (wpQuiet P ops S R l) a by unfold qOp; simp only [h0]; exact h)
    have := Z_first (P := P) (Q := Q) h0 (by omega) hs hc (by omega) hzl (Region.noSelect_spec hsel) (fun c a w => hQ c a o.dst v w) (l.length + g) listed a w inv (Region.free_spec h0 hB.1.2) hr (YieldsIn.toIf hrd.1 hy) hS
      (Z_lex hS hsel hs hc hzl hnz hQ hR l (k + 1) _ _ (fun j hj => by have := hl (j + 1) (by simp; omega); simpa [Nat.add_assoc, Nat.add_comm 1 j] using this) (by omega) hrd.2 (inv.set hr (by omega)) hB.2 hK)
    rwa [show (o :: l).length + g = l.length + g + 1 by simp; omega]
end
def zTailB (l : List Oper) (n : Nat) : Bool :=
  Region.noSelect l.toArray && decide (n < l.length) && Region.sinkB .any l.toArray (l.length - 1) && Region.chainB .any l.toArray (l.length - 1) && (l.take n).all (fun o => rdB o.op) && Region.lexHead .any l.toArray (l.length - n) n 0 (Array.replicate l.length false)
/-- The first n operations read; the others come in a forced order as soon as those are done, the last one waits for all. -/
theorem wp_region_reads_tail {P : Program} {id : Nat} {Q : Exit → Act → World → Prop} {a : Act} {w : World} {l : List Oper} (n : Nat) (I : Nat → Prop) (hm : P.follows .mixedOrders = true) (hB : zTailB l n = true)
    (hQ : ∀ c a d v w, Q (.panic c) (a.put d v) w → Q (.panic c) a w)
    (h : wpQuiet P l.toArray (fun w' => ∃ m : KX w I, w' = m.X) (fun b => tailC P l.toArray Q (fun w' => ∃ m : KX w I, w' = m.X) (l.drop n) b w.drew) (l.take n) a) : (Code.region id l.toArray true).wp P Q a w := by
  simp only [zTailB, Bool.and_eq_true, decide_eq_true_eq] at hB
  obtain ⟨⟨⟨⟨⟨hsel, hn⟩, hs⟩, hc⟩, hrd⟩, hx⟩ := hB
  have ht : (l.take n).length = n := by rw [List.length_take]; omega
  have hd : (l.drop n).length = l.length - n := by simp
  have hzs : l.length - 1 + 1 = l.toArray.size := by simp; omega
  refine wp_region_any hm (wpAny_of_Z _ _ _ _ (z := l.length - 1) (S := fun w' => ∃ m : KX w I, w' = m.X) ?_)
  have := Z_lex (P := P) (Q := Q) (md := .any) (S := fun w' => ∃ m : KX w I, w' = m.X) (n := n) (g := l.length - n) (w := { w with drawn := w.drawn + 1 }) ⟨⟨_, Kept.of_below (Below.refl _ w).drew⟩, rfl⟩ hsel hs hc hzs (by omega) hQ (fun listed b hB2 hb => by
      have h3 := Z_seq (P := P) (Q := Q) (md := .any) (ops := l.toArray) (S := fun w' => ∃ m : KX w I, w' = m.X) (z := l.length - 1) (l.drop n) n listed b _ (fun j => by simp [List.getElem?_drop]) (by rw [hd]; omega) (by rw [hd]; exact hB2) hb
      rwa [hd] at h3)
    (l.take n) 0 (Array.replicate l.length false) a (fun j hj => by rw [ht] at hj; simp [hj]) (by simpa using ht) hrd
    ⟨by simp, fun j q _ hl => (by rw [getD_replicate_false] at hl; cases hl), fun t _ h2 => getD_in (by simpa using h2) (getD_replicate_false _ _)⟩ (by rw [ht]; exact hx) h
  rwa [ht, show n + (l.length - n) = l.toArray.size by simp; omega, show Array.replicate l.length false = Array.replicate l.toArray.size false by simp] at this
theorem KX.in_ {w X : World} {I : Nat → Prop} (h : Kept w X I) : ∃ m : KX w I, X = m.X := ⟨⟨X, h⟩, rfl⟩
end Go.Proofs.YtbiamjgkedmceaaGreatDoor

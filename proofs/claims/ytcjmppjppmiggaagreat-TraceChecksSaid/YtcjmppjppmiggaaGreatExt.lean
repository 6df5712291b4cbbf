/- A region that draws its order, whose operations read and whose callees may make memory but change none: one walk, in the order of the text. Over any program. -/
import Derived.Test.YtcjmppjppmiggaaGreatM1
import Derived.Deep.QuietTactic
import Derived.BigQuiet
import Derived.StillTail
namespace Go.Proofs.YtcjmppjppmiggaaGreat
open Go.RowKit
set_option linter.unusedVariables false
set_option linter.unusedSimpArgs false

structure Ext (w : World) where
  X : World
  h : Below w.heap.size w X
instance ext_some (w : World) : Nonempty (Ext w) := ⟨⟨w, Below.refl _ _⟩⟩
theorem Ext.call {P : Program} {f : FuncId} {args : Array Value} {w : World} {n : Ext w} {v : Value} (h : Calls P f args n.X fun e w' => e = .returned v ∧ Below n.X.heap.size n.X w') :
    Calls P f args n.X fun e w'' => e = .returned v ∧ ∃ m : Ext w, w'' = m.X :=
  h.mono fun _ _ ⟨he, hb⟩ => ⟨he, ⟨_, n.h.trans (hb.mono n.h.size)⟩, rfl⟩
theorem Ext.same2 {P : Program} {f : FuncId} {args : Array Value} {w : World} {n : Ext w} {v : Value} (h : Calls P f args n.X fun e w' => e = .returned v ∧ n.X = w') :
    Calls P f args n.X fun e w'' => e = .returned v ∧ ∃ m : Ext w, w'' = m.X :=
  h.mono fun _ _ ⟨he, hb⟩ => ⟨he, n, hb.symm⟩
theorem wp_region_ext {P : Program} {id : Nat} {Q : Exit → Act → World → Prop} {a : Act} {w : World} {l : List Oper} (hm : P.follows .mixedOrders = true) (hB : Region.lexB .any l.toArray = true)
    (h : wpQuiet P l.toArray (fun w' => ∃ n : Ext w, w' = n.X) (fun a' => ∀ w', (∃ n : Ext w, w' = n.X) → Q .normal a' w') l a) : (Code.region id l.toArray true).wp P Q a w :=
  wp_region_quiet (C := fun w' => ∃ n : Ext w, w' = n.X) hm hB ⟨⟨_, (Below.refl _ w).drew⟩, rfl⟩ (by simpa using h)
theorem Ext.end_ {P : Program} {ops : Array Oper} {w : World} {Q : Exit → Act → World → Prop} {a : Act} (h : ∀ X, Below w.heap.size w X → Q .normal a X) :
    wpQuiet P ops (fun w' => ∃ n : Ext w, w' = n.X) (fun a' => ∀ w', (∃ n : Ext w, w' = n.X) → Q .normal a' w') [] a :=
  wpQuiet_nil (fun w' ⟨n, hn⟩ => hn ▸ h n.X n.h)
/-! ### A head in any order, a tail in a forced order -/
section
variable {P : Program} {ops : Array Oper} {md : Region.Mode} {C : World → Prop} {n : Nat} {L : Array Bool → Act → Prop}
def HeadQ (P : Program) (md : Region.Mode) (ops : Array Oper) (C : World → Prop) (n : Nat) (L : Array Bool → Act → Prop) : Nat → Array Bool → Act → Prop
  | 0 => L
  | k + 1 => fun done a => Region.ready md ops done ≠ [] ∧ ∀ i ∈ Region.ready md ops done, i < n ∧ qOp P ops C i (HeadQ P md ops C n L k (done.setIfInBounds i true)) a
theorem HeadQ.any {g : Nat} {Q : Exit → Act → World → Prop} (hL : ∀ done a w, C w → L done a → wpAny P md ops Q g done a w) : ∀ (k : Nat) (done : Array Bool) (a : Act) (w : World), C w → HeadQ P md ops C n L k done a → wpAny P md ops Q (k + g) done a w
  | 0, done, a, w, hw, h => by rw [Nat.zero_add]; exact hL done a w hw h
  | k + 1, done, a, w, hw, h => by
    rw [Nat.succ_add]
    exact ⟨fun e => absurd e h.1, fun i hi => wpOp_of_qOp hw (fun a2 w2 hw2 h2 => HeadQ.any hL k _ a2 w2 hw2 h2) (h.2 i hi).2⟩
theorem HeadQ.take {i : Nat} {o : Oper} {v : Value} (hi : ops[i]? = some o) (hsel : ∀ (j : Nat) (o : Oper) cs b, ops[j]? = some o → o.op ≠ .select cs b)
    (hs : Region.sinkB md ops n = true) (hc : Region.chainB md ops n = true) (hn : n < ops.size) (hin : i < n) (hend : ∀ done a, L done a → ∀ j ∈ Region.ready md ops done, n ≤ j) :
    ∀ (k : Nat) (done : Array Bool) (a : Act), HeadInv md ops n done → (∀ j q, ops[j]? = some q → j ≠ i → done.getD j true = false → (∀ e ∈ q.after, Region.binds md e = true → e.on ≠ i) → o.apart ops q = true) →
      i ∈ Region.ready md ops done → YieldsIn P ops C o v a → HeadQ P md ops C n L k (done.setIfInBounds i true) (a.put o.dst v) → HeadQ P md ops C n L (k + 1) done a := by
  intro k
  induction k with
  | zero =>
    intro done a inv _ hr hy H
    have hun := (mem_ready.1 hr).1
    refine ⟨List.ne_nil_of_mem hr, fun j hj => ?_⟩
    have hjn : j < n := Nat.lt_of_not_le fun hle => tail_waits hs hc hn inv _ i rfl hin hun j hle hj
    by_cases hji : j = i
    · subst hji; exact ⟨hjn, hy.qOp hi H⟩
    · exact absurd (hend _ _ H j (ready_mono hj hji)) (by omega)
  | succ k ih =>
    intro done a inv hfree hr hy H
    have hun := (mem_ready.1 hr).1
    refine ⟨List.ne_nil_of_mem hr, fun j hj => ?_⟩
    have hjn : j < n := Nat.lt_of_not_le fun hle => tail_waits hs hc hn inv _ i rfl hin hun j hle hj
    by_cases hji : j = i
    · subst hji; exact ⟨hjn, hy.qOp hi H⟩
    · obtain ⟨hju, q, hq, hall⟩ := mem_ready.1 hj
      have hno : ∀ e ∈ q.after, Region.binds md e = true → e.on ≠ i := fun e he hb heq => by
        have h5 := hall e he hb
        rw [heq, getD_both hun] at h5
        exact Bool.false_ne_true h5
      have h2 := qOp_put hq (hfree j q hq hji hju hno) (fun cs b => hsel i o cs b hi) (fun cs b => hsel j q cs b hq) hy (H.2 j (ready_mono hj hji)).2
      refine ⟨hjn, qOp_mono (fun a2 h3 => ih (done.setIfInBounds j true) a2 (inv.set hj hjn) (fun m r hm hmi hmu hmn => hfree m r hm hmi ?_ hmn) (ready_mono hr (Ne.symm hji)) h3.1 (by rw [Array.setIfInBounds_comm _ _ hji]; exact h3.2)) h2⟩
      by_cases hjm : j = m
      · subst hjm; exact hju
      · rwa [getD_set_ne true hjm] at hmu
theorem HeadQ.lex {g : Nat} {R : Act → Prop} (hsel : Region.noSelect ops = true) (hs : Region.sinkB md ops n = true) (hc : Region.chainB md ops n = true) (hn : n < ops.size) :
    ∀ (l : List Oper) (k : Nat) (done : Array Bool) (a : Act), (∀ j, j < l.length → l[j]? = ops[k + j]?) → k + l.length = n → HeadInv md ops n done → Region.lexHead md ops g l.length k done = true → wpQuiet P ops C R l a →
      HeadQ P md ops C n (fun d b => Region.seqB md ops g n d = true ∧ R b) l.length done a
  | [], k, done, a, _, hk, _, hB, h => by
    obtain rfl : k = n := by simpa using hk
    exact ⟨by simpa [Region.lexHead] using hB, h⟩
  | o :: l, k, done, a, hl, hk, inv, hB, h => by
    have h0 : ops[k]? = some o := by simpa using (hl 0 (by simp)).symm
    simp only [List.length_cons, Region.lexHead, Bool.and_eq_true] at hB
    simp only [List.length_cons] at hk
    have hr : k ∈ Region.ready md ops done := by simpa using hB.1.1
    obtain ⟨v, hy, hK⟩ := yieldsIn_of_qOp (C := C) h0 (show qOp P ops C k (wpQuiet P ops C R l) a by unfold qOp; simp only [h0]; exact h)
    exact HeadQ.take h0 (Region.noSelect_spec hsel) hs hc hn (by omega) (fun d b hL => seqB_ready hL.1) l.length done a inv (Region.free_spec h0 hB.1.2) hr hy
      (HeadQ.lex hsel hs hc hn l (k + 1) _ _ (fun j hj => by have := hl (j + 1) (by simp; omega); simpa [Nat.add_assoc, Nat.add_comm 1 j] using this) (by omega) (inv.set hr (by omega)) hB.2 hK)
end
theorem wp_region_ext_tail {P : Program} {id : Nat} {Q : Exit → Act → World → Prop} {a : Act} {w : World} {l : List Oper} (n : Nat) (hm : P.follows .mixedOrders = true) (hB : Region.lexTailB .any l.toArray n = true)
    (h : wpQuiet P l.toArray (fun w' => ∃ m : Ext w, w' = m.X) (fun b => ∀ w', (∃ m : Ext w, w' = m.X) → wpList P l.toArray Q (l.drop n) b w') (l.take n) a) : (Code.region id l.toArray true).wp P Q a w := by
  simp only [Region.lexTailB, Bool.and_eq_true, decide_eq_true_eq] at hB
  obtain ⟨⟨⟨⟨hsel, hn⟩, hs⟩, hc⟩, hx⟩ := hB
  have hnl : n < l.length := by simpa using hn
  have ht : (l.take n).length = n := by rw [List.length_take]; omega
  have hd : (l.drop n).length = l.toArray.size - n := by simp
  have H := HeadQ.lex (C := fun w' => ∃ m : Ext w, w' = m.X) (md := .any) (g := l.toArray.size - n) hsel hs hc hn (l.take n) 0 (Array.replicate l.toArray.size false) a
    (fun j hj => by rw [ht] at hj; simp [hj]) (by simpa using ht)
    ⟨by simp, fun j q _ hl => (by rw [getD_replicate_false] at hl; cases hl), fun t _ h2 => getD_in (by simpa using h2) (getD_replicate_false _ _)⟩ (by rw [ht]; exact hx) h
  have h2 := HeadQ.any (Q := Q) (g := l.toArray.size - n) (fun done b w2 hw2 hL => by
    have h3 := wpAny_of_seq (md := .any) (Q' := Q) (l.drop n) n done b w2 (fun j => by simp [List.getElem?_drop]) (by rw [hd]; exact hL.1) (hL.2 w2 hw2)
    rwa [hd] at h3) _ _ _ { w with drawn := w.drawn + 1 } ⟨⟨_, (Below.refl _ w).drew⟩, rfl⟩ H
  refine wp_region_any hm ?_
  rwa [ht, show n + (l.toArray.size - n) = l.toArray.size by omega] at h2
theorem Ext.tail {P : Program} {ops : Array Oper} {w : World} {Q : Exit → Act → World → Prop} {l : List Oper} {a : Act} (h : ∀ X, Below w.heap.size w X → wpList P ops Q l a X) :
    wpQuiet P ops (fun w' => ∃ n : Ext w, w' = n.X) (fun b => ∀ w', (∃ n : Ext w, w' = n.X) → wpList P ops Q l b w') [] a :=
  wpQuiet_nil (fun w' ⟨n, hn⟩ => hn ▸ h n.X n.h)
end Go.Proofs.YtcjmppjppmiggaaGreat

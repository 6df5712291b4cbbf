/- Lemmas and contracts of functions that statements of this seat stand on, many texts in one; each holds under the premises typed in its head. -/
import Derived.Test.YtcjmppjppmiggaaGreatSt0
import Derived.Test.YtcjmppjppmiggaaGreatM8
import Derived.Test.YtcjmppjppmiggaaGreatRt5
import Derived.Test.YtcjmppjppmiggaaGreatMB
import Derived.Test.YtcjmppjppmiggaaGreatRt7
/- The document's story at memory: each block bears its part's number. -/
namespace Go.Proofs.YtcjmppjppmiggaaGreat
open Go.RowKit
set_option linter.unusedVariables false
set_option linter.unusedSimpArgs false

set_option maxRecDepth 100000
structure RL where
  num : Nat
  W : SL
  ws : List Wr
structure RC where
  num : Int
  asked : Nat
  served : Nat
  ended : Bool
def RC.cells (r : RC) : List Value := [.int .i64 r.num, .int .i64 r.asked, .int .i64 r.served, .bool r.ended]
theorem len_RC (r : RC) : (RC.cells r).length = 4 := rfl
theorem one_RC (r : RC) : ∀ u ∈ RC.cells r, u.oneCell' = true := fun u hu => by
  simp [RC.cells] at hu
  rcases hu with rfl | rfl | rfl | rfl <;> rfl
def rlaneC (h : Ln) (l : RL) : List Value := [.int .i64 l.num, l.W.v, .bool (decide (h.num ≠ 0)), .int .i64 h.sent, .int .i64 h.ack]
def rlanesC (ls : List Ln) (sl : List RL) : List Value := (ls.zip sl).flatMap fun p => rlaneC p.1 p.2
structure RA where
  g : Nat
  gt : Nat
  t : Nat
  ln : Nat
  qb : Nat
  A : Option Addr
  n : Nat
  cap : Nat
  B : SL
  N : Nat
  F : Nat → Option Obj
structure RG where
  line : SL
  gone : SL
  QA : List SL
  LA : List RL
  C : SL
  cs : List RC
  T : SL
  xs : List O2
  K : SL
  bd : Nat
def rheld (s : TS) : Nat := if s.holds = true then s.at_ else 0
def rstoryC (c : Cfg) (a : RA) (x : RG) (s : TS) : Array Value :=
  #[.int .i64 c.lanes, .int .i64 c.shards, .int .i64 c.window, .int .i64 c.queue, .slice a.A a.n a.cap, .int .i64 s.at_, .int .i64 (rheld s), a.B.v, ptrV a.t, ptrV a.gt, x.line.v, x.gone.v, .slice (some ⟨a.ln, 0, none⟩) c.lanes.toNat c.lanes.toNat, .slice (some ⟨a.qb, 0, none⟩) c.shards.toNat c.shards.toNat, x.C.v]
structure CallsFit (k : Nat) (m : List (Int × (Int × Bool))) (cs : List RC) : Prop where
  len : cs.length ≤ k
  small : ∀ r ∈ cs, r.asked ≤ k ∧ r.served ≤ k
  nodup : (cs.map RC.num).Nodup
  fit : ∀ t : Int, mget m t = (cs.find? fun r => decide (r.num = t)).map fun r => ((r.asked : Int) - r.served, r.ended)
structure RsH (w : World) (φ : Nat → Nat) (Bo : Nat) (I : Nat → Prop) (c : Cfg) (rs rs' : List RTx) (by_ : List Int) (a : RA) (x : RG) (s : TS) : Prop where
  lo : Bo ≤ w.heap.size
  zero : ∀ b, b < Bo → φ b = 0
  log : TxsAt w Bo a.A a.n rs
  bey : RowAt Icell 1 w Bo a.B.A a.B.n by_
  st : ¬ I 1 → w.heap[a.g]? = some (.cells (rstoryC c a x s) 79 (0, 0))
  fst : φ a.g = 1 ∧ Bo ≤ a.g ∧ a.g < w.heap.size
  ln : ¬ I 2 → w.heap[a.ln]? = some (.cells (rlanesC s.lanes x.LA).toArray 149 (0, 0)) ∧ x.LA.length = s.lanes.length
  fln : φ a.ln = 2 ∧ Bo ≤ a.ln ∧ a.ln < w.heap.size
  lw : ∀ (i : Nat) (h : Ln) (l : RL), s.lanes[i]? = some h → x.LA[i]? = some l → h.num ≠ 0 → l.num = h.num ∧ l.ws = wsOf rs (h.num - 1) ∧ h.ws = cntW l.ws ∧ WsAt w Bo l.W.A l.W.n l.ws ∧ l.W.n ≤ l.W.c ∧ l.W.n ≤ 32
  qb : ¬ I 3 → w.heap[a.qb]? = some (.cells (x.QA.map SL.v).toArray 144 (0, 0)) ∧ x.QA.length = s.qs.length
  fqb : φ a.qb = 3 ∧ Bo ≤ a.qb ∧ a.qb < w.heap.size
  qw : ∀ (i : Nat) (q : List (Int × Int)) (l : SL), s.qs[i]? = some q → x.QA[i]? = some l → ¬ I (100 + i) → TkAt askC 2 146 w Bo l.A l.n l.c q ∧ At φ (100 + i) l.A
  line : ¬ I 10 → TkAt natC 1 3 w Bo x.line.A x.line.n x.line.c s.line ∧ At φ 10 x.line.A
  gone : ¬ I 11 → TkAt natC 1 3 w Bo x.gone.A x.gone.n x.gone.c s.gone ∧ At φ 11 x.gone.A
  calls : ¬ I 4 → TkAt RC.cells 4 142 w Bo x.C.A x.C.n x.C.c x.cs ∧ At φ 4 x.C.A ∧ CallsFit x.bd s.calls x.cs
  gt : ¬ I 9 → RGAt w Bo a.gt x.K.A x.K.n x.K.c s.G
  fgt : φ a.gt = 9 ∧ Bo ≤ a.gt ∧ a.gt < w.heap.size ∧ At φ 9 x.K.A
  tb : ¬ I 8 → RTAt w Bo a.t x.T.A x.T.n x.T.c x.xs ∧ RInv rs' s.m s.E (x.xs.map O2.o) ∧ ∀ q, 1 ≤ q → q ≤ s.m → s.E q = true → depL rs' s.E q = []
  ftb : ∀ b, hasR a.t x.T.A x.xs b → φ b = 8 ∧ Bo ≤ b ∧ b < w.heap.size
  fr : a.N ≤ w.heap.size ∧ ∀ b, b < a.N → φ b = 30 → w.heap[b]? = a.F b
abbrev RsAt (w : World) (φ : Nat → Nat) (Bo : Nat) (c : Cfg) (rs rs' : List RTx) (by_ : List Int) (a : RA) (x : RG) (s : TS) : Prop := RsH w φ Bo (fun _ => False) c rs rs' by_ a x s
theorem RGAt.kept2 {w w' : World} {Bo g n c : Nat} {A : Option Addr} {G : Gt} {X : Nat → Prop} (h : RGAt w Bo g A n c G) (k : Kept w w' X) (h1 : ¬ X g) (h2 : ∀ a, A = some a → ¬ X a.block) : RGAt w' Bo g A n c G :=
  ⟨h.ok, k.blk h.st (blk_lt h.st) h1, h.tk.kept k h2⟩
section
variable {w w' : World} {φ φ' : Nat → Nat} {Bo : Nat} {I J : Nat → Prop} {c : Cfg} {rs rs' : List RTx} {by_ : List Int} {a : RA} {x : RG} {s : TS}
theorem RsH.kept (h : RsH w φ Bo J c rs rs' by_ a x s) (k : Kept w w' (fun b => I (φ b))) (h0 : ¬ I 0) (h30 : ¬ I 30) (hJ : ∀ i, J i → I i) : RsH w' φ Bo I c rs rs' by_ a x s := by
  have hb : Below Bo w w' := k.below h.lo (fun b hb => Nat.not_lt.1 fun hlt => h0 (by rw [← h.zero b hlt]; exact hb))
  have n : ∀ i, ¬ I i → ¬ J i := fun i hi hj => hi (hJ i hj)
  have at_ : ∀ {i : Nat} {A : Option Addr}, ¬ I i → At φ i A → ∀ ad, A = some ad → ¬ I (φ ad.block) := fun hi hA ad e hx => hi (by rw [← hA ad e]; exact hx)
  refine ⟨Nat.le_trans h.lo k.size, h.zero, h.log.below hb, h.bey.below hb, fun hi => ?_, ⟨h.fst.1, h.fst.2.1, Nat.lt_of_lt_of_le h.fst.2.2 k.size⟩, fun hi => ?_, ⟨h.fln.1, h.fln.2.1, Nat.lt_of_lt_of_le h.fln.2.2 k.size⟩, fun i p l e1 e2 e3 => ?_, fun hi => ?_, ⟨h.fqb.1, h.fqb.2.1, Nat.lt_of_lt_of_le h.fqb.2.2 k.size⟩, fun i q l h1 h2 hi => ?_, fun hi => ?_, fun hi => ?_, fun hi => ?_, fun hi => ?_, ⟨h.fgt.1, h.fgt.2.1, Nat.lt_of_lt_of_le h.fgt.2.2.1 k.size, h.fgt.2.2.2⟩, fun hi => ?_, fun b hb => ⟨(h.ftb b hb).1, (h.ftb b hb).2.1, Nat.lt_of_lt_of_le (h.ftb b hb).2.2 k.size⟩, ⟨Nat.le_trans h.fr.1 k.size, fun b hb h3 => (k.block b (Nat.lt_of_lt_of_le hb h.fr.1) (by rw [h3]; exact h30)).trans (h.fr.2 b hb h3)⟩⟩
  · exact k.blk (h.st (n _ hi)) (blk_lt (h.st (n _ hi))) (by rw [h.fst.1]; exact hi)
  · obtain ⟨g1, g2⟩ := h.ln (n _ hi)
    exact ⟨k.blk g1 (blk_lt g1) (by rw [h.fln.1]; exact hi), g2⟩
  · obtain ⟨g1, g2, g3, g4, g5, g6⟩ := h.lw i p l e1 e2 e3
    exact ⟨g1, g2, g3, g4.below hb, g5, g6⟩
  · obtain ⟨g1, g2⟩ := h.qb (n _ hi)
    exact ⟨k.blk g1 (blk_lt g1) (by rw [h.fqb.1]; exact hi), g2⟩
  · obtain ⟨g1, g2⟩ := h.qw i q l h1 h2 (n _ hi)
    exact ⟨g1.kept k (at_ hi g2), g2⟩
  · obtain ⟨g1, g2⟩ := h.line (n _ hi)
    exact ⟨g1.kept k (at_ hi g2), g2⟩
  · obtain ⟨g1, g2⟩ := h.gone (n _ hi)
    exact ⟨g1.kept k (at_ hi g2), g2⟩
  · obtain ⟨g1, g2, g3⟩ := h.calls (n _ hi)
    exact ⟨g1.kept k (at_ hi g2), g2, g3⟩
  · exact (h.gt (n _ hi)).kept2 k (by rw [h.fgt.1]; exact hi) (at_ hi h.fgt.2.2.2)
  · obtain ⟨g1, g2⟩ := h.tb (n _ hi)
    exact ⟨g1.kept k (fun b hb => by rw [(h.ftb b hb).1]; exact hi), g2⟩
theorem RsH.below (h : RsH w φ Bo J c rs rs' by_ a x s) (hb : Below w.heap.size w w') (h0 : ¬ J 0) (h30 : ¬ J 30) : RsH w' φ Bo J c rs rs' by_ a x s := h.kept (I := J) (Kept.of_below hb) h0 h30 (fun _ h => h)
theorem RsH.relabel (h : RsH w φ Bo (fun _ => False) c rs rs' by_ a x s) (hφ : ∀ b, b < w.heap.size → φ' b = φ b) : RsH w φ' Bo (fun _ => False) c rs rs' by_ a x s := by
  have at_ : ∀ {α : Type} {f : α → List Value} {z n cp i : Nat} {t : TypeId} {A : Option Addr} {l : List α}, TkAt f z t w Bo A n cp l → At φ i A → At φ' i A := fun hk hA ad e => by rw [hφ _ (hk.lt e).2]; exact hA ad e
  have N : ∀ i : Nat, ¬ (fun _ : Nat => False) i := fun _ h => h
  refine ⟨h.lo, fun b hb => by rw [hφ b (Nat.lt_of_lt_of_le hb h.lo)]; exact h.zero b hb, h.log, h.bey, h.st, ⟨by rw [hφ _ h.fst.2.2]; exact h.fst.1, h.fst.2⟩, h.ln, ⟨by rw [hφ _ h.fln.2.2]; exact h.fln.1, h.fln.2⟩, h.lw, h.qb, ⟨by rw [hφ _ h.fqb.2.2]; exact h.fqb.1, h.fqb.2⟩, fun i q l e1 e2 hi => ⟨(h.qw i q l e1 e2 hi).1, at_ (h.qw i q l e1 e2 hi).1 (h.qw i q l e1 e2 hi).2⟩, fun hi => ⟨(h.line hi).1, at_ (h.line hi).1 (h.line hi).2⟩, fun hi => ⟨(h.gone hi).1, at_ (h.gone hi).1 (h.gone hi).2⟩, fun hi => ⟨(h.calls hi).1, at_ (h.calls hi).1 (h.calls hi).2.1, (h.calls hi).2.2⟩, h.gt, ⟨by rw [hφ _ h.fgt.2.2.1]; exact h.fgt.1, h.fgt.2.1, h.fgt.2.2.1, at_ (h.gt (N 9)).tk h.fgt.2.2.2⟩, h.tb, fun b hb => ⟨by rw [hφ b (h.ftb b hb).2.2]; exact (h.ftb b hb).1, (h.ftb b hb).2⟩, ⟨h.fr.1, fun b hb e => h.fr.2 b hb (by rw [← hφ b (Nat.lt_of_lt_of_le hb h.fr.1)]; exact e)⟩⟩
theorem RsH.junk (h : RsAt w φ Bo c rs rs' by_ a x s) (k : Kept w w' (fun b => φ b = 50)) : RsAt w' φ Bo c rs rs' by_ a x s := by
  have g1 := h.kept (I := fun j => j = 50) k (by omega) (by omega) (fun _ h => h.elim)
  refine ⟨g1.lo, g1.zero, g1.log, g1.bey, fun _ => g1.st (by omega), g1.fst, fun _ => g1.ln (by omega), g1.fln, g1.lw, fun _ => g1.qb (by omega), g1.fqb, fun i q l e1 e2 _ => g1.qw i q l e1 e2 (by omega), fun _ => g1.line (by omega), fun _ => g1.gone (by omega), fun _ => g1.calls (by omega), fun _ => g1.gt (by omega), g1.fgt, fun _ => g1.tb (by omega), g1.ftb, g1.fr⟩
end
end Go.Proofs.YtcjmppjppmiggaaGreat

/- The document's story at memory: parts are written anew. -/

namespace Go.Proofs.YtcjmppjppmiggaaGreat
open Go.RowKit
set_option linter.unusedVariables false
set_option linter.unusedSimpArgs false

set_option maxRecDepth 100000
def MarkOk (w : World) (φ : Nat → Nat) (a : RA) : Prop := (∃ m : Int, w.cell? ⟨a.g, 9, none⟩ = some (.pointer (some ⟨a.gt, 0, none⟩)) ∧ w.cell? ⟨a.gt, 0, none⟩ = some (.int .i64 m)) ∧ ∀ b, b < a.N → φ b = 30 → w.heap[b]? = a.F b
theorem RsH.markOk {w : World} {φ φ0 : Nat → Nat} {Bo n : Nat} {c : Cfg} {rs rs' : List RTx} {by_ : List Int} {a : RA} {x : RG} {s : TS} (h : RsAt w φ Bo c rs rs' by_ a x s) (hl : ∀ b, b < n → φ b = φ0 b) (hN : a.N ≤ n) : MarkOk w φ0 a :=
  ⟨⟨s.G.mark, blk_cell (h.st (fun h => h)) 9, blk_cell (h.gt (fun h => h)).st 0⟩, fun b hb e => h.fr.2 b hb (by rw [hl b (Nat.lt_of_lt_of_le hb hN)]; exact e)⟩
def RTaskEnd (w : World) (φ : Nat → Nat) (Bo : Nat) (c : Cfg) (rs rs' : List RTx) (by_ : List Int) (a : RA) (bd : Nat) (r : TrA × TS) (e : Ending) (w' : World) : Prop :=
  ∃ k n sh ct : Int, e = .returned (.tuple #[.agg #[.int .i64 0, .int .u8 k, .int .i64 n, .int .i64 sh, .int .i64 ct, .int .i64 0], .bool r.1.2.2]) ∧ (Below Bo w w' ∧ MarkOk w' φ a) ∧
    (r.1.2.2 = true → k = r.1.1 ∧ n = r.1.2.1.number ∧ sh = r.1.2.1.shard ∧ ct = r.1.2.1.count ∧ ∃ φ' x', (∀ b, b < w.heap.size → φ' b = φ b) ∧ RsAt w' φ' Bo c rs rs' by_ a x' r.2 ∧ x'.bd ≤ bd + 1)
section
variable {w w' : World} {φ φ' : Nat → Nat} {Bo : Nat} {I J : Nat → Prop} {c : Cfg} {rs rs' : List RTx} {by_ : List Int} {a : RA} {x : RG} {s : TS}
theorem RsH.setc (h : RsH w φ Bo J c rs rs' by_ a x s) (h1 : ¬ J 1) (h0 : ¬ J 0) (h30 : ¬ J 30) (i : Nat) (v : Value) : RsH (w.setCell ⟨a.g, i, none⟩ v) φ Bo (fun j => j = 1 ∨ J j) c rs rs' by_ a x s ∧ (w.setCell ⟨a.g, i, none⟩ v).heap[a.g]? = some (.cells ((rstoryC c a x s).setIfInBounds i v) 79 (0, 0)) := by
  have k : Kept w (w.setCell ⟨a.g, i, none⟩ v) (fun b => (fun j => j = 1 ∨ J j) (φ b)) := (Kept.refl w _).setCell (p := ⟨a.g, i, none⟩) (Or.inl (Or.inl h.fst.1)) v
  exact ⟨h.kept k (fun h => by rcases h with h | h; exact absurd h (by omega); exact h0 h) (fun h => by rcases h with h | h; exact absurd h (by omega); exact h30 h) (fun _ h => Or.inr h), blk_set (h.st h1) i v⟩
theorem RsH.setGone (h : RsH w φ Bo J c rs rs' by_ a x s) (hJ : ∀ i, J i → i = 11) {A : Option Addr} {n cp : Nat} {l : List Nat} (hT : TkAt natC 1 3 w Bo A n cp l) (hA : At φ 11 A) :
    RsAt (w.setCell ⟨a.g, 11, none⟩ (.slice A n cp)) φ Bo c rs rs' by_ a { x with gone := ⟨A, n, cp⟩ } { s with gone := l } := by
  obtain ⟨g1, g2⟩ := h.setc (fun h => by have := hJ _ h; omega) (fun h => by have := hJ _ h; omega) (fun h => by have := hJ _ h; omega) 11 (.slice A n cp)
  have nj : ∀ i, i ≠ 1 → i ≠ 11 → ¬ (i = 1 ∨ J i) := fun i h1 h2 h => by rcases h with h | h; exact h1 h; exact h2 (hJ _ h)
  exact ⟨g1.lo, g1.zero, g1.log, g1.bey, fun _ => g2, g1.fst, fun _ => g1.ln (nj 2 (by omega) (by omega)), g1.fln, g1.lw, fun _ => g1.qb (nj 3 (by omega) (by omega)), g1.fqb, fun i q l e1 e2 _ => g1.qw i q l e1 e2 (nj (100 + i) (by omega) (by omega)), fun _ => g1.line (nj 10 (by omega) (by omega)), fun _ => ⟨kept_at hT hA h.fst.1 (by omega) _ _, hA⟩, fun _ => g1.calls (nj 4 (by omega) (by omega)), fun _ => g1.gt (nj 9 (by omega) (by omega)), g1.fgt, fun _ => g1.tb (nj 8 (by omega) (by omega)), g1.ftb, g1.fr⟩
theorem RsH.setLine (h : RsH w φ Bo J c rs rs' by_ a x s) (hJ : ∀ i, J i → i = 10) {A : Option Addr} {n cp : Nat} {l : List Nat} (hT : TkAt natC 1 3 w Bo A n cp l) (hA : At φ 10 A) :
    RsAt (w.setCell ⟨a.g, 10, none⟩ (.slice A n cp)) φ Bo c rs rs' by_ a { x with line := ⟨A, n, cp⟩ } { s with line := l } := by
  obtain ⟨g1, g2⟩ := h.setc (fun h => by have := hJ _ h; omega) (fun h => by have := hJ _ h; omega) (fun h => by have := hJ _ h; omega) 10 (.slice A n cp)
  have nj : ∀ i, i ≠ 1 → i ≠ 10 → ¬ (i = 1 ∨ J i) := fun i h1 h2 h => by rcases h with h | h; exact h1 h; exact h2 (hJ _ h)
  exact ⟨g1.lo, g1.zero, g1.log, g1.bey, fun _ => g2, g1.fst, fun _ => g1.ln (nj 2 (by omega) (by omega)), g1.fln, g1.lw, fun _ => g1.qb (nj 3 (by omega) (by omega)), g1.fqb, fun i q l e1 e2 _ => g1.qw i q l e1 e2 (nj (100 + i) (by omega) (by omega)), fun _ => ⟨kept_at hT hA h.fst.1 (by omega) _ _, hA⟩, fun _ => g1.gone (nj 11 (by omega) (by omega)), fun _ => g1.calls (nj 4 (by omega) (by omega)), fun _ => g1.gt (nj 9 (by omega) (by omega)), g1.fgt, fun _ => g1.tb (nj 8 (by omega) (by omega)), g1.ftb, g1.fr⟩
theorem RsH.setGate (h : RsAt w φ Bo c rs rs' by_ a x s) {G : Gt} {A : Option Addr} {n cp : Nat} (hG : RGAt w' Bo a.gt A n cp G) (hA : At φ 9 A) (k : Kept w w' (fun b => b = a.gt)) : RsAt w' φ Bo c rs rs' by_ a { x with K := ⟨A, n, cp⟩ } { s with G := G } := by
  have g1 := h.kept (I := fun j => j = 9) (k.mono fun b hb => by rw [hb]; exact h.fgt.1) (by omega) (by omega) (fun _ h => h.elim)
  exact ⟨g1.lo, g1.zero, g1.log, g1.bey, fun _ => g1.st (by omega), g1.fst, fun _ => g1.ln (by omega), g1.fln, g1.lw, fun _ => g1.qb (by omega), g1.fqb, fun i q l e1 e2 _ => g1.qw i q l e1 e2 (by omega), fun _ => g1.line (by omega), fun _ => g1.gone (by omega), fun _ => g1.calls (by omega), fun _ => hG, ⟨g1.fgt.1, g1.fgt.2.1, g1.fgt.2.2.1, hA⟩, fun _ => g1.tb (by omega), g1.ftb, g1.fr⟩
theorem RsH.setTab (h : RsAt w φ Bo c rs rs' by_ a x s) {E : Nat → Bool} {A : Option Addr} {n cp : Nat} {zs : List O2} (hT : RTAt w' Bo a.t A n cp zs) (hI : RInv rs' s.m E (zs.map O2.o) ∧ ∀ q, 1 ≤ q → q ≤ s.m → E q = true → depL rs' E q = []) (hb : ∀ b, hasR a.t A zs b → φ b = 8 ∧ Bo ≤ b ∧ b < w'.heap.size) (k : Kept w w' (hasR a.t x.T.A x.xs)) : RsAt w' φ Bo c rs rs' by_ a { x with T := ⟨A, n, cp⟩, xs := zs } { s with E := E } := by
  have g1 := h.kept (I := fun j => j = 8) (k.mono fun b hb => (h.ftb b hb).1) (by omega) (by omega) (fun _ h => h.elim)
  exact ⟨g1.lo, g1.zero, g1.log, g1.bey, fun _ => g1.st (by omega), g1.fst, fun _ => g1.ln (by omega), g1.fln, g1.lw, fun _ => g1.qb (by omega), g1.fqb, fun i q l e1 e2 _ => g1.qw i q l e1 e2 (by omega), fun _ => g1.line (by omega), fun _ => g1.gone (by omega), fun _ => g1.calls (by omega), fun _ => g1.gt (by omega), g1.fgt, fun _ => ⟨hT, hI⟩, hb, g1.fr⟩
end
end Go.Proofs.YtcjmppjppmiggaaGreat

/- The document's table, when one has ended: where it stands, what becomes of the table. Plain theorems. -/
namespace Go.Proofs.YtcjmppjppmiggaaGreat
open Go.RowKit
set_option linter.unusedVariables false
set_option linter.unusedSimpArgs false

set_option maxRecDepth 100000
theorem RInv.open_ {rs : List RTx} {m : Nat} {E : Nat → Bool} {L : List O1} (h : RInv rs m E L) {n : Nat} (h1 : 1 ≤ n) (h2 : n ≤ m) (hE : E n = false) (hd : depL rs E n = []) :
    ∃ i o, L[i]? = some o ∧ o.num = n ∧ o.wt = [] ∧ placeI L n = some i := by
  by_cases hx : ∃ o ∈ L, o.num = n
  · obtain ⟨o, ho, rfl⟩ := hx
    obtain ⟨i, hi⟩ := List.mem_iff_getElem?.1 ho
    obtain ⟨a1, a2, a3, a4, a5⟩ := h.at_ o ho
    refine ⟨i, o, hi, rfl, by rw [a4, hd], placeI_some hi (by simp [openB, a5, hE]) fun j hj o' hj' => ?_⟩
    have hne : o'.num ≠ o.num := by
      have hp := h.rise
      rw [List.pairwise_map] at hp
      obtain ⟨hi1, rfl⟩ := List.getElem?_eq_some_iff.1 hi
      obtain ⟨hj1, rfl⟩ := List.getElem?_eq_some_iff.1 hj'
      have := List.pairwise_iff_getElem.1 hp j i hj1 hi1 hj
      omega
    simp [openB, hne]
  · have := (h.rest n h1 h2 fun o ho e => hx ⟨o, ho, e⟩).2
    rw [hE] at this; cases this
theorem RInv.done2 {rs : List RTx} {m : Nat} {E : Nat → Bool} {L : List O1} (h : RInv rs m E L) {n i : Nat} {o : O1} (hi : L[i]? = some o) (ho : o.num = n) : RInv rs m (E1 E n) ((L.set i (endO o)).map (fltO n)) := by
  rw [← doneO_eq h.rise hi ho]
  exact h.done n
theorem RInv.wt_len {rs : List RTx} {m : Nat} {E : Nat → Bool} {L : List O1} (h : RInv rs m E L) (hm : m ≤ 65536) : ∀ o ∈ L, o.wt.length ≤ 65536 := fun o ho => by
  obtain ⟨a1, a2, a3, a4, a5⟩ := h.at_ o ho
  rw [a4]
  exact rise_len2 (N := 65535) (depL_rises _ _ _) fun b hb => by
    have := dep_lt (mem_depL.1 hb).1
    omega
theorem RInv.len {rs : List RTx} {m : Nat} {E : Nat → Bool} {L : List O1} (h : RInv rs m E L) : L.length ≤ m + 1 := by
  have := rise_len2 (N := m) h.rise fun b hb => by
    obtain ⟨o, ho, rfl⟩ := List.mem_map.1 hb
    exact (h.at_ o ho).2.1
  simpa using this
theorem RTAt.has_lt {w : World} {Bo g n c q : Nat} {A : Option Addr} {xs : List O2} (h : RTAt w Bo g A n c xs) (hq : hasR g A xs q) : q < w.heap.size := by
  rcases hq with rfl | ⟨a, e, rfl⟩ | ⟨x, hx, ⟨a, e, rfl⟩ | ⟨a, e, rfl⟩⟩
  · exact blk_lt h.st
  · exact (h.tk.lt e).2
  · exact ((h.el x hx).1.lt e).2
  · exact ((h.el x hx).2.lt e).2
theorem close_done {rs : List RTx} {m n : Nat} {E : Nat → Bool} (hn : depL rs E n = []) (h : ∀ q, 1 ≤ q → q ≤ m → E q = true → depL rs E q = []) : ∀ q, 1 ≤ q → q ≤ m → E1 E n q = true → depL rs (E1 E n) q = [] := fun q h1 h2 hq => by
  rw [depL_E1]
  by_cases e : q = n
  · subst e; rw [hn]; rfl
  · have : E q = true := by simpa [E1, e] using hq
    rw [h q h1 h2 this]; rfl
end Go.Proofs.YtcjmppjppmiggaaGreat


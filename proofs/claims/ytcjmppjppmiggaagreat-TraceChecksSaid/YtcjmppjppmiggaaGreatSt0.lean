/- A trace's story at memory: each block bears its part's number. -/
import Derived.Test.YtcjmppjppmiggaaGreatM2
import Derived.Test.YtcjmppjppmiggaaGreatM9
import Derived.Test.YtcjmppjppmiggaaGreatDw
import Derived.Test.YtcjmppjppmiggaaGreatLg
import Derived.Test.YtcjmppjppmiggaaGreatM3
namespace Go.Proofs.YtcjmppjppmiggaaGreat
open Go.RowKit
set_option linter.unusedVariables false
set_option linter.unusedSimpArgs false

open Go.Maps
set_option maxRecDepth 100000
def askC (p : Int × Int) : List Value := [.int .i64 p.1, .int .i64 p.2]
theorem one_askC (x : Int × Int) : ∀ u ∈ askC x, u.oneCell' = true := fun u hu => by simp [askC] at hu; rcases hu with rfl | rfl <;> rfl
def natC (n : Nat) : List Value := [.int .i64 n]
theorem one_natC (x : Nat) : ∀ u ∈ natC x, u.oneCell' = true := fun u hu => by simp [natC] at hu; subst hu; rfl
structure SL where
  A : Option Addr
  n : Nat
  c : Nat
def SL.v (s : SL) : Value := .slice s.A s.n s.c
def laneC (h : Ln) (s : SL) : List Value := [.int .i64 h.num, s.v, .int .i64 h.sent, .int .i64 h.ack]
structure SA where
  g : Nat
  gt : Nat
  t : TB
  ln : Nat
  qb : Nat
  cb : Nat
  A : Option Addr
  n : Nat
  cap : Nat
  B : SL
  N : Nat
  F : Nat → Option Obj
structure SG where
  line : SL
  gone : SL
  QA : List SL
  LA : List SL
  m : List (Int × Nat)
  d : DT
def ptrV (b : Nat) : Value := .pointer (some ⟨b, 0, none⟩)
def storyC (c : Cfg) (a : SA) (x : SG) (s : TS) : Array Value :=
  #[.int .i64 c.lanes, .int .i64 c.shards, .int .i64 c.window, .int .i64 c.queue, .slice a.A a.n a.cap, .int .i64 s.at_, .bool s.holds, a.B.v, ptrV a.t.g, ptrV a.gt, x.line.v, x.gone.v, .slice (some ⟨a.ln, 0, none⟩) c.lanes.toNat c.lanes.toNat, .slice (some ⟨a.qb, 0, none⟩) c.shards.toNat c.shards.toNat, .map (some a.cb)]
def lanesC (ls : List Ln) (sl : List SL) : List Value := (ls.zip sl).flatMap fun p => laneC p.1 p.2
def At (φ : Nat → Nat) (i : Nat) (A : Option Addr) : Prop := ∀ a, A = some a → φ a.block = i
structure StH (w : World) (φ : Nat → Nat) (Bo : Nat) (I : Nat → Prop) (c : Cfg) (rs rs' : List RTx) (by_ : List Int) (a : SA) (x : SG) (s : TS) : Prop where
  lo : Bo ≤ w.heap.size
  zero : ∀ b, b < Bo → φ b = 0
  log : TxsAt w Bo a.A a.n rs
  bey : TkAt Icell 1 3 w Bo a.B.A a.B.n a.B.c by_ ∧ At φ 30 a.B.A
  st : ¬ I 1 → w.heap[a.g]? = some (.cells (storyC c a x s) 65 (0, 0))
  fst : φ a.g = 1 ∧ Bo ≤ a.g ∧ a.g < w.heap.size
  ln : ¬ I 2 → w.heap[a.ln]? = some (.cells (lanesC s.lanes x.LA).toArray 126 (0, 0))
  fln : φ a.ln = 2 ∧ Bo ≤ a.ln ∧ a.ln < w.heap.size
  lw : ¬ I 20 → x.LA.length = s.lanes.length ∧ ∀ (i : Nat) (h : Ln) (l : SL), s.lanes[i]? = some h → x.LA[i]? = some l → TkAt Wr.cells 3 85 w Bo l.A l.n l.c h.ws ∧ At φ 20 l.A
  qb : ¬ I 3 → w.heap[a.qb]? = some (.cells (x.QA.map SL.v).toArray 129 (0, 0)) ∧ x.QA.length = s.qs.length
  fqb : φ a.qb = 3 ∧ Bo ≤ a.qb ∧ a.qb < w.heap.size
  qw : ∀ (i : Nat) (q : List (Int × Int)) (l : SL), s.qs[i]? = some q → x.QA[i]? = some l → ¬ I (100 + 2 * i) → TkAt askC 2 131 w Bo l.A l.n l.c q ∧ At φ (100 + 2 * i) l.A
  line : ¬ I 10 → TkAt natC 1 3 w Bo x.line.A x.line.n x.line.c s.line ∧ At φ 10 x.line.A
  gone : ¬ I 11 → TkAt natC 1 3 w Bo x.gone.A x.gone.n x.gone.c s.gone ∧ At φ 11 x.gone.A
  cb : ¬ I 4 → OwnM (Value.int .i64) ptrV w a.cb x.m ∧ ∀ t : Int, mget s.calls t = none ↔ mget x.m t = none
  fcb : φ a.cb = 4 ∧ Bo ≤ a.cb ∧ a.cb < w.heap.size
  cw : ∀ (t : Int) (p : Nat) (v : Int × Bool), mget x.m t = some p → mget s.calls t = some v → ¬ I (101 + 2 * (-t).toNat) → w.heap[p]? = some (.cells #[.int .i64 v.1, .bool v.2] 133 (0, 0)) ∧ φ p = 101 + 2 * (-t).toNat ∧ Bo ≤ p
  gt : ¬ I 9 → GtAt w a.gt s.G
  fgt : φ a.gt = 9 ∧ Bo ≤ a.gt ∧ a.gt < w.heap.size
  tb : ¬ I 8 → TabAt w a.t x.d ∧ TIG rs' s.m s.E x.d
  ftb : ∀ b, a.t.has b → φ b = 8 ∧ Bo ≤ b ∧ b < w.heap.size
  fr : a.N ≤ w.heap.size ∧ ∀ b, b < a.N → φ b = 30 → w.heap[b]? = a.F b
abbrev StAt (w : World) (φ : Nat → Nat) (Bo : Nat) (c : Cfg) (rs rs' : List RTx) (by_ : List Int) (a : SA) (x : SG) (s : TS) : Prop := StH w φ Bo (fun _ => False) c rs rs' by_ a x s
section
variable {w w' : World} {φ φ' : Nat → Nat} {Bo : Nat} {I J : Nat → Prop} {c : Cfg} {rs rs' : List RTx} {by_ : List Int} {a : SA} {x : SG} {s : TS}
theorem At.none_ (i : Nat) : At φ i none := fun a e => by cases e
theorem StH.kept (h : StH w φ Bo J c rs rs' by_ a x s) (k : Kept w w' (fun b => I (φ b))) (h0 : ¬ I 0) (h30 : ¬ I 30) (hJ : ∀ i, J i → I i) : StH w' φ Bo I c rs rs' by_ a x s := by
  have hb : Below Bo w w' := k.below h.lo (fun b hb => Nat.not_lt.1 fun hlt => h0 (by rw [← h.zero b hlt]; exact hb))
  have n : ∀ i, ¬ I i → ¬ J i := fun i hi hj => hi (hJ i hj)
  have at_ : ∀ {i : Nat} {A : Option Addr}, ¬ I i → At φ i A → ∀ ad, A = some ad → ¬ I (φ ad.block) := fun hi hA ad e hx => hi (by rw [← hA ad e]; exact hx)
  refine ⟨Nat.le_trans h.lo k.size, h.zero, h.log.below hb, ⟨h.bey.1.kept k (at_ h30 h.bey.2), h.bey.2⟩, fun hi => ?_, ⟨h.fst.1, h.fst.2.1, Nat.lt_of_lt_of_le h.fst.2.2 k.size⟩, fun hi => ?_, ⟨h.fln.1, h.fln.2.1, Nat.lt_of_lt_of_le h.fln.2.2 k.size⟩, fun hi => ?_, fun hi => ?_, ⟨h.fqb.1, h.fqb.2.1, Nat.lt_of_lt_of_le h.fqb.2.2 k.size⟩, fun i q l h1 h2 hi => ?_, fun hi => ?_, fun hi => ?_, fun hi => ?_, ⟨h.fcb.1, h.fcb.2.1, Nat.lt_of_lt_of_le h.fcb.2.2 k.size⟩, fun t p v h1 h2 hi => ?_, fun hi => ?_, ⟨h.fgt.1, h.fgt.2.1, Nat.lt_of_lt_of_le h.fgt.2.2 k.size⟩, fun hi => ?_, fun b hb => ⟨(h.ftb b hb).1, (h.ftb b hb).2.1, Nat.lt_of_lt_of_le (h.ftb b hb).2.2 k.size⟩, ⟨Nat.le_trans h.fr.1 k.size, fun b hb h3 => (k.block b (Nat.lt_of_lt_of_le hb h.fr.1) (by rw [h3]; exact h30)).trans (h.fr.2 b hb h3)⟩⟩
  · exact k.blk (h.st (n _ hi)) (blk_lt (h.st (n _ hi))) (by rw [h.fst.1]; exact hi)
  · exact k.blk (h.ln (n _ hi)) (blk_lt (h.ln (n _ hi))) (by rw [h.fln.1]; exact hi)
  · obtain ⟨g1, g2⟩ := h.lw (n _ hi)
    exact ⟨g1, fun i l m e1 e2 => ⟨(g2 i l m e1 e2).1.kept k (at_ hi (g2 i l m e1 e2).2), (g2 i l m e1 e2).2⟩⟩
  · obtain ⟨g1, g2⟩ := h.qb (n _ hi)
    exact ⟨k.blk g1 (blk_lt g1) (by rw [h.fqb.1]; exact hi), g2⟩
  · obtain ⟨g1, g2⟩ := h.qw i q l h1 h2 (n _ hi)
    exact ⟨g1.kept k (at_ hi g2), g2⟩
  · obtain ⟨g1, g2⟩ := h.line (n _ hi)
    exact ⟨g1.kept k (at_ hi g2), g2⟩
  · obtain ⟨g1, g2⟩ := h.gone (n _ hi)
    exact ⟨g1.kept k (at_ hi g2), g2⟩
  · obtain ⟨g1, g2⟩ := h.cb (n _ hi)
    exact ⟨g1.of_block (k.block _ g1.lt (by rw [h.fcb.1]; exact hi)), g2⟩
  · obtain ⟨g1, g2, g3⟩ := h.cw t p v h1 h2 (n _ hi)
    exact ⟨k.blk g1 (blk_lt g1) (by rw [g2]; exact hi), g2, g3⟩
  · exact (h.gt (n _ hi)).of_block (k.block _ (h.gt (n _ hi)).lt (by rw [h.fgt.1]; exact hi))
  · obtain ⟨g1, g2⟩ := h.tb (n _ hi)
    exact ⟨g1.kept k (fun b hb => by rw [(h.ftb b hb).1]; exact hi), g2⟩
theorem StH.below (h : StH w φ Bo J c rs rs' by_ a x s) (hb : Below w.heap.size w w') (h0 : ¬ J 0) (h30 : ¬ J 30) : StH w' φ Bo J c rs rs' by_ a x s := h.kept (I := J) (Kept.of_below hb) h0 h30 (fun _ h => h)
theorem StH.relabel (h : StH w φ Bo J c rs rs' by_ a x s) (hφ : ∀ b, b < w.heap.size → φ' b = φ b) : StH w φ' Bo J c rs rs' by_ a x s := by
  have at_ : ∀ {α : Type} {f : α → List Value} {z n cp i : Nat} {t : TypeId} {A : Option Addr} {l : List α}, TkAt f z t w Bo A n cp l → At φ i A → At φ' i A := fun hk hA ad e => by rw [hφ _ (hk.lt e).2]; exact hA ad e
  refine ⟨h.lo, fun b hb => by rw [hφ b (Nat.lt_of_lt_of_le hb h.lo)]; exact h.zero b hb, h.log, ⟨h.bey.1, at_ h.bey.1 h.bey.2⟩, h.st, ⟨by rw [hφ _ h.fst.2.2]; exact h.fst.1, h.fst.2⟩, h.ln, ⟨by rw [hφ _ h.fln.2.2]; exact h.fln.1, h.fln.2⟩, fun hi => ⟨(h.lw hi).1, fun i l m e1 e2 => ⟨((h.lw hi).2 i l m e1 e2).1, at_ ((h.lw hi).2 i l m e1 e2).1 ((h.lw hi).2 i l m e1 e2).2⟩⟩, h.qb, ⟨by rw [hφ _ h.fqb.2.2]; exact h.fqb.1, h.fqb.2⟩, fun i q l h1 h2 hi => ⟨(h.qw i q l h1 h2 hi).1, at_ (h.qw i q l h1 h2 hi).1 (h.qw i q l h1 h2 hi).2⟩, fun hi => ⟨(h.line hi).1, at_ (h.line hi).1 (h.line hi).2⟩, fun hi => ⟨(h.gone hi).1, at_ (h.gone hi).1 (h.gone hi).2⟩, h.cb, ⟨by rw [hφ _ h.fcb.2.2]; exact h.fcb.1, h.fcb.2⟩, fun t p v h1 h2 hi => ?_, h.gt, ⟨by rw [hφ _ h.fgt.2.2]; exact h.fgt.1, h.fgt.2⟩, h.tb, fun b hb => ⟨by rw [hφ _ (h.ftb b hb).2.2]; exact (h.ftb b hb).1, (h.ftb b hb).2⟩, ⟨h.fr.1, fun b hb h3 => h.fr.2 b hb (by rw [← hφ b (Nat.lt_of_lt_of_le hb h.fr.1)]; exact h3)⟩⟩
  obtain ⟨g1, g2, g3⟩ := h.cw t p v h1 h2 hi
  exact ⟨g1, by rw [hφ _ (blk_lt g1)]; exact g2, g3⟩
theorem StH.setc (h : StH w φ Bo J c rs rs' by_ a x s) (h1 : ¬ J 1) (h0 : ¬ J 0) (h30 : ¬ J 30) (i : Nat) (v : Value) : StH (w.setCell ⟨a.g, i, none⟩ v) φ Bo (fun j => j = 1 ∨ J j) c rs rs' by_ a x s ∧ (w.setCell ⟨a.g, i, none⟩ v).heap[a.g]? = some (.cells ((storyC c a x s).setIfInBounds i v) 65 (0, 0)) := by
  have k : Kept w (w.setCell ⟨a.g, i, none⟩ v) (fun b => (fun j => j = 1 ∨ J j) (φ b)) := (Kept.refl w _).setCell (p := ⟨a.g, i, none⟩) (Or.inl (Or.inl h.fst.1)) v
  exact ⟨h.kept k (fun h => by rcases h with h | h; exact absurd h (by omega); exact h0 h) (fun h => by rcases h with h | h; exact absurd h (by omega); exact h30 h) (fun _ h => Or.inr h), blk_set (h.st h1) i v⟩
theorem kept_at {α : Type} {f : α → List Value} {z n cp i j : Nat} {t : TypeId} {A : Option Addr} {l : List α} {b : Nat} (hT : TkAt f z t w Bo A n cp l) (hA : At φ i A) (hb : φ b = j) (hij : i ≠ j) (o : Nat) (v : Value) : TkAt f z t (w.setCell ⟨b, o, none⟩ v) Bo A n cp l :=
  hT.kept ((Kept.refl w (fun q => q = b)).setCell (p := ⟨b, o, none⟩) (Or.inl rfl) v) (fun ad e hq => by have := hA ad e; rw [hq, hb] at this; exact hij this.symm)
theorem StH.setGone (h : StH w φ Bo J c rs rs' by_ a x s) (hJ : ∀ i, J i → i = 11) {A : Option Addr} {n cp : Nat} {l : List Nat} (hT : TkAt natC 1 3 w Bo A n cp l) (hA : At φ 11 A) :
    StAt (w.setCell ⟨a.g, 11, none⟩ (.slice A n cp)) φ Bo c rs rs' by_ a { x with gone := ⟨A, n, cp⟩ } { s with gone := l } := by
  obtain ⟨g1, g2⟩ := h.setc (fun h => by have := hJ _ h; omega) (fun h => by have := hJ _ h; omega) (fun h => by have := hJ _ h; omega) 11 (.slice A n cp)
  have nj : ∀ i, i ≠ 1 → i ≠ 11 → ¬ (i = 1 ∨ J i) := fun i h1 h2 h => by rcases h with h | h; exact h1 h; exact h2 (hJ _ h)
  exact ⟨g1.lo, g1.zero, g1.log, g1.bey, fun _ => g2, g1.fst, fun _ => g1.ln (nj 2 (by omega) (by omega)), g1.fln, fun _ => g1.lw (nj 20 (by omega) (by omega)), fun _ => g1.qb (nj 3 (by omega) (by omega)), g1.fqb, fun i q l e1 e2 _ => g1.qw i q l e1 e2 (nj (100 + 2 * i) (by omega) (by omega)), fun _ => g1.line (nj 10 (by omega) (by omega)), fun _ => ⟨kept_at hT hA h.fst.1 (by omega) _ _, hA⟩, fun _ => g1.cb (nj 4 (by omega) (by omega)), g1.fcb, fun t p v e1 e2 _ => g1.cw t p v e1 e2 (nj (101 + 2 * (-t).toNat) (by omega) (by omega)), fun _ => g1.gt (nj 9 (by omega) (by omega)), g1.fgt, fun _ => g1.tb (nj 8 (by omega) (by omega)), g1.ftb, g1.fr⟩
theorem StH.setLine (h : StH w φ Bo J c rs rs' by_ a x s) (hJ : ∀ i, J i → i = 10) {A : Option Addr} {n cp : Nat} {l : List Nat} (hT : TkAt natC 1 3 w Bo A n cp l) (hA : At φ 10 A) :
    StAt (w.setCell ⟨a.g, 10, none⟩ (.slice A n cp)) φ Bo c rs rs' by_ a { x with line := ⟨A, n, cp⟩ } { s with line := l } := by
  obtain ⟨g1, g2⟩ := h.setc (fun h => by have := hJ _ h; omega) (fun h => by have := hJ _ h; omega) (fun h => by have := hJ _ h; omega) 10 (.slice A n cp)
  have nj : ∀ i, i ≠ 1 → i ≠ 10 → ¬ (i = 1 ∨ J i) := fun i h1 h2 h => by rcases h with h | h; exact h1 h; exact h2 (hJ _ h)
  exact ⟨g1.lo, g1.zero, g1.log, g1.bey, fun _ => g2, g1.fst, fun _ => g1.ln (nj 2 (by omega) (by omega)), g1.fln, fun _ => g1.lw (nj 20 (by omega) (by omega)), fun _ => g1.qb (nj 3 (by omega) (by omega)), g1.fqb, fun i q l e1 e2 _ => g1.qw i q l e1 e2 (nj (100 + 2 * i) (by omega) (by omega)), fun _ => ⟨kept_at hT hA h.fst.1 (by omega) _ _, hA⟩, fun _ => g1.gone (nj 11 (by omega) (by omega)), fun _ => g1.cb (nj 4 (by omega) (by omega)), g1.fcb, fun t p v e1 e2 _ => g1.cw t p v e1 e2 (nj (101 + 2 * (-t).toNat) (by omega) (by omega)), fun _ => g1.gt (nj 9 (by omega) (by omega)), g1.fgt, fun _ => g1.tb (nj 8 (by omega) (by omega)), g1.ftb, g1.fr⟩
theorem StH.setGate (h : StAt w φ Bo c rs rs' by_ a x s) {G : Gt} (hG : GtAt w' a.gt G) (k : w.grownBy w' (some a.gt)) : StAt w' φ Bo c rs rs' by_ a x { s with G := G } := by
  have g1 := h.kept (I := fun j => j = 9) ((Kept.of_only k rfl).mono fun b hb => by rw [← hb]; exact h.fgt.1) (by omega) (by omega) (fun _ h => h.elim)
  have nj : ∀ i : Nat, i ≠ 9 → i ≠ 9 → ¬ (i = 9) := fun i h1 _ h => h1 h
  exact ⟨g1.lo, g1.zero, g1.log, g1.bey, fun _ => g1.st (nj 1 (by omega) (by omega)), g1.fst, fun _ => g1.ln (nj 2 (by omega) (by omega)), g1.fln, fun _ => g1.lw (nj 20 (by omega) (by omega)), fun _ => g1.qb (nj 3 (by omega) (by omega)), g1.fqb, fun i q l e1 e2 _ => g1.qw i q l e1 e2 (nj (100 + 2 * i) (by omega) (by omega)), fun _ => g1.line (nj 10 (by omega) (by omega)), fun _ => g1.gone (nj 11 (by omega) (by omega)), fun _ => g1.cb (nj 4 (by omega) (by omega)), g1.fcb, fun t p v e1 e2 _ => g1.cw t p v e1 e2 (nj (101 + 2 * (-t).toNat) (by omega) (by omega)), fun _ => hG, g1.fgt, fun _ => g1.tb (nj 8 (by omega) (by omega)), g1.ftb, g1.fr⟩
theorem StH.setTab (h : StAt w φ Bo c rs rs' by_ a x s) {d : DT} {E : Nat → Bool} (hd : TabAt w' a.t d) (hI : TIG rs' s.m E d) (k : Kept w w' a.t.has) : StAt w' φ Bo c rs rs' by_ a { x with d := d } { s with E := E } := by
  have g1 := h.kept (I := fun j => j = 8) (k.mono fun b hb => (h.ftb b hb).1) (by omega) (by omega) (fun _ h => h.elim)
  have nj : ∀ i : Nat, i ≠ 8 → i ≠ 8 → ¬ (i = 8) := fun i h1 _ h => h1 h
  exact ⟨g1.lo, g1.zero, g1.log, g1.bey, fun _ => g1.st (nj 1 (by omega) (by omega)), g1.fst, fun _ => g1.ln (nj 2 (by omega) (by omega)), g1.fln, fun _ => g1.lw (nj 20 (by omega) (by omega)), fun _ => g1.qb (nj 3 (by omega) (by omega)), g1.fqb, fun i q l e1 e2 _ => g1.qw i q l e1 e2 (nj (100 + 2 * i) (by omega) (by omega)), fun _ => g1.line (nj 10 (by omega) (by omega)), fun _ => g1.gone (nj 11 (by omega) (by omega)), fun _ => g1.cb (nj 4 (by omega) (by omega)), g1.fcb, fun t p v e1 e2 _ => g1.cw t p v e1 e2 (nj (101 + 2 * (-t).toNat) (by omega) (by omega)), fun _ => g1.gt (nj 9 (by omega) (by omega)), g1.fgt, fun _ => ⟨hd, hI⟩, g1.ftb, g1.fr⟩
theorem StH.junk (h : StAt w φ Bo c rs rs' by_ a x s) (k : Kept w w' (fun b => φ b = 50)) : StAt w' φ Bo c rs rs' by_ a x s := by
  have g1 := h.kept (I := fun j => j = 50) k (by omega) (by omega) (fun _ h => h.elim)
  exact ⟨g1.lo, g1.zero, g1.log, g1.bey, fun _ => g1.st (by omega), g1.fst, fun _ => g1.ln (by omega), g1.fln, fun _ => g1.lw (by omega), fun _ => g1.qb (by omega), g1.fqb, fun i q l e1 e2 _ => g1.qw i q l e1 e2 (by omega), fun _ => g1.line (by omega), fun _ => g1.gone (by omega), fun _ => g1.cb (by omega), g1.fcb, fun t p v e1 e2 _ => g1.cw t p v e1 e2 (by omega), fun _ => g1.gt (by omega), g1.fgt, fun _ => g1.tb (by omega), g1.ftb, g1.fr⟩
theorem StH.hole10 (h : StAt w φ Bo c rs rs' by_ a x s) (k : Kept w w' (fun b => ∃ ad, x.line.A = some ad ∧ b = ad.block)) : StH w' φ Bo (fun j => j = 10) c rs rs' by_ a x s :=
  h.kept (I := fun j => j = 10) (k.mono fun b ⟨ad, e, e2⟩ => by rw [e2]; exact (h.line (fun h => h)).2 ad e) (by omega) (by omega) (fun _ h => h.elim)
end
end Go.Proofs.YtcjmppjppmiggaaGreat

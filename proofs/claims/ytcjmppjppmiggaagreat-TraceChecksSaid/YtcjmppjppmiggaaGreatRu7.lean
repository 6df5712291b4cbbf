/- The document's story: what follows: boxes of the caller. -/
import Derived.Test.YtcjmppjppmiggaaGreatRu6
namespace Go.Proofs.YtcjmppjppmiggaaGreat
open Go.RowKit
set_option linter.unusedVariables false
set_option linter.unusedSimpArgs false

open Go.Maps
set_option maxRecDepth 100000
section
variable {w w' W1 W2 : World} {φ φ' : Nat → Nat} {Bo : Nat} {c : Cfg} {rs rs' : List RTx} {by_ : List Int} {a : RA} {x x' : RG} {s s' : TS}
theorem RsH.reframe (h : RsAt w φ Bo c rs rs' by_ a x s) {N : Nat} {F : Nat → Option Obj} (hF : N ≤ w.heap.size ∧ ∀ b, b < N → φ b = 30 → w.heap[b]? = F b) : RsAt w φ Bo c rs rs' by_ { a with N := N, F := F } x s :=
  ⟨h.lo, h.zero, h.log, h.bey, h.st, h.fst, h.ln, h.fln, h.lw, h.qb, h.fqb, h.qw, h.line, h.gone, h.calls, h.gt, h.fgt, h.tb, h.ftb, hF⟩
theorem RsH.boxed (h : RsAt w φ Bo c rs rs' by_ a x s) (hb : Below w.heap.size w W1) : RsAt W1 (fun b => if b < w.heap.size then φ b else 30) Bo c rs rs' by_ { a with N := W1.heap.size, F := fun b => W1.heap[b]? } x s :=
  RsH.reframe ((h.relabel (φ' := fun b => if b < w.heap.size then φ b else 30) (fun b hb => if_pos hb)).below hb (fun h => h) (fun h => h)) ⟨Nat.le_refl _, fun _ _ _ => rfl⟩
theorem RsH.unlabel (h : RsAt w φ Bo c rs rs' by_ a x s) {P : Nat → Prop} [DecidablePred P] (h30 : ∀ b, P b → φ b = 30) (h0 : ∀ b, P b → Bo ≤ b) : RsAt w (fun b => if P b then 50 else φ b) Bo c rs rs' by_ { a with N := 0, F := fun _ => none } x s := by
  have e : ∀ b, φ b ≠ 30 → (if P b then 50 else φ b) = φ b := fun b hb => if_neg (fun e => hb (h30 b e))
  have at_ : ∀ {i : Nat} {A : Option Addr}, i ≠ 30 → At φ i A → At (fun b => if P b then 50 else φ b) i A := fun hi hA ad ea => (e _ (by rw [hA ad ea]; exact hi)).trans (hA ad ea)
  exact ⟨h.lo, fun b hb => (if_neg (fun e => by have := h0 b e; omega)).trans (h.zero b hb), h.log, h.bey, h.st, ⟨(e _ (by rw [h.fst.1]; omega)).trans h.fst.1, h.fst.2⟩, h.ln, ⟨(e _ (by rw [h.fln.1]; omega)).trans h.fln.1, h.fln.2⟩,
    h.lw, h.qb, ⟨(e _ (by rw [h.fqb.1]; omega)).trans h.fqb.1, h.fqb.2⟩, fun i q l h1 h2 hi => ⟨(h.qw i q l h1 h2 hi).1, at_ (by omega) (h.qw i q l h1 h2 hi).2⟩,
    fun hi => ⟨(h.line hi).1, at_ (by omega) (h.line hi).2⟩, fun hi => ⟨(h.gone hi).1, at_ (by omega) (h.gone hi).2⟩, fun hi => ⟨(h.calls hi).1, at_ (by omega) (h.calls hi).2.1, (h.calls hi).2.2⟩, h.gt, ⟨(e _ (by rw [h.fgt.1]; omega)).trans h.fgt.1, h.fgt.2.1, h.fgt.2.2.1, at_ (by omega) h.fgt.2.2.2⟩, h.tb, fun b hb => ⟨(e _ (by rw [(h.ftb b hb).1]; omega)).trans (h.ftb b hb).1, (h.ftb b hb).2⟩, ⟨Nat.zero_le _, fun b hb => absurd hb (Nat.not_lt_zero _)⟩⟩
theorem RsH.unboxed (h : RsAt w φ Bo c rs rs' by_ a x s) (hb : Below w.heap.size w W1) (hφ : ∀ b, b < W1.heap.size → φ' b = if b < w.heap.size then φ b else 30)
    (h' : RsAt w' φ' Bo c rs rs' by_ { a with N := W1.heap.size, F := fun b => W1.heap[b]? } x' s') (k : Kept w' W2 (fun q => w.heap.size ≤ q ∧ q < W1.heap.size)) :
    ∃ φ2, (∀ b, b < w.heap.size → φ2 b = φ b) ∧ RsAt W2 φ2 Bo c rs rs' by_ a x' s' := by
  have hz := hb.size
  refine ⟨fun b => if w.heap.size ≤ b ∧ b < W1.heap.size then 50 else φ' b, fun b hb2 => ?_, ?_⟩
  · simp only [if_neg (show ¬ (w.heap.size ≤ b ∧ b < W1.heap.size) by omega)]
    rw [hφ b (by omega), if_pos hb2]
  · have g := h'.unlabel (P := fun b => w.heap.size ≤ b ∧ b < W1.heap.size) (fun b hp => by rw [hφ b hp.2, if_neg (by omega)]) (fun b hp => by have := h.lo; omega)
    have g2 := g.junk (w' := W2) (k.mono fun q e => by simp [e])
    refine g2.reframe (N := a.N) (F := a.F) ⟨Nat.le_trans h.fr.1 (Nat.le_trans hz (Nat.le_trans h'.fr.1 k.size)), fun b hb3 h3 => ?_⟩
    have hbw : b < w.heap.size := Nat.lt_of_lt_of_le hb3 h.fr.1
    have hbW : b < W1.heap.size := Nat.lt_of_lt_of_le hbw hz
    simp only [if_neg (show ¬ (w.heap.size ≤ b ∧ b < W1.heap.size) by omega)] at h3
    have h4 : φ b = 30 := by rw [hφ b hbW, if_pos hbw] at h3; exact h3
    rw [k.block b (Nat.lt_of_lt_of_le hbW h'.fr.1) (by omega), h'.fr.2 b hbW h3]
    show W1.heap[b]? = a.F b
    rw [hb.block b hbw]
    exact h.fr.2 b hb3 h4
theorem MarkOk.box (h : MarkOk w' (fun b => if b < w.heap.size then φ b else 30) { a with N := W1.heap.size, F := fun b => W1.heap[b]? }) {b : Nat} (h1 : w.heap.size ≤ b) (h2 : b < W1.heap.size) : w'.heap[b]? = W1.heap[b]? :=
  h.2 b h2 (if_neg (by omega))
theorem r12mark_ok (g : Nat) (m : Int) (w : World) (c0 : w.cell? ⟨g, 0, none⟩ = some (.int .i64 m)) : Calls Tryz.prog 53 #[.pointer (some ⟨g, 0, none⟩)] w fun e w' => e = .returned (.int .i64 m) ∧ w = w' := by
  go_enter Tryz.func53, Tryz.ntmps53
  go_wp2_with fail
  go_ret
  exact ⟨rfl, rfl⟩
end
end Go.Proofs.YtcjmppjppmiggaaGreat

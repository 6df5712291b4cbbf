/- The document's story at memory: more parts are written anew; plain words on the table. -/
import Derived.Test.YtcjmppjppmiggaaGreatM4
import Derived.Test.YtcjmppjppmiggaaGreatSt3
namespace Go.Proofs.YtcjmppjppmiggaaGreat
open Go.RowKit
set_option linter.unusedVariables false
set_option linter.unusedSimpArgs false

open Go.Maps
set_option maxRecDepth 100000
section
variable {w w' : World} {φ φ' : Nat → Nat} {Bo : Nat} {I J : Nat → Prop} {c : Cfg} {rs rs' : List RTx} {by_ : List Int} {a : RA} {x : RG} {s : TS}
theorem RsH.setAH (h : RsAt w φ Bo c rs rs' by_ a x s) {n : Nat} {b : Bool} {E' : Nat → Bool} (k : Kept w w' (fun b => φ b = 1)) (hb : w'.heap[a.g]? = some (.cells (rstoryC c a x { s with at_ := n, holds := b }) 79 (0, 0))) :
    RsH w' φ Bo (fun j => j = 8) c rs rs' by_ a x { s with at_ := n, holds := b, E := E' } := by
  have g1 := h.kept (I := fun j => j = 1) k (by omega) (by omega) (fun _ h => h.elim)
  exact ⟨g1.lo, g1.zero, g1.log, g1.bey, fun _ => hb, g1.fst, fun _ => g1.ln (by omega), g1.fln, g1.lw, fun _ => g1.qb (by omega), g1.fqb, fun i q l e1 e2 _ => g1.qw i q l e1 e2 (by omega), fun _ => g1.line (by omega), fun _ => g1.gone (by omega), fun _ => g1.calls (by omega), fun _ => g1.gt (by omega), g1.fgt, fun h8 => absurd rfl h8, g1.ftb, g1.fr⟩
theorem RsH.fill8 (h : RsH w φ Bo J c rs rs' by_ a x s) (hJ : ∀ i, J i → i = 8) {A : Option Addr} {n cp : Nat} {zs : List O2} (hT : RTAt w Bo a.t A n cp zs) (hI : RInv rs' s.m s.E (zs.map O2.o) ∧ ∀ q, 1 ≤ q → q ≤ s.m → s.E q = true → depL rs' s.E q = []) (hb : ∀ b, hasR a.t A zs b → φ b = 8 ∧ Bo ≤ b ∧ b < w.heap.size) :
    RsAt w φ Bo c rs rs' by_ a { x with T := ⟨A, n, cp⟩, xs := zs } s := by
  have nj : ∀ i : Nat, i ≠ 8 → ¬ J i := fun i h1 h => h1 (hJ _ h)
  exact ⟨h.lo, h.zero, h.log, h.bey, fun _ => h.st (nj 1 (by omega)), h.fst, fun _ => h.ln (nj 2 (by omega)), h.fln, h.lw, fun _ => h.qb (nj 3 (by omega)), h.fqb, fun i q l e1 e2 _ => h.qw i q l e1 e2 (nj (100 + i) (by omega)), fun _ => h.line (nj 10 (by omega)), fun _ => h.gone (nj 11 (by omega)), fun _ => h.calls (nj 4 (by omega)), fun _ => h.gt (nj 9 (by omega)), h.fgt, fun _ => ⟨hT, hI⟩, hb, h.fr⟩
theorem RsH.hole (h : RsAt w φ Bo c rs rs' by_ a x s) {i : Nat} (k : Kept w w' (fun q => φ q = i)) (h0 : 0 ≠ i) (h30 : 30 ≠ i) : RsH w' φ Bo (fun j => j = i) c rs rs' by_ a x s := h.kept (I := fun j => j = i) k h0 h30 (fun _ h => h.elim)
end
theorem close_skip {rs : List RTx} {m : Nat} {E : Nat → Bool} (hw : wsOf rs m = []) (h : ∀ q, 1 ≤ q → q ≤ m → E q = true → depL rs E q = []) : ∀ q, 1 ≤ q → q ≤ m + 1 → E1 E (m + 1) q = true → depL rs (E1 E (m + 1)) q = [] := fun q h1 h2 hq => by
  rw [depL_E1]
  by_cases e : q = m + 1
  · subst e
    have : depL rs E (m + 1) = [] := List.eq_nil_iff_forall_not_mem.2 fun b hb => by
      obtain ⟨-, y, hy, -⟩ := (mem_depL.1 hb).1
      rw [Nat.add_sub_cancel, hw] at hy; cases hy
    rw [this]; rfl
  · have : E q = true := by simpa [E1, e] using hq
    rw [h q h1 (by omega) this]; rfl
theorem close_add {rs : List RTx} {m : Nat} {E : Nat → Bool} (hf : E (m + 1) = false) (h : ∀ q, 1 ≤ q → q ≤ m → E q = true → depL rs E q = []) : ∀ q, 1 ≤ q → q ≤ m + 1 → E q = true → depL rs E q = [] := fun q h1 h2 hq => by
  by_cases e : q = m + 1
  · subst e; rw [hf] at hq; cases hq
  · exact h q h1 (by omega) hq
theorem ws32 {rs rs' : List RTx} {M : Nat} {by_ : List Int} (hlog : ∀ (i : Nat) (r : RTx), rs[i]? = some r → txB r.number r.ws = true ∧ r.number = (i : Int) + 1) (hmask : rs' = maskL M by_ rs) (i : Nat) : (wsOf rs' i).length ≤ 32 := by
  unfold wsOf
  rw [hmask, maskL_get]
  cases hr : rs[i]? with
  | none => simp
  | some r =>
    have := (hlog i r hr).1
    simp only [txB, Bool.and_eq_true, decide_eq_true_eq] at this
    simp only [Option.map_some, Option.getD_some]
    split
    · simp
    · exact this.1.2
end Go.Proofs.YtcjmppjppmiggaaGreat

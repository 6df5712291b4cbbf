/- The shard's memory where a row of another type grows. -/
import Derived.Test.YtfpcgfgofemhoaaGreatSh3
namespace Go.Proofs.YtfpcgfgofemhoaaGreat
open Go.RowKit
set_option linter.unusedVariables false
set_option linter.unusedSimpArgs false

theorem ShAt.owned {w w' : World} {t : SB} {L : Hs} {base size n : Nat} {e : TypeId} {v : Value} {xs : List Value} (h : ShAt w t L) (ho : w.ownsRow base e size v n xs) (hg : w.grownBy w' v.ownBlock) (he : e ≠ 104) (hb : t.g < base) (hp : t.p < base) : ShAt w' t L := by
  have k : Kept w w' (fun b => v.ownBlock = some b) := ⟨hg.os, hg.tape, hg.output, hg.size, fun i hi hx => hg.block i hi (fun e => hx e.symm)⟩
  refine h.keptV k fun b hbb => ?_
  have h1 := ho.lt b hbb
  refine ⟨by omega, by omega, fun cs fr hc => ?_⟩
  obtain ⟨-, ⟨rfl, -⟩ | ⟨g, cap, cur, rfl, -, h3, -⟩⟩ := ho
  · cases hbb
  · simp only [Value.ownBlock, Option.some.injEq] at hbb
    subst hbb
    rw [h3] at hc
    injection hc with hc; injection hc with _ hc _
    exact he hc
theorem ownsRow_kept {w w' : World} {X : Nat → Prop} {base size n : Nat} {e : TypeId} {v : Value} {xs : List Value} (h : w.ownsRow base e size v n xs) (k : Kept w w' X) (hX : ∀ b, X b → b < base) : w'.ownsRow base e size v n xs := by
  obtain ⟨h1, h2 | ⟨g, cap, cur, hv, hg, hh, r⟩⟩ := h
  · exact ⟨h1, Or.inl h2⟩
  · exact ⟨h1, Or.inr ⟨g, cap, cur, hv, hg, k.blk hh (blk_lt hh) (fun hx => by have := hX g hx; omega), r⟩⟩
end Go.Proofs.YtfpcgfgofemhoaaGreat

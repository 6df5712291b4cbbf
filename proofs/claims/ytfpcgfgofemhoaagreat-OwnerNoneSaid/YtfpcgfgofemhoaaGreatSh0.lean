/- Versions in memory. -/
import Derived.Test.YtfpcgfgofemhoaaGreatCore
import Derived.Test.YtfpcgfgofemhoaaGreatShp
namespace Go.Proofs.YtfpcgfgofemhoaaGreat
open Go.RowKit
set_option linter.unusedVariables false
set_option linter.unusedSimpArgs false

abbrev VsAt := RowAt Ver.cells 3
theorem VsAt.cell3 {w : World} {B n i : Nat} {A : Option Addr} {vs : List Ver} (h : VsAt w B A n vs) (hi : i < n) :
    ∃ b off x, A = some ⟨b, off, none⟩ ∧ b < B ∧ vs[i]? = some x ∧ w.cell? ⟨b, off + i * 3, none⟩ = some (.int .i64 x.num) ∧ w.cell? ⟨b, off + i * 3 + 1, none⟩ = some (.string x.val) ∧ w.cell? ⟨b, off + i * 3 + 2, none⟩ = some (.bool x.drop) := by
  obtain ⟨b, off, x, e, hb, hx, hc⟩ := h.at_ hi
  exact ⟨b, off, x, e, hb, hx, hc 0 _ rfl, hc 1 _ rfl, hc 2 _ rfl⟩
theorem VsAt.num {w : World} {B n i : Nat} {A : Option Addr} {vs : List Ver} (h : VsAt w B A n vs) (hi : i < n) : ∃ b off x, A = some ⟨b, off, none⟩ ∧ b < B ∧ vs[i]? = some x ∧ w.cell? ⟨b, off + i * 3, none⟩ = some (.int .i64 x.num) := by
  obtain ⟨b, off, x, h1, h2, h3, h4, -, -⟩ := h.cell3 hi
  exact ⟨b, off, x, h1, h2, h3, h4⟩
end Go.Proofs.YtfpcgfgofemhoaaGreat

/- Lemmas and contracts of functions that a statement of this seat stands on; each holds under the premises typed in its head. -/
import Derived.Test.YtfokcdgahiljdaaStat8
import Derived.Test.YtfokcdgahiljdaaStat9
namespace Go.Proofs.Ytfokcdgahiljdaa
open Go.RowKit
set_option linter.unusedVariables false
set_option linter.unusedSimpArgs false

theorem lawparts_any (c : Cfg) (A : Option Addr) (len cap : Nat) (es : List Ev) (at_ : Int) (w : World) (he : EsAt w w.heap.size A len es) (hl : len * 48 ≤ 140737488351232) (hlc : len ≤ cap) (hm0 : 0 ≤ at_) (hm1 : at_ ≤ 65535) :
    Calls Try.prog 4 #[c.v, .slice A len cap, .int .u16 at_] w fun e w' => e = .returned (.bool true) ∧ Below w.heap.size w w' := by
  obtain ⟨mk, rfl⟩ := Int.eq_ofNat_of_zero_le hm0
  have hk : mk % (len + 1) ≤ len := by have := Nat.mod_lt mk (show 0 < len + 1 by omega); omega
  have hmod : ((mk : Int) % ((len : Int) + 1)) = ((mk % (len + 1) : Nat) : Int) := int_rem (a := mk) (b := len + 1) (by omega)
  have hmain : ∃ (st : List Ev → Sts) (er : Int), (∀ (A' : Option Addr) (l' c' : Nat) (es' : List Ev) (W : World), EsAt W W.heap.size A' l' es' → l' ≤ len → Calls Try.prog 11 #[c.v, .slice A' l' c'] W fun e w' => e = .returned (.tuple #[.agg #[.int .i64 (st es').steps, .int .i64 (st es').installs, .int .i64 (st es').lag, .int .i64 (st es').busy, .int .i64 (st es').reads], .int .i64 er]) ∧ Below W.heap.size W w') ∧ ((er = 0 ∧ Adds (st (es.take (mk % (len + 1)))) (st (es.drop (mk % (len + 1)))) (st es)) ∨ er = 7) := by
    by_cases hok : c.ok = true
    · obtain ⟨n, hn, hn16⟩ := lanes_nat hok
      refine ⟨fun l => stOf l n, 0, fun A' l' c' es' W h hl' => of_any c n hok hn hn16 A' l' c' es' W h (by omega), Or.inl ⟨rfl, adds_of es _ n (by rw [he.len]; exact hk) (by rw [he.len]; omega)⟩⟩
    · exact ⟨fun _ => ⟨0, 0, 0, 0, 0⟩, 7, fun A' l' c' es' W _ _ => of_bad c A' l' c' W (by simpa using hok), Or.inr rfl⟩
  obtain ⟨st, er, hof, hcase⟩ := hmain
  by_cases hck : cap = mk % (len + 1)
  · have e1 : len = mk % (len + 1) := by omega
    obtain rfl : cap = len := by omega
    rw [← e1] at hcase hmod
    exact parts_eq c st er A cap mk es w he hl (by omega) (Lib.hid hmod) hof hcase
  · exact parts_lt c st er A len cap (mk % (len + 1)) mk es w he hl hlc (by omega) hk (Lib.hid hmod) hck hof hcase
end Go.Proofs.Ytfokcdgahiljdaa

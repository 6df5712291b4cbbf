/- towpathlaw01.Book: a mark as a text. -/
import Derived.Test.YtfafhfjmoijaeaaGreatDoorBk0
import Derived.Test.YtfafhfjmoijaeaaGreatDoorLay
import Derived.Test.YtfafhfjmoijaeaaGreatDoorProg
import Derived.Deep.DeepCutAuto
import Derived.Shelf.Strconv.Itoa3
import Derived.Lib.AppendIntMem
import Derived.Lib.ItoaLen
namespace Go.Proofs.YtfafhfjmoijaeaaGreatDoor
open Go.RowKit
set_option linter.unusedVariables false
set_option linter.unusedSimpArgs false

set_option maxRecDepth 100000
def wordB (n : Nat) : ByteArray := (⟨#[35]⟩ : ByteArray) ++ ⟨(Lib.itoa (n : Int)).toArray⟩
theorem word_any (n : Nat) (w : World) (hn : n ≤ 1152921504606846976) {Bo : Nat} (hT : TabB Tryz.prog Bo w) : Calls Tryz.prog 104 #[.int .i64 n] w fun e w' => e = .returned (.string (wordB n)) ∧ Below w.heap.size w w' := by
  have ht := Lib.TabBelow.here hT
  have hI : Calls Tryz.prog 120 #[.int .i64 n] w fun e w' => e = .returned (.string ⟨(Lib.itoa (n : Int)).toArray⟩) ∧ Below w.heap.size w w' :=
    (Any.strconv_Itoa layN_toa (n : Int) (by omega) (by omega) w ht).mono (by
      rintro e w' ⟨rfl, k, os, rfl⟩
      exact ⟨rfl, Lib.below_grow w.heap.size w (Nat.le_refl _) k os⟩)
  have HI := Lib.hid hI
  have hl : (Lib.itoa (n : Int)).length ≤ 21 := Lib.itoa_length_le _ (by omega) (by omega)
  have hl2 : ¬ 9223372036854775807 < 1 + (Lib.itoa (n : Int)).length := by omega
  clear hT ht hI hl
  go_enter Tryz.func104, Tryz.ntmps104
  go_wp2_with fail
  refine HI.out.mono ?_
  rintro e w1 ⟨rfl, h⟩
  go_wp2_with fail
  go_ret
  exact ⟨rfl, h⟩
end Go.Proofs.YtfafhfjmoijaeaaGreatDoor

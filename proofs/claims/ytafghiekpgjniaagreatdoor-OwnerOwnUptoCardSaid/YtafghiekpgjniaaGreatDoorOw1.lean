/- owner: numbers that rise. -/
import Derived.Test.YtafghiekpgjniaaGreatDoorShA
namespace Go.Proofs.YtafghiekpgjniaaGreatDoor
open Go.RowKit
set_option linter.unusedVariables false
set_option linter.unusedSimpArgs false

set_option maxRecDepth 100000
def aboveB : List Int → Int → Bool
  | [], _ => true
  | x :: r, t => if x ≤ t then false else if 65536 < x then false else aboveB r x
theorem aboveB_drop {l : List Int} {j : Nat} {x t : Int} (h : l[j]? = some x) : aboveB (l.drop j) t = if x ≤ t then false else if 65536 < x then false else aboveB (l.drop (j + 1)) x := by
  rw [drop_get h, aboveB]
theorem oabove_any (A : Option Addr) (len cap : Nat) (l : List Int) (than : Int) (w : World) (hi : RowAt Icell 1 w w.heap.size A len l) (hl : len ≤ 17592186044416) :
    Calls Tryz.prog 192 #[.slice A len cap, .int .i64 than] w fun e w' => e = .returned (.bool (aboveB l than)) ∧ Below w.heap.size w w' := by
  have hlen := Lib.hid hi.len
  have hfin : ∀ (q : Bool) (w' : World), aboveB l than = q → Below w.heap.size w w' → (Ending.returned (.bool q) = .returned (.bool (aboveB l than)) ∧ Below w.heap.size w w') := fun q w' h h' => by subst h; exact ⟨rfl, h'⟩
  have Hf := Lib.hid hfin
  clear hfin
  go_enter Tryz.func192, Tryz.ntmps192
  go_wp2_with fail
  go_loopw [1, 9] (fun t i wr => ∃ (j : Nat) (q : Int), j ≤ len ∧ i = .int .i64 j ∧ t = .int .i64 q ∧ Hid (aboveB l than = aboveB (l.drop j) q) ∧ Below w.heap.size w wr) (fun _ i _ => len - (RowKit.intOf i).toNat)
  case atStart => exact ⟨0, than, by omega, rfl, rfl, Lib.hid rfl, Below.refl _ _⟩
  case round =>
    obtain ⟨j, q, hj, rfl, rfl, He, hb⟩ := hrel
    have hr := hi.below hb
    have Hb := Lib.hid hb
    clear hb
    by_cases hlt : j < len
    · obtain ⟨b, off, x, rfl, hbl, hx, hc⟩ := hr.at_ hlt
      have x0 := hc 0 _ rfl
      simp only [Nat.mul_one, Nat.add_zero] at x0
      have hd := aboveB_drop (t := q) hx
      have Hd := Lib.hid hd
      clear hx hr hc hd
      by_cases h1 : x ≤ q
      · go_wp2_with fail
        go_ret
        exact Hf.out _ _ (by rw [He.out, Hd.out, if_pos h1]) Hb.out
      · by_cases h2 : 65536 < x
        · go_wp2_with fail
          go_ret
          exact Hf.out _ _ (by rw [He.out, Hd.out, if_neg (by omega), if_pos (by omega)]) Hb.out
        · go_wp2_with fail
          exact ⟨⟨j + 1, _, by omega, by go_num, rfl, Lib.hid (by rw [He.out, Hd.out, if_neg (by omega), if_neg (by omega)]), Hb.out⟩, by simp [RowKit.intOf]; omega⟩
    · go_wp2_with fail
      go_ret
      exact Hf.out _ _ (by rw [He.out, List.drop_of_length_le (by have := hlen.out; omega)]; rfl) Hb.out
end Go.Proofs.YtafghiekpgjniaaGreatDoor

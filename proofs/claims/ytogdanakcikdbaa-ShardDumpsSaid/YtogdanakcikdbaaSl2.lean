/- towpathlaw09: sizes, what is filled, and what is alive. -/
import Derived.Test.YtogdanakcikdbaaShB
import Derived.Test.YtogdanakcikdbaaShC
import Derived.Test.YtogdanakcikdbaaShD
import Derived.Test.YtogdanakcikdbaaSl1
import Derived.Test.YtogdanakcikdbaaShA
import Derived.Test.YtogdanakcikdbaaSh8
namespace Go.Proofs.Ytogdanakcikdbaa
open Go.RowKit
set_option linter.unusedVariables false
set_option linter.unusedSimpArgs false

set_option maxRecDepth 100000
def beyB : Int → List Int → Bool
  | _, [] => false
  | n, x :: r => if 1048576 < n + x then true else beyB (n + x) r
theorem beyB_drop {l : List Int} {j : Nat} {x q : Int} (h : l[j]? = some x) : beyB q (l.drop j) = if 1048576 < q + x then true else beyB (q + x) (l.drop (j + 1)) := by
  rw [drop_get h, beyB]
theorem beyondx_any (A : Option Addr) (len cap : Nat) (l : List Int) (w : World) (hi : RowAt Icell 1 w w.heap.size A len l) (hl : len ≤ 1000) (hb : ∀ x ∈ l, 0 ≤ x ∧ x ≤ 2251799813685248) :
    Calls Try.prog 11 #[.slice A len cap] w fun e w' => e = .returned (.bool (beyB 0 l)) ∧ Below w.heap.size w w' := by
  have Hs := Lib.hid hb
  have hlen := Lib.hid hi.len
  have hfin : ∀ (q : Bool) (w' : World), beyB 0 l = q → Below w.heap.size w w' → (Ending.returned (.bool q) = .returned (.bool (beyB 0 l)) ∧ Below w.heap.size w w') := fun q w' h h' => by subst h; exact ⟨rfl, h'⟩
  have Hf := Lib.hid hfin
  clear hb hfin
  go_enter Try.func11, Try.ntmps11
  go_wp2_with fail
  go_loopw [3, 4] (fun n i wr => ∃ (j : Nat) (q : Int), j ≤ len ∧ i = .int .i64 j ∧ n = .int .i64 q ∧ 0 ≤ q ∧ q ≤ 1048576 ∧ Hid (beyB 0 l = beyB q (l.drop j)) ∧ Below w.heap.size w wr) (fun _ i _ => len - (RowKit.intOf i).toNat)
  case atStart => exact ⟨0, 0, by omega, rfl, rfl, by omega, by omega, Lib.hid rfl, Below.refl _ _⟩
  case round =>
    obtain ⟨j, q, hj, rfl, rfl, q0, q1, He, hb⟩ := hrel
    have hr := hi.below hb
    have Hb := Lib.hid hb
    clear hb
    by_cases hlt : j < len
    · obtain ⟨b, off, x, rfl, hbl, hx, hc⟩ := hr.at_ hlt
      have x0 := hc 0 _ rfl
      simp only [Nat.mul_one, Nat.add_zero] at x0
      obtain ⟨z0, z1⟩ := Hs.out x (List.mem_of_getElem? hx)
      have hd := beyB_drop (q := q) hx
      have Hd := Lib.hid hd
      clear hx hr hc hd
      by_cases hq : 1048576 < q + x
      · go_wp2_with fail
        go_ret
        exact Hf.out _ _ (by rw [He.out, Hd.out, if_pos hq]) Hb.out
      · go_wp2_with fail
        exact ⟨⟨j + 1, _, by omega, by go_num, rfl, by omega, by omega, Lib.hid (by rw [He.out, Hd.out, if_neg hq]), Hb.out⟩, by simp [RowKit.intOf]; omega⟩
    · go_wp2_with fail
      go_ret
      exact Hf.out _ _ (by rw [He.out, List.drop_of_length_le (by have := hlen.out; omega)]; rfl) Hb.out

abbrev PsAt := RowAt Part.cells 4
theorem PsAt.cell4 {w : World} {B n i : Nat} {A : Option Addr} {ps : List Part} (h : PsAt w B A n ps) (hi : i < n) :
    ∃ b off x, A = some ⟨b, off, none⟩ ∧ b < B ∧ ps[i]? = some x ∧ w.cell? ⟨b, off + i * 4, none⟩ = some (.int .i64 x.num) ∧ w.cell? ⟨b, off + i * 4 + 1, none⟩ = some (.string x.w.key) ∧ w.cell? ⟨b, off + i * 4 + 2, none⟩ = some (.string x.w.val) ∧ w.cell? ⟨b, off + i * 4 + 3, none⟩ = some (.bool x.w.drop) := by
  obtain ⟨b, off, x, e, hb, hx, hc⟩ := h.at_ hi
  exact ⟨b, off, x, e, hb, hx, hc 0 _ rfl, hc 1 _ rfl, hc 2 _ rfl, hc 3 _ rfl⟩
theorem one_part (x : Part) : ∀ u ∈ Part.cells x, u.oneCell' = true := by
  intro u hu; simp [Part.cells] at hu; rcases hu with rfl | rfl | rfl | rfl <;> rfl
/-- How much there is. -/
def szP : Int → List Part → Int
  | n, [] => n
  | n, p :: r => if n < 2097152 then szP (n + p.w.key.size + p.w.val.size) r else n
theorem szP_drop {ps : List Part} {j : Nat} {p : Part} {n : Int} (h : ps[j]? = some p) : szP n (ps.drop j) = if n < 2097152 then szP (n + p.w.key.size + p.w.val.size) (ps.drop (j + 1)) else n := by
  rw [drop_get h, szP]
theorem szP_big {n : Int} (l : List Part) (h : ¬ n < 2097152) : szP n l = n := by cases l <;> simp [szP, h]
theorem szP_bd (l : List Part) (n : Int) (h0 : 0 ≤ n) (h1 : n ≤ 1125899906842624) (hs : ∀ p ∈ l, p.w.key.size ≤ 140737488351232 ∧ p.w.val.size ≤ 140737488351232) : 0 ≤ szP n l ∧ szP n l ≤ 1125899906842624 := by
  induction l generalizing n with
  | nil => exact ⟨h0, h1⟩
  | cons p r ih =>
    have := hs p (by simp)
    simp only [szP]
    split
    · exact ih _ (by omega) (by omega) (fun q hq => hs q (by simp [hq]))
    · exact ⟨h0, h1⟩
set_option maxHeartbeats 4000000 in
theorem size9_any (A : Option Addr) (len cap : Nat) (ps : List Part) (w : World) (hw : PsAt w w.heap.size A len ps) (hl : len * 48 ≤ 140737488351232) (hs : ∀ p ∈ ps, p.w.key.size ≤ 140737488351232 ∧ p.w.val.size ≤ 140737488351232) :
    Calls Try.prog 12 #[.slice A len cap] w fun e w' => e = .returned (.int .i64 (szP len ps)) ∧ Below w.heap.size w w' := by
  have Hs := Lib.hid hs
  have hlen := Lib.hid hw.len
  have hfin : ∀ (q : Int) (w' : World), szP len ps = q → Below w.heap.size w w' → (Ending.returned (.int .i64 q) = .returned (.int .i64 (szP len ps)) ∧ Below w.heap.size w w') := fun q w' h h' => by subst h; exact ⟨rfl, h'⟩
  have Hf := Lib.hid hfin
  clear hs hfin
  go_enter Try.func12, Try.ntmps12
  go_wp2_with fail
  go_loopw [3, 4] (fun n i wr => ∃ (j : Nat) (q : Int), j ≤ len ∧ i = .int .i64 j ∧ n = .int .i64 q ∧ 0 ≤ q ∧ q ≤ 1125899906842624 ∧ Hid (szP len ps = szP q (ps.drop j)) ∧ Below w.heap.size w wr) (fun _ i _ => len - (RowKit.intOf i).toNat)
  case atStart => exact ⟨0, len, by omega, rfl, rfl, by omega, by omega, Lib.hid rfl, Below.refl _ _⟩
  case round =>
    obtain ⟨j, q, hj, rfl, rfl, q0, q1, He, hb⟩ := hrel
    have hr := hw.below hb
    have Hb := Lib.hid hb
    clear hb
    by_cases hlt : j < len
    · obtain ⟨b, off, x, rfl, hbl, hx, x0, x1, x2, x3⟩ := PsAt.cell4 hr hlt
      obtain ⟨z0, z1⟩ := Hs.out x (List.mem_of_getElem? hx)
      have hd := szP_drop (n := q) hx
      have Hd := Lib.hid hd
      obtain ⟨num, wk, wv, wd⟩ := x
      simp only at x1 x2 z0 z1 Hd
      clear hx hr hd x0 x3
      by_cases hq : q < 2097152
      · have e1 : IntKind.i64.wrap (q + (wk.size : Int)) = q + wk.size := IntWalk.i64_in _ (by omega)
        have e2 : IntKind.i64.wrap (q + (wk.size : Int) + (wv.size : Int)) = q + wk.size + wv.size := IntWalk.i64_in _ (by omega)
        have e3 : (0 : Int) ≤ (j : Int) := by omega
        have e4 : (j : Int) < (len : Int) := by omega
        go_wp2_with fail
        go_quiet (fail)
        go_wp2_with fail
        exact ⟨⟨j + 1, _, by omega, by go_num, rfl, by omega, by omega, Lib.hid (by rw [He.out, Hd.out, if_pos hq]), below_drewN Hb.out _⟩, by simp [RowKit.intOf]; omega⟩
      · go_wp2_with fail
        go_ret
        exact Hf.out q _ (by rw [He.out, Hd.out, if_neg (by omega)]) Hb.out
    · obtain rfl : j = len := by omega
      go_wp2_with fail
      go_ret
      exact Hf.out q _ (by rw [He.out, List.drop_of_length_le (by have := hlen.out; omega)]; rfl) Hb.out
end Go.Proofs.Ytogdanakcikdbaa

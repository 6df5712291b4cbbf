/- towpathlaw09: the newest write. -/
import Derived.Test.YtogdanakcikdbaaSl6
namespace Go.Proofs.Ytogdanakcikdbaa
open Go.RowKit
set_option linter.unusedVariables false
set_option linter.unusedSimpArgs false

set_option maxRecDepth 100000
def newN (o : Option Part) : Int := (o.map Part.num).getD 0
def newV (o : Option Part) : ByteArray × Bool := match o with
  | some b => (b.w.val, !b.w.drop)
  | none => (⟨#[]⟩, false)
theorem newL_take {ps : List Part} {n : Nat} {x : Part} (h : ps[n]? = some x) (k : ByteArray) (m : Int) : newL (ps.take (n + 1)) k m = newI (newL (ps.take n) k m) k m x := by
  rw [List.take_add_one, h]; exact newL_snoc _ _ _ _
theorem keyL_dec (a b : ByteArray) : (a.toList == b.toList) = decide (a = b) := by
  rw [Bool.eq_iff_iff, decide_eq_true_eq, beq_iff_eq, ByteArray.toList_eq, ByteArray.toList_eq]
  exact ⟨fun h => by cases a; cases b; simp at h; simp [h], fun h => by rw [h]⟩
set_option maxHeartbeats 4000000 in
theorem newest_any (A : Option Addr) (len cap : Nat) (ps : List Part) (k : ByteArray) (mark : Int) (w : World) (hw : PsAt w w.heap.size A len ps) (hl : len ≤ 4398046511104) :
    Calls Try.prog 21 #[.slice A len cap, .string k, .int .i64 mark] w fun e w' => e = .returned (.tuple #[.string (newV (newL ps k mark)).1, .bool (newV (newL ps k mark)).2]) ∧ Below w.heap.size w w' := by
  have hlen := Lib.hid hw.len
  have hfin : ∀ (n : Nat) (w' : World), ps.take n = ps → Below w.heap.size w w' → (Ending.returned (.tuple #[.string (newV (newL (ps.take n) k mark)).1, .bool (newV (newL (ps.take n) k mark)).2]) = .returned (.tuple #[.string (newV (newL ps k mark)).1, .bool (newV (newL ps k mark)).2]) ∧ Below w.heap.size w w') := fun n w' h h' => by rw [h]; exact ⟨rfl, h'⟩
  have Hf := Lib.hid hfin
  have Hw := Lib.hid (fun X (hX : Below w.heap.size w X) => hw.below hX)
  clear hfin hw
  go_enter Try.func21, Try.ntmps21
  go_wp2_with fail
  go_loopw [8, 9, 10, 11] (fun a v g i wr => ∃ n : Nat, n ≤ len ∧ i = .int .i64 n ∧ a = .int .i64 (newN (newL (ps.take n) k mark)) ∧ v = .string (newV (newL (ps.take n) k mark)).1 ∧ g = .bool (newV (newL (ps.take n) k mark)).2 ∧ Hid (Below w.heap.size w wr)) (fun _ _ _ i _ => len - (RowKit.intOf i).toNat)
  case atStart => exact ⟨0, Nat.zero_le _, rfl, rfl, rfl, rfl, Lib.hid (Below.refl _ _)⟩
  case round =>
    obtain ⟨n, hn, rfl, rfl, rfl, rfl, HB⟩ := hrel
    by_cases hlt : n < len
    · obtain ⟨b, off, x, rfl, hbl, hx, x0, x1, x2, x3⟩ := PsAt.cell4 (Hw.out wr HB.out) hlt
      have htk := newL_take hx k mark
      generalize newL (ps.take n) k mark = best at htk ⊢
      have hne : newI best k mark x = if x.w.key = k ∧ x.num ≤ mark ∧ newN best < x.num then some x else best := rfl
      rw [hne] at htk
      generalize hbn : newN best = bn at htk ⊢
      have HN := Lib.hid hbn
      clear hbn
      have hk := keyL_dec x.w.key k
      have hv : newV (some x) = (x.w.val, !x.w.drop) := rfl
      have hnn : newN (some x) = x.num := rfl
      generalize hb1 : (newV best).1 = bv
      generalize hb2 : (newV best).2 = bg
      have Hb1 := Lib.hid hb1
      have Hb2 := Lib.hid hb2
      obtain ⟨pn, pk, pv, pd⟩ := x
      simp only at x0 x1 x2 x3 htk hk hv hnn
      have e0 : (0 : Int) ≤ (n : Int) := by omega
      have e1 : (n : Int) < (len : Int) := by omega
      clear hx hb1 hb2 hne
      by_cases h1 : pk = k
      · subst h1
        simp only [decide_true] at hk
        by_cases h2 : pn ≤ mark
        · by_cases h3 : bn < pn
          · have HT : Hid (newL (ps.take (n + 1)) pk mark = some ⟨pn, pk, pv, pd⟩) := Lib.hid (by rw [htk, if_pos ⟨rfl, h2, h3⟩])
            have Hv := Lib.hid hv
            have Hn := Lib.hid hnn
            clear htk hv hnn
            go_wp2_with fail
            exact ⟨⟨n + 1, by omega, by go_num, by rw [HT.out, Hn.out], by rw [HT.out, Hv.out], by rw [HT.out, Hv.out], HB⟩, by simp [RowKit.intOf]; omega⟩
          · have HT : Hid (newL (ps.take (n + 1)) pk mark = best) := Lib.hid (by rw [htk, if_neg (fun h => h3 h.2.2)])
            clear htk hv hnn
            go_wp2_with fail
            exact ⟨⟨n + 1, by omega, by go_num, by rw [HT.out, HN.out], by rw [HT.out, Hb1.out], by rw [HT.out, Hb2.out], HB⟩, by simp [RowKit.intOf]; omega⟩
        · have HT : Hid (newL (ps.take (n + 1)) pk mark = best) := Lib.hid (by rw [htk, if_neg (fun h => h2 h.2.1)])
          clear htk hv hnn
          go_wp2_with fail
          exact ⟨⟨n + 1, by omega, by go_num, by rw [HT.out, HN.out], by rw [HT.out, Hb1.out], by rw [HT.out, Hb2.out], HB⟩, by simp [RowKit.intOf]; omega⟩
      · have HT : Hid (newL (ps.take (n + 1)) k mark = best) := Lib.hid (by rw [htk, if_neg (fun h => h1 h.1)])
        rw [decide_eq_false h1] at hk
        clear htk hv hnn h1
        go_wp2_with fail
        exact ⟨⟨n + 1, by omega, by go_num, by rw [HT.out, HN.out], by rw [HT.out, Hb1.out], by rw [HT.out, Hb2.out], HB⟩, by simp [RowKit.intOf]; omega⟩
    · obtain rfl : n = len := by omega
      go_wp2_with fail
      go_ret2
      exact Hf.out n wr (by rw [List.take_of_length_le (by have := hlen.out; omega)]) HB.out
end Go.Proofs.Ytogdanakcikdbaa

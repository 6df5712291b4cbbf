/- The reference's folds: places among entries. -/
import Derived.Test.YtdcnaieieggclaaFr4
import Derived.Test.YtdcnaieieggclaaApp
namespace Go.Proofs.Ytdcnaieieggclaa
open Go.RowKit
set_option linter.unusedVariables false
set_option linter.unusedSimpArgs false

open Go.Maps
def PlacePost (w : World) (st : List Ent) (k : ByteArray) (e : Ending) (w' : World) : Prop := ∃ (p : Nat) (hit : Bool), e = .returned (.tuple #[.int .i64 p, .bool hit]) ∧ PlaceOf st k p hit ∧ Below w.heap.size w w'
theorem ent_cell2 {w : World} {B n i : Nat} {A : Option Addr} {st : List Ent} (h : EntsAt w B A n st) (hi : i < n) :
    ∃ b off x, A = some ⟨b, off, none⟩ ∧ b < B ∧ st[i]? = some x ∧ w.cell? ⟨b, off + i * 2, none⟩ = some (.string x.key) ∧ w.cell? ⟨b, off + i * 2 + 1, none⟩ = some (.string x.val) := by
  obtain ⟨b, off, x, e, hb, hx, hc⟩ := h.at_ hi
  exact ⟨b, off, x, e, hb, hx, hc 0 _ rfl, hc 1 _ rfl⟩
theorem rises_mono {st : List Ent} {k : ByteArray} (hr : RisesE st) {i j : Nat} {x y : Ent} (hi : st[i]? = some x) (hj : st[j]? = some y) (hij : i ≤ j) (h : ltB y.key k = true) : ltB x.key k = true := by
  rcases Nat.lt_or_eq_of_le hij with h1 | h1
  · exact ltB_trans (rises_lt hr hi hj h1) h
  · subst h1; rw [hi] at hj; injection hj with e; rw [e]; exact h
set_option maxHeartbeats 1000000 in
theorem rplace_any (A : Option Addr) (len cap : Nat) (st : List Ent) (k : ByteArray) (w : World) (hw : EntsAt w w.heap.size A len st) (hl : len ≤ 4398046511104) (hr : RisesE st) :
    Calls Try.prog 53 #[.slice A len cap, .string k] w (PlacePost w st k) := by
  have hlen := Lib.hid hw.len
  have Hr := Lib.hid hr
  clear hr
  go_enter Try.func53, Try.ntmps53
  go_wp2_with fail
  go_loop [6, 7] (fun a b => ∃ lo hi : Nat, lo ≤ hi ∧ hi ≤ len ∧ a = .int .i64 lo ∧ b = .int .i64 hi ∧ Hid (∀ (i : Nat) (x : Ent), st[i]? = some x → i < lo → ltB x.key k = true) ∧ Hid (∀ (i : Nat) (x : Ent), st[i]? = some x → hi ≤ i → ltB x.key k = false)) (fun a b => (RowKit.intOf b).toNat - (RowKit.intOf a).toNat)
  case atStart => exact ⟨0, len, by omega, Nat.le_refl _, rfl, rfl, Lib.hid (fun i x _ h => by omega), Lib.hid (fun i x h1 h2 => by have := (List.getElem?_eq_some_iff.1 h1).1; have := hlen.out; omega)⟩
  case round =>
    obtain ⟨lo, hi, h1, h2, rfl, rfl, Hlo, Hhi⟩ := hrel
    by_cases hlt : lo < hi
    · obtain ⟨b, off, x, rfl, hbl, hx, x0, x1⟩ := ent_cell2 hw (show (lo + hi) / 2 < len by omega)
      have Hx := Lib.hid hx
      clear hx
      cases hc : ltB x.key k
      · have hc2 : Op.bytesLess x.key.toList k.toList = false := by rw [less_eq, hc]
        have Hc := Lib.hid hc
        clear hc
        go_wp2_with fail
        refine ⟨⟨lo, (lo + hi) / 2, by omega, by omega, rfl, by congr 1, Hlo, Lib.hid (fun i y hy hi2 => ?_)⟩, by simp [RowKit.intOf]; omega⟩
        cases hcy : ltB y.key k
        · rfl
        · rw [rises_mono Hr.out Hx.out hy hi2 hcy] at Hc
          exact absurd Hc.out (by simp)
      · have hc2 : Op.bytesLess x.key.toList k.toList = true := by rw [less_eq, hc]
        have Hc := Lib.hid hc
        clear hc
        go_wp2_with fail
        exact ⟨⟨(lo + hi) / 2 + 1, hi, by omega, by omega, by congr 1, rfl, Lib.hid (fun i y hy hi2 => rises_mono Hr.out hy Hx.out (by omega) Hc.out), Hhi⟩, by simp [RowKit.intOf]; omega⟩
    · obtain rfl : lo = hi := by omega
      by_cases hll : lo < len
      · obtain ⟨b, off, x, rfl, hbl, hx, x0, x1⟩ := ent_cell2 hw hll
        have hpl : PlaceOf st k lo (x.key.toList == k.toList) := ⟨by have := hlen.out; omega, fun i y hy => ⟨fun hi => Hlo.out i y hy hi, fun h => Classical.byContradiction fun hc => by rw [Hhi.out i y hy (by omega)] at h; cases h⟩, by rw [hx]; rfl⟩
        have Hpl := Lib.hid hpl
        clear hx hpl
        go_wp2_with fail
        go_quiet (fail)
        go_wp2_with fail
        go_ret2
        exact ⟨lo, _, rfl, Hpl.out, below_drewN (Below.refl _ _) _⟩
      · have hpl : PlaceOf st k lo false := ⟨by have := hlen.out; omega, fun i y hy => ⟨fun hi => Hlo.out i y hy hi, fun h => Classical.byContradiction fun hc => by rw [Hhi.out i y hy (by omega)] at h; cases h⟩, by rw [List.getElem?_eq_none (by have := hlen.out; omega)]; rfl⟩
        have Hpl := Lib.hid hpl
        have hdl : decide (lo < len) = false := by rw [decide_eq_false_iff_not]; exact hll
        clear hpl
        go_wp2_with fail
        go_quiet (fail)
        go_wp2_with fail
        go_ret2
        exact ⟨lo, _, rfl, Hpl.out, below_drewN (Below.refl _ _) _⟩
def WritePost (w : World) (st : List Ent) (e : Ending) (w' : World) : Prop := ∃ v, e = .returned v ∧ EntsOwn w' w.heap.size v st ∧ Below w.heap.size w w'
set_option maxHeartbeats 2000000 in
set_option maxRecDepth 8000 in
theorem rwrite_any (A : Option Addr) (len cap : Nat) (st : List Ent) (x : Wr) (w : World) (hw : EntsAt w w.heap.size A len st) (hl : len ≤ 2199023255552) (hc : len ≤ cap) (hn : A = none → cap = 0) (hr : RisesE st) :
    Calls Try.prog 72 #[.slice A len cap, .agg #[.string x.key, .string x.val, .bool x.drop]] w (WritePost w (stepE st x)) := by
  have hlen := Lib.hid hw.len
  have Hr := Lib.hid hr
  have Hn := Lib.hid hn
  have hw2 : ∀ o, EntsAt (w.alloc o) (w.alloc o).heap.size A len st := fun o => (hw.below ((Below.refl _ _).alloc (Nat.le_refl _) _)).more (by simp)
  have Hw2 := Lib.hid hw2
  have hnil : ∀ (X : World) (B : Nat), X.ownsRow B 57 2 (.slice none 0 0) 0 [] := fun X B => ⟨rfl, Or.inl ⟨rfl, rfl⟩⟩
  have Hnil := Lib.hid hnil
  obtain ⟨i0, hi, hz0, hz1, hz2⟩ := info_parts info_ent
  obtain ⟨xk, xv, xd⟩ := x
  clear hr hw2 hn hnil
  cases xd
  · go_enter Try.func72, Try.ntmps72
    go_wp2_with fail
    refine (rplace_any A len cap st xk _ (Hw2.out _) (by omega) Hr.out).mono ?_
    rintro e w1 ⟨p, hit, rfl, hp, hb1⟩
    have hpl : p ≤ len := by have := hp.1; have := hlen.out; omega
    have hph : hit = true → p + 1 ≤ len := fun h => by
      have h2 := hp.2.2
      rw [h] at h2
      cases hg : st[p]? with
      | none => rw [hg] at h2; cases h2
      | some y => have := (List.getElem?_eq_some_iff.1 hg).1; have := hlen.out; omega
    have c0 : w1.cell? ⟨w.heap.size, 0, none⟩ = some (.string xk) := cell_box (hb1.mono (by simp)) 0 rfl
    have c1 : w1.cell? ⟨w.heap.size, 1, none⟩ = some (.string xv) := cell_box (hb1.mono (by simp)) 1 rfl
    have c2 : w1.cell? ⟨w.heap.size, 2, none⟩ = some (.bool false) := cell_box (hb1.mono (by simp)) 2 rfl
    have hs1 : w.heap.size < w1.heap.size := size_box (hb1.mono (by simp))
    have hbw1 := below_box (hb1.mono (by simp))
    have hrow := hw.below hbw1
    have hsrc := hrow.take_ hpl
    have Hbw1 := Lib.hid hbw1
    have Hp := Lib.hid hp
    have Hsrc := Lib.hid hsrc
    have Hph := Lib.hid hph
    clear hp hb1 hbw1 hsrc hrow hph
    cases hit
    · have hq : p ≤ len := by omega
      have hfin := Hp.out.write (x := ⟨xk, xv, false⟩) Hr.out
      have Hfin := Lib.hid hfin
      have hnn : (if cap = p then A else A.map (·.add (p * 2))) = none → cap - p = 0 := fun h => by
        split at h
        · omega
        · cases A with
          | none => have := Hn.out rfl; omega
          | some a => cases h
      have Hnn := Lib.hid hnn
      clear hfin hnn
      go_wp2_with (first | (at_builtin; refine wpList_append_row (cells := Ent.cells) rfl (.tmp 15) (.tmp 18) 43 rfl w1.heap.size 57 i0 _ 2 32 Try.underlying43 hi hz0 hz1 hz2 rfl (by decide) (.slice none 0 0) 0 [] rfl (Hnil.out _ _) A p cap w.heap.size (st.take p) rfl Hsrc.out Hn.out (len_ent _) one_ent (by simp only [maxLen]; omega) (by omega) (by omega) ?_; intro v1 w2 hown1 hg1; have hb2 := below_grown_own (Hnil.out w1 w1.heap.size) hg1 (Nat.le_refl _); have hs2 := hb2.size; have d0 := (hb2.cell (p := ⟨w.heap.size, 0, none⟩) hs1).trans c0; have d1 := (hb2.cell (p := ⟨w.heap.size, 1, none⟩) hs1).trans c1; have d2 := (hb2.cell (p := ⟨w.heap.size, 2, none⟩) hs1).trans c2; have Hb2 := Lib.hid hb2; have Hown1 := Lib.hid hown1; clear hb2 hown1 hg1) | (at_builtin; refine wpList_append_own _ rfl (.tmp 23) (.tmp 29) 43 rfl w1.heap.size 57 i0 _ 2 32 Try.underlying43 hi hz0 hz1 hz2 rfl (by decide) v1 (0 + p) ([] ++ (st.take p).flatMap Ent.cells) rfl (Hown1.out.alloc _) ⟨w2.heap.size, 0, none⟩ 1 1 (Ent.cells ⟨xk, xv⟩) rfl rfl (cells_new _ _ _) (one_ent _) (by simp only [maxLen]; omega) (by omega) (by simp; omega) ?_; intro v2 w3 hown2 hg2 _; have hb3 := Hb2.out.trans (below_grown_new Hown1.out hg2 (by omega)); have hs3 := hb3.size; have Hb3 := Lib.hid hb3; have Hown2 := Lib.hid hown2; clear hb3 hown2 hg2) | (at_builtin; refine wpList_append_row (cells := Ent.cells) rfl (.tmp 34) (.tmp 37) 43 rfl w1.heap.size 57 i0 _ 2 32 Try.underlying43 hi hz0 hz1 hz2 rfl (by decide) v2 (0 + p + 1) ([] ++ (st.take p).flatMap Ent.cells ++ Ent.cells ⟨xk, xv⟩) rfl Hown2.out _ (len - p) _ w.heap.size (st.drop (p)) rfl ((hw.below (Hbw1.out.trans (Hb3.out.mono (by omega)))).cut (by omega) hc) (Hnn.out) (len_ent _) one_ent (by simp only [maxLen]; omega) (by omega) (by omega) ?_; intro v4 w4 hown4 hg4; have hb4 := Hb3.out.trans (below_grown_own Hown2.out hg4 (by omega)); have Hb4 := Lib.hid hb4; have Hown4 := Lib.hid hown4; clear hb4 hown4 hg4))
      all_goals
        go_ret
        refine ⟨v4, rfl, ?_, Hbw1.out.trans (Hb4.out.mono (by omega))⟩
        rw [← Hfin.out]
        have h4 := ownsRow_base_a Hown4.out (show w.heap.size ≤ w1.heap.size by omega)
        have hl : ((st.take p ++ [(⟨xk, xv⟩ : Ent)] ++ st.drop p).length : Nat) = 0 + p + 1 + (len - p) := by simp only [List.length_append, List.length_take, List.length_drop, List.length_cons, List.length_nil, hlen.out]; omega
        unfold EntsOwn
        simp only [if_true, Nat.add_zero, Bool.false_eq_true, if_false]
        rw [hl]
        simp only [List.append_nil, List.flatMap_append, List.flatMap_cons, List.flatMap_nil, List.nil_append, Nat.zero_add] at h4 ⊢
        exact h4
    · have hq : (p + 1) ≤ len := Hph.out rfl
      have hfin := Hp.out.write (x := ⟨xk, xv, false⟩) Hr.out
      have Hfin := Lib.hid hfin
      have hnn : (if cap = (p + 1) then A else A.map (·.add ((p + 1) * 2))) = none → cap - (p + 1) = 0 := fun h => by
        split at h
        · omega
        · cases A with
          | none => have := Hn.out rfl; omega
          | some a => cases h
      have Hnn := Lib.hid hnn
      clear hfin hnn
      go_wp2_with (first | (at_builtin; refine wpList_append_row (cells := Ent.cells) rfl (.tmp 15) (.tmp 18) 43 rfl w1.heap.size 57 i0 _ 2 32 Try.underlying43 hi hz0 hz1 hz2 rfl (by decide) (.slice none 0 0) 0 [] rfl (Hnil.out _ _) A p cap w.heap.size (st.take p) rfl Hsrc.out Hn.out (len_ent _) one_ent (by simp only [maxLen]; omega) (by omega) (by omega) ?_; intro v1 w2 hown1 hg1; have hb2 := below_grown_own (Hnil.out w1 w1.heap.size) hg1 (Nat.le_refl _); have hs2 := hb2.size; have d0 := (hb2.cell (p := ⟨w.heap.size, 0, none⟩) hs1).trans c0; have d1 := (hb2.cell (p := ⟨w.heap.size, 1, none⟩) hs1).trans c1; have d2 := (hb2.cell (p := ⟨w.heap.size, 2, none⟩) hs1).trans c2; have Hb2 := Lib.hid hb2; have Hown1 := Lib.hid hown1; clear hb2 hown1 hg1) | (at_builtin; refine wpList_append_own _ rfl (.tmp 23) (.tmp 29) 43 rfl w1.heap.size 57 i0 _ 2 32 Try.underlying43 hi hz0 hz1 hz2 rfl (by decide) v1 (0 + p) ([] ++ (st.take p).flatMap Ent.cells) rfl (Hown1.out.alloc _) ⟨w2.heap.size, 0, none⟩ 1 1 (Ent.cells ⟨xk, xv⟩) rfl rfl (cells_new _ _ _) (one_ent _) (by simp only [maxLen]; omega) (by omega) (by simp; omega) ?_; intro v2 w3 hown2 hg2 _; have hb3 := Hb2.out.trans (below_grown_new Hown1.out hg2 (by omega)); have hs3 := hb3.size; have Hb3 := Lib.hid hb3; have Hown2 := Lib.hid hown2; clear hb3 hown2 hg2) | (at_builtin; refine wpList_append_row (cells := Ent.cells) rfl (.tmp 34) (.tmp 37) 43 rfl w1.heap.size 57 i0 _ 2 32 Try.underlying43 hi hz0 hz1 hz2 rfl (by decide) v2 (0 + p + 1) ([] ++ (st.take p).flatMap Ent.cells ++ Ent.cells ⟨xk, xv⟩) rfl Hown2.out _ (len - (p + 1)) _ w.heap.size (st.drop ((p + 1))) rfl ((hw.below (Hbw1.out.trans (Hb3.out.mono (by omega)))).cut (by omega) hc) (Hnn.out) (len_ent _) one_ent (by simp only [maxLen]; omega) (by omega) (by omega) ?_; intro v4 w4 hown4 hg4; have hb4 := Hb3.out.trans (below_grown_own Hown2.out hg4 (by omega)); have Hb4 := Lib.hid hb4; have Hown4 := Lib.hid hown4; clear hb4 hown4 hg4))
      all_goals
        go_ret
        refine ⟨v4, rfl, ?_, Hbw1.out.trans (Hb4.out.mono (by omega))⟩
        rw [← Hfin.out]
        have h4 := ownsRow_base_a Hown4.out (show w.heap.size ≤ w1.heap.size by omega)
        have hl : ((st.take p ++ [(⟨xk, xv⟩ : Ent)] ++ st.drop (p + 1)).length : Nat) = 0 + p + 1 + (len - (p + 1)) := by simp only [List.length_append, List.length_take, List.length_drop, List.length_cons, List.length_nil, hlen.out]; omega
        unfold EntsOwn
        simp only [if_true, Nat.add_zero, Bool.false_eq_true, if_false]
        rw [hl]
        simp only [List.append_nil, List.flatMap_append, List.flatMap_cons, List.flatMap_nil, List.nil_append, Nat.zero_add] at h4 ⊢
        exact h4
  · go_enter Try.func72, Try.ntmps72
    go_wp2_with fail
    refine (rplace_any A len cap st xk _ (Hw2.out _) (by omega) Hr.out).mono ?_
    rintro e w1 ⟨p, hit, rfl, hp, hb1⟩
    have hpl : p ≤ len := by have := hp.1; have := hlen.out; omega
    have hph : hit = true → p + 1 ≤ len := fun h => by
      have h2 := hp.2.2
      rw [h] at h2
      cases hg : st[p]? with
      | none => rw [hg] at h2; cases h2
      | some y => have := (List.getElem?_eq_some_iff.1 hg).1; have := hlen.out; omega
    have c0 : w1.cell? ⟨w.heap.size, 0, none⟩ = some (.string xk) := cell_box (hb1.mono (by simp)) 0 rfl
    have c1 : w1.cell? ⟨w.heap.size, 1, none⟩ = some (.string xv) := cell_box (hb1.mono (by simp)) 1 rfl
    have c2 : w1.cell? ⟨w.heap.size, 2, none⟩ = some (.bool true) := cell_box (hb1.mono (by simp)) 2 rfl
    have hs1 : w.heap.size < w1.heap.size := size_box (hb1.mono (by simp))
    have hbw1 := below_box (hb1.mono (by simp))
    have hrow := hw.below hbw1
    have hsrc := hrow.take_ hpl
    have Hbw1 := Lib.hid hbw1
    have Hp := Lib.hid hp
    have Hsrc := Lib.hid hsrc
    have Hph := Lib.hid hph
    clear hp hb1 hbw1 hsrc hrow hph
    cases hit
    · have hq : p ≤ len := by omega
      have hfin := Hp.out.write (x := ⟨xk, xv, true⟩) Hr.out
      have Hfin := Lib.hid hfin
      have hnn : (if cap = p then A else A.map (·.add (p * 2))) = none → cap - p = 0 := fun h => by
        split at h
        · omega
        · cases A with
          | none => have := Hn.out rfl; omega
          | some a => cases h
      have Hnn := Lib.hid hnn
      clear hfin hnn
      go_wp2_with (first | (at_builtin; refine wpList_append_row (cells := Ent.cells) rfl (.tmp 15) (.tmp 18) 43 rfl w1.heap.size 57 i0 _ 2 32 Try.underlying43 hi hz0 hz1 hz2 rfl (by decide) (.slice none 0 0) 0 [] rfl (Hnil.out _ _) A p cap w.heap.size (st.take p) rfl Hsrc.out Hn.out (len_ent _) one_ent (by simp only [maxLen]; omega) (by omega) (by omega) ?_; intro v1 w2 hown1 hg1; have hb2 := below_grown_own (Hnil.out w1 w1.heap.size) hg1 (Nat.le_refl _); have hs2 := hb2.size; have d0 := (hb2.cell (p := ⟨w.heap.size, 0, none⟩) hs1).trans c0; have d1 := (hb2.cell (p := ⟨w.heap.size, 1, none⟩) hs1).trans c1; have d2 := (hb2.cell (p := ⟨w.heap.size, 2, none⟩) hs1).trans c2; have Hb2 := Lib.hid hb2; have Hown1 := Lib.hid hown1; clear hb2 hown1 hg1) | (at_builtin; refine wpList_append_row (cells := Ent.cells) rfl (.tmp 34) (.tmp 37) 43 rfl w1.heap.size 57 i0 _ 2 32 Try.underlying43 hi hz0 hz1 hz2 rfl (by decide) v1 (0 + p) ([] ++ (st.take p).flatMap Ent.cells) rfl Hown1.out _ (len - p) _ w.heap.size (st.drop (p)) rfl ((hw.below (Hbw1.out.trans (Hb2.out.mono (by omega)))).cut (by omega) hc) (Hnn.out) (len_ent _) one_ent (by simp only [maxLen]; omega) (by omega) (by omega) ?_; intro v4 w4 hown4 hg4; have hb4 := Hb2.out.trans (below_grown_own Hown1.out hg4 (by omega)); have Hb4 := Lib.hid hb4; have Hown4 := Lib.hid hown4; clear hb4 hown4 hg4))
      all_goals
        go_ret
        refine ⟨v4, rfl, ?_, Hbw1.out.trans (Hb4.out.mono (by omega))⟩
        rw [← Hfin.out]
        have h4 := ownsRow_base_a Hown4.out (show w.heap.size ≤ w1.heap.size by omega)
        have hl : ((st.take p ++ ([] : List Ent) ++ st.drop p).length : Nat) = 0 + p + (len - p) := by simp only [List.length_append, List.length_take, List.length_drop, List.length_cons, List.length_nil, hlen.out]; omega
        unfold EntsOwn
        simp only [if_true, Nat.add_zero, Bool.false_eq_true, if_false]
        rw [hl]
        simp only [List.append_nil, List.flatMap_append, List.flatMap_cons, List.flatMap_nil, List.nil_append, Nat.zero_add] at h4 ⊢
        exact h4
    · have hq : (p + 1) ≤ len := Hph.out rfl
      have hfin := Hp.out.write (x := ⟨xk, xv, true⟩) Hr.out
      have Hfin := Lib.hid hfin
      have hnn : (if cap = (p + 1) then A else A.map (·.add ((p + 1) * 2))) = none → cap - (p + 1) = 0 := fun h => by
        split at h
        · omega
        · cases A with
          | none => have := Hn.out rfl; omega
          | some a => cases h
      have Hnn := Lib.hid hnn
      clear hfin hnn
      go_wp2_with (first | (at_builtin; refine wpList_append_row (cells := Ent.cells) rfl (.tmp 15) (.tmp 18) 43 rfl w1.heap.size 57 i0 _ 2 32 Try.underlying43 hi hz0 hz1 hz2 rfl (by decide) (.slice none 0 0) 0 [] rfl (Hnil.out _ _) A p cap w.heap.size (st.take p) rfl Hsrc.out Hn.out (len_ent _) one_ent (by simp only [maxLen]; omega) (by omega) (by omega) ?_; intro v1 w2 hown1 hg1; have hb2 := below_grown_own (Hnil.out w1 w1.heap.size) hg1 (Nat.le_refl _); have hs2 := hb2.size; have d0 := (hb2.cell (p := ⟨w.heap.size, 0, none⟩) hs1).trans c0; have d1 := (hb2.cell (p := ⟨w.heap.size, 1, none⟩) hs1).trans c1; have d2 := (hb2.cell (p := ⟨w.heap.size, 2, none⟩) hs1).trans c2; have Hb2 := Lib.hid hb2; have Hown1 := Lib.hid hown1; clear hb2 hown1 hg1) | (at_builtin; refine wpList_append_row (cells := Ent.cells) rfl (.tmp 34) (.tmp 37) 43 rfl w1.heap.size 57 i0 _ 2 32 Try.underlying43 hi hz0 hz1 hz2 rfl (by decide) v1 (0 + p) ([] ++ (st.take p).flatMap Ent.cells) rfl Hown1.out _ (len - (p + 1)) _ w.heap.size (st.drop ((p + 1))) rfl ((hw.below (Hbw1.out.trans (Hb2.out.mono (by omega)))).cut (by omega) hc) (Hnn.out) (len_ent _) one_ent (by simp only [maxLen]; omega) (by omega) (by omega) ?_; intro v4 w4 hown4 hg4; have hb4 := Hb2.out.trans (below_grown_own Hown1.out hg4 (by omega)); have Hb4 := Lib.hid hb4; have Hown4 := Lib.hid hown4; clear hb4 hown4 hg4))
      all_goals
        go_ret
        refine ⟨v4, rfl, ?_, Hbw1.out.trans (Hb4.out.mono (by omega))⟩
        rw [← Hfin.out]
        have h4 := ownsRow_base_a Hown4.out (show w.heap.size ≤ w1.heap.size by omega)
        have hl : ((st.take p ++ ([] : List Ent) ++ st.drop (p + 1)).length : Nat) = 0 + p + (len - (p + 1)) := by simp only [List.length_append, List.length_take, List.length_drop, List.length_cons, List.length_nil, hlen.out]; omega
        unfold EntsOwn
        simp only [if_true, Nat.add_zero, Bool.false_eq_true, if_false]
        rw [hl]
        simp only [List.append_nil, List.flatMap_append, List.flatMap_cons, List.flatMap_nil, List.nil_append, Nat.zero_add] at h4 ⊢
        exact h4
end Go.Proofs.Ytdcnaieieggclaa

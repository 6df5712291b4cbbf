/- Lemmas and contracts of functions that a statement of this seat stands on; each holds under the premises typed in its head. -/
import Derived.Test.YtfokcdgahiljdaaT3
import Derived.Maps.Own
import Derived.Maps.OwnOps
namespace Go.Proofs.Ytfokcdgahiljdaa
open Go.RowKit
set_option linter.unusedVariables false
set_option linter.unusedSimpArgs false

open Go.Maps
def sameKey (x y : Wr) : Bool := y.key.toList == x.key.toList
/-- The writes that count: of each key the last one. -/
def countingL : List Wr → List Wr
  | [] => []
  | x :: r => if r.any (sameKey x) then countingL r else x :: countingL r
/-- The same, of the first k. -/
def countTo (ws : List Wr) (k : Nat) : List Wr := (List.range k).filterMap fun i => match ws[i]? with | some x => if (ws.drop (i + 1)).any (sameKey x) then none else some x | none => none
theorem countTo_succ {ws : List Wr} {k : Nat} {x : Wr} (h : ws[k]? = some x) : countTo ws (k + 1) = countTo ws k ++ if (ws.drop (k + 1)).any (sameKey x) then [] else [x] := by
  unfold countTo
  rw [List.range_succ, List.filterMap_append]
  congr 1
  simp only [List.filterMap_cons, h, List.filterMap_nil]
  by_cases hb : (ws.drop (k + 1)).any (sameKey x) = true
  · rw [if_pos hb, if_pos hb]
  · rw [if_neg hb, if_neg hb]
theorem countTo_cons (x : Wr) (r : List Wr) : ∀ k, countTo (x :: r) (k + 1) = (if r.any (sameKey x) then [] else [x]) ++ countTo r k := by
  intro k
  unfold countTo
  rw [List.range_succ_eq_map, List.filterMap_cons, List.filterMap_map]
  simp only [List.getElem?_cons_zero, List.drop_succ_cons, List.drop_zero]
  by_cases h : r.any (sameKey x) = true
  · simp [h, Function.comp_def]
  · simp [h, Function.comp_def]
theorem countTo_all (ws : List Wr) : countTo ws ws.length = countingL ws := by
  induction ws with
  | nil => rfl
  | cons x r ih =>
    rw [List.length_cons, countTo_cons, ih]
    show _ = if r.any (sameKey x) then countingL r else x :: countingL r
    by_cases hb : r.any (sameKey x) = true
    · rw [if_pos hb, if_pos hb]; rfl
    · rw [if_neg hb, if_neg hb]; rfl
theorem countTo_le (ws : List Wr) (k : Nat) : (countTo ws k).length ≤ k := by
  unfold countTo
  exact Nat.le_trans (List.length_filterMap_le _ _) (by simp)
theorem info_wr : (Try.prog.info? 56).map (fun i => (i.zero, i.size, i.bytes)) = some (some (.agg #[.string ⟨#[]⟩, .string ⟨#[]⟩, .bool false]), 3, 40) := by kernel_rfl

theorem bnot_f {a b : Bool} (h : false = !a) : false = !(a || b) := by cases a <;> simp_all
theorem bnot_t {a b : Bool} (h : true = !a) : (!b) = !(a || b) := by cases a <;> simp_all
theorem ownsRow_below {w w' : World} {base : Nat} {e : TypeId} {size : Nat} {v : Value} {n : Nat} {xs : List Value} (h : w.ownsRow base e size v n xs) (hb : Below w.heap.size w w') : w'.ownsRow base e size v n xs := by
  obtain ⟨h1, h2⟩ := h
  refine ⟨h1, ?_⟩
  rcases h2 with h2 | ⟨g, cap, cur, hv, hg, hh, r⟩
  · exact Or.inl h2
  · exact Or.inr ⟨g, cap, cur, hv, hg, by rw [hb.block g (Array.getElem?_eq_some_iff.1 hh).1]; exact hh, r⟩

theorem cells_new (w : World) (cs : List Value) (e : TypeId) : ∀ (j : Nat) (u : Value), cs[j]? = some u → (w.alloc (.cells cs.toArray e)).cell? ((⟨w.heap.size, 0, none⟩ : Addr).add j) = some u := by
  intro j u hu
  rw [Addr.add_lit, Nat.zero_add, cell_of_row _ _ _ cs.toArray e (0, 0) (heap_alloc_new w _)]
  simpa using hu
theorem one_wr (x : Wr) : ∀ (u : Value), u ∈ x.cells → u.oneCell' = true := by
  intro u hu
  simp only [Wr.cells, List.mem_cons, List.not_mem_nil, or_false] at hu
  rcases hu with rfl | rfl | rfl <;> rfl
theorem below_grown_new {w w' : World} {o : Obj} {v : Value} {base n size : Nat} {e : TypeId} {xs : List Value} (h : w.ownsRow base e size v n xs) (hg : (w.alloc o).grownBy w' v.ownBlock) (hb : base ≤ w.heap.size) : Below base w w' :=
  ((Below.refl _ _).alloc hb o).grown hg (by simp; omega) (fun k hk => (h.lt k hk).1)

set_option maxHeartbeats 1000000 in
theorem counting_any (n : Int) (A : Option Addr) (len cap : Nat) (ws : List Wr) (w : World) (hw : WsAt w w.heap.size A len ws) (hl : len ≤ 32) :
    Calls Try.prog 24 #[.agg #[.int .i64 n, .slice A len cap]] w fun e w' => ∃ v, e = .returned v ∧ w'.ownsRow (w.heap.size + 1) 56 3 v (countingL ws).length ((countingL ws).flatMap Wr.cells) ∧ Below w.heap.size w w' := by
  have hlen := Lib.hid hw.len
  go_enter Try.func24, Try.ntmps24
  go_wp2_with fail
  go_loopw [3, 4] (fun v i wr => ∃ k : Nat, k ≤ len ∧ i = .int .i64 k ∧ wr.ownsRow (w.heap.size + 1) 56 3 v (countTo ws k).length ((countTo ws k).flatMap Wr.cells) ∧ Below (w.heap.size + 1) (w.alloc (.cells #[.int .i64 n, .slice A len cap] 24)) wr) (fun _ i _ => len - (intOf i).toNat)
  case atStart => exact ⟨0, Nat.zero_le _, rfl, World.ownsRow_nil _ _ _ _, Below.refl _ _⟩
  case round =>
    obtain ⟨k, hk, rfl, hown, hb⟩ := hrel
    have hr := hw.below (below_box hb)
    have Hb := Lib.hid hb
    have hs := size_box hb
    have c0 := cell_box hb 0 rfl
    have c1 := cell_box hb 1 rfl
    have Hown := Lib.hid hown
    clear hb hown
    by_cases hlt : k < len
    · obtain ⟨b, off, x, rfl, hbl, hx, x0, x1, x2⟩ := WsAt.cell3 hr hlt
      have Hx := Lib.hid hx
      clear hx
      go_wp2_with fail
      obtain ⟨wo, rfl⟩ : ∃ wo : World, wo = wr := ⟨_, rfl⟩
      go_loopw [5, 6] (fun l j wi => ∃ (t : Nat) (c : Bool), k + 1 + t ≤ len ∧ j = .int .i64 ((k + 1 + t : Nat) : Int) ∧ l = .bool c ∧ c = (!((ws.drop (k + 1)).take t).any (sameKey x)) ∧ Below wo.heap.size wo wi) (fun _ j _ => len - (intOf j).toNat)
      case atStart => exact ⟨0, true, by omega, by go_num, rfl, rfl, Below.refl _ _⟩
      case round =>
        obtain ⟨t, c, ht, rfl, rfl, hc, hbi⟩ := hrel
        have Hc := Lib.hid hc
        have hri := hr.below (hbi.mono (by omega))
        have d0 := (hbi.cell (p := ⟨w.heap.size, 0, none⟩) hs).trans c0
        have d1 := (hbi.cell (p := ⟨w.heap.size, 1, none⟩) hs).trans c1
        have e0 := (hbi.cell (p := ⟨b, off + k * 3, none⟩) (by show b < _; omega)).trans x0
        have e1 := (hbi.cell (p := ⟨b, off + k * 3 + 1, none⟩) (by show b < _; omega)).trans x1
        have e2 := (hbi.cell (p := ⟨b, off + k * 3 + 2, none⟩) (by show b < _; omega)).trans x2
        have Hbi := Lib.hid hbi
        have hsi := hbi.size
        clear hc hbi
        by_cases hlt2 : k + 1 + t < len
        · obtain ⟨b', off', y, he, hbl', hy, y0, y1, y2⟩ := WsAt.cell3 hri hlt2
          simp only [Option.some.injEq, Addr.mk.injEq] at he
          obtain ⟨rfl, rfl, -⟩ := he
          have hy' : (ws.drop (k + 1))[t]? = some y := by rw [List.getElem?_drop]; exact hy
          have Hy := Lib.hid hy'
          clear hy hy' c0 c1 x0 x1 x2
          cases c
          · go_wp2_with fail
            go_quiet (fail)
            go_wp2_with fail
            refine ⟨⟨t + 1, false, by omega, by go_num, rfl, ?_, below_drewN Hbi.out _⟩, by simp [intOf]; omega⟩
            rw [any_take_succ Hy.out]; exact bnot_f Hc.out
          · go_wp2_with fail
            go_quiet (fail)
            go_wp2_with fail
            refine ⟨⟨t + 1, !(sameKey x y), by omega, by go_num, rfl, ?_, below_drewN Hbi.out _⟩, by simp [intOf]; omega⟩
            rw [any_take_succ Hy.out]; exact bnot_t Hc.out
        · clear c0 c1 x0 x1 x2
          have hall : c = !(ws.drop (k + 1)).any (sameKey x) := by
            have h1 := Hc.out
            rwa [List.take_of_length_le (by have := hlen.out; simp; omega)] at h1
          have Hall := Lib.hid hall
          clear hall Hc
          have hown2 := ownsRow_below Hown.out Hbi.out
          cases c
          · have hcnt : countTo ws (k + 1) = countTo ws k := by
              rw [countTo_succ Hx.out, if_pos (by have h := Hall.out; revert h; cases (ws.drop (k + 1)).any (sameKey x) <;> decide), List.append_nil]
            have Hcnt := Lib.hid hcnt
            clear hcnt
            go_wp2_with fail
            exact ⟨⟨k + 1, by omega, by go_num, by rw [Hcnt.out]; exact hown2, Hb.out.trans (Hbi.out.mono (by omega))⟩, by simp [intOf]; omega⟩
          · have hcnt : countTo ws (k + 1) = countTo ws k ++ [x] := by
              rw [countTo_succ Hx.out, if_neg (by have h := Hall.out; revert h; cases (ws.drop (k + 1)).any (sameKey x) <;> decide)]
            have Hcnt := Lib.hid hcnt
            clear hcnt
            have hle := countTo_le ws k
            obtain ⟨i0, hi, hz0, hz1, hz2⟩ := info_parts info_wr
            go_wp2_with (at_builtin; refine wpList_append_own _ rfl _ _ 22 rfl (w.heap.size + 1) 56 i0 _ 3 40 Try.underlying22 hi hz0 hz1 hz2 rfl (by decide) _ _ _ rfl (hown2.alloc _) ⟨wr.heap.size, 0, none⟩ 1 1 x.cells rfl rfl ?c1 ?c2 ?c3 ?c4 ?c5 ?_)
            case c1 => exact cells_new _ _ _
            case c2 => exact one_wr x
            case c3 => simp only [maxLen]; omega
            case c4 => omega
            case c5 => simp; omega
            intro v' w' hown' hg' hn'
            have hbl2 := below_grown_new hown2 hg' (by omega)
            have Hn := Lib.hid hn'
            clear hn' hg' hown2
            go_wp2_with fail
            refine ⟨⟨k + 1, by omega, by go_num, ?_, (Hb.out.trans (Hbi.out.mono (by omega))).trans hbl2⟩, by simp [intOf]; omega⟩
            rw [Hcnt.out]; simpa using hown'
    · have hkl : k = len := by omega
      subst hkl
      have he : countTo ws k = countingL ws := by rw [← hlen.out]; exact countTo_all ws
      have He := Lib.hid he
      clear he
      go_wp2
      go_ret
      exact ⟨_, rfl, by rw [← He.out]; exact Hown.out, below_box Hb.out⟩
end Go.Proofs.Ytfokcdgahiljdaa

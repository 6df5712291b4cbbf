/- XRd: out of XT1 XT2 XT3 XT4 XConfd XTwI XLog XLog2 (pick.py). -/
import Derived.Test.YtcjmppjppmiggaaGreatLg
import Derived.Test.YtcjmppjppmiggaaGreatCf
import Derived.Test.YtcjmppjppmiggaaGreatM7
import Derived.Test.YtcjmppjppmiggaaGreatTc1
import Derived.Maps.Own
import Derived.Maps.OwnOps
namespace Go.Proofs.YtcjmppjppmiggaaGreat
open Go.RowKit
set_option linter.unusedVariables false
set_option linter.unusedSimpArgs false

set_option maxRecDepth 100000
section
open Go.RowKit
set_option linter.unusedVariables false
set_option linter.unusedSimpArgs false

theorem key_any (k : ByteArray) (w : World) :
    Calls Tryz.prog 83 #[.string k] w fun e w' => e = .returned (.bool (keyB k)) ∧ w = w' := by
    go_enter Tryz.func83, Tryz.ntmps83
    go_wp2
    all_goals go_ret
    all_goals exact ⟨ret_bool (by simp only [keyB]; grind), rfl⟩

theorem val_any (k : ByteArray) (w : World) :
    Calls Tryz.prog 84 #[.string k] w fun e w' => e = .returned (.bool (valB k)) ∧ w = w' := by
  go_enter Tryz.func84, Tryz.ntmps84
  go_wp2
  go_ret
  exact ⟨ret_bool (by simp only [valB]; grind), rfl⟩

def numB (n : Int) : Bool := decide (1 ≤ n) && decide (n ≤ 65536)
theorem num_any (n : Int) (w : World) :
    Calls Tryz.prog 65 #[.int .i64 n] w fun e w' => e = .returned (.bool (numB n)) ∧ w = w' := by
    go_enter Tryz.func65, Tryz.ntmps65
    go_wp2
    all_goals go_ret
    all_goals exact ⟨ret_bool (by simp only [numB]; grind), rfl⟩

set_option maxHeartbeats 400000 in
theorem refwr_any (x : Wr) (w : World) :
    Calls Tryz.prog 66 #[x.v] w fun e w' => e = .returned (.bool (wrB x)) ∧ Below w.heap.size w w' := by
  obtain ⟨k, v, d⟩ := x
  have hfin : ∀ (b : Bool) (w' : World), b = (wrB ⟨k, v, d⟩) → Below w.heap.size w w' → (Ending.returned (.bool b) = .returned (.bool (wrB ⟨k, v, d⟩)) ∧ Below w.heap.size w w') := fun b w' h h' => ⟨by rw [h], h'⟩
  have Hf := Lib.hid hfin
  clear hfin
  unfold Wr.v
  go_enter Tryz.func66, Tryz.ntmps66
  go_wp2_with (first | (go_at_call 83; refine (key_any _ _).mono ?_; rintro e w' ⟨rfl, rfl⟩) | (go_at_call 84; refine (val_any _ _).mono ?_; rintro e w' ⟨rfl, rfl⟩))
  all_goals go_ret
  all_goals refine Hf.out _ _ ?_ ((Below.refl _ _).alloc (Nat.le_refl _) _)
  all_goals (clear Hf)
  all_goals (simp only [wrB] at *; grind)

set_option maxHeartbeats 400000 in
theorem refcheck_any (n : Int) (A : Option Addr) (len cap : Nat) (ws : List Wr) (w : World) (hw : WsAt w w.heap.size A len ws) :
    Calls Tryz.prog 46 #[.agg #[.int .i64 n, .slice A len cap]] w fun e w' => e = .returned (.int .i64 (errOf (txB n ws))) ∧ Below w.heap.size w w' := by
  have hfin : ∀ (b : Bool) (w' : World), b = txB n ws → Below w.heap.size w w' → (Ending.returned (.int .i64 (errOf b)) = .returned (.int .i64 (errOf (txB n ws))) ∧ Below w.heap.size w w') := fun b w' h h' => ⟨by rw [h], h'⟩
  have Hf := Lib.hid hfin
  have hlen := Lib.hid hw.len
  clear hfin
  go_enter Tryz.func46, Tryz.ntmps46
  go_wp2_with (first | (go_at_call 65; refine (num_any _ _).mono ?_; rintro e w' ⟨rfl, rfl⟩))
  · go_ret
    refine Hf.out false _ ?_ ((Below.refl _ _).alloc (Nat.le_refl _) _)
    have := hlen.out
    simp only [txB]; grind
  · go_loopw [3] (fun i wr => ∃ k : Nat, k ≤ len ∧ i = .int .i64 k ∧ (ws.take k).all wrB = true ∧ Below (w.heap.size + 1) (w.alloc (.cells #[.int .i64 n, .slice A len cap] 45)) wr) (fun i _ => len - (RowKit.intOf i).toNat)
    case atStart => exact ⟨0, Nat.zero_le _, rfl, rfl, Below.refl _ _⟩
    case round =>
      obtain ⟨k, hk, rfl, hall, hb⟩ := hrel
      have Hall := Lib.hid hall
      clear hall
      have hr := hw.below (below_box hb)
      have Hb := Lib.hid hb
      have hs := size_box hb
      have c0 := cell_box hb 0 rfl
      have c1 := cell_box hb 1 rfl
      clear hb
      by_cases hlt : k < len
      · obtain ⟨b, off, x, rfl, hbl, hx, x0, x1, x2⟩ := WsAt.cell3 hr hlt
        have Hx := Lib.hid hx
        clear hx
        go_wp2_with (go_at_call 66; refine (refwr_any x _).mono ?_; rintro e w' ⟨rfl, hb'⟩)
        · go_ret
          refine Hf.out false _ ?_ ((below_box Hb.out).trans (hb'.mono (by omega)))
          have := all_of_not (p := wrB) Hx.out (by simpa using ‹(!wrB x) = true›)
          simp [txB, this]
        · go_roundw
          case rel => exact ⟨k + 1, by omega, by go_num, by rw [all_take_succ Hx.out, Hall.out]; simpa using ‹(!wrB x) = false›, Hb.out.trans (hb'.mono (by omega))⟩
          case measure => simp [RowKit.intOf]; omega
      · have hkl : k = len := by omega
        go_wp2
        go_ret
        refine Hf.out true _ ?_ (below_box Hb.out)
        have h2 := Hall.out
        have h3 := hlen.out
        rw [List.take_of_length_le (by omega)] at h2
        have h4 := ‹numB n = true›; clear hw hr Hf Hb c0 c1; simp only [txB, h2, numB] at *; grind
  · go_ret
    refine Hf.out false _ ?_ ((Below.refl _ _).alloc (Nat.le_refl _) _)
    simp only [txB, numB] at *; grind
end
section
open Go.Maps
def sameKey (x y : Wr) : Bool := y.key.toList == x.key.toList
def countingL : List Wr → List Wr
  | [] => []
  | x :: r => if r.any (sameKey x) then countingL r else x :: countingL r
def countTo (ws : List Wr) (k : Nat) : List Wr := (List.range k).filterMap fun i => match ws[i]? with | some x => if (ws.drop (i + 1)).any (sameKey x) then none else some x | none => none
theorem countTo_succ {ws : List Wr} {k : Nat} {x : Wr} (h : ws[k]? = some x) : countTo ws (k + 1) = countTo ws k ++ if (ws.drop (k + 1)).any (sameKey x) then [] else [x] := by
  unfold countTo
  rw [List.range_succ, List.filterMap_append]
  congr 1
  simp only [List.filterMap_cons, h, List.filterMap_nil]
  by_cases hb : (ws.drop (k + 1)).any (sameKey x) = true
  · rw [if_pos hb, if_pos hb]
  · rw [if_neg hb, if_neg hb]
theorem countTo_cons (x : Wr) (r : List Wr) : ∀ k, countTo (x :: r) (k + 1) = (if r.any (sameKey x) then [] else [x]) ++ countTo r k := by
  intro k
  unfold countTo
  rw [List.range_succ_eq_map, List.filterMap_cons, List.filterMap_map]
  simp only [List.getElem?_cons_zero, List.drop_succ_cons, List.drop_zero]
  by_cases h : r.any (sameKey x) = true
  · simp [h, Function.comp_def]
  · simp [h, Function.comp_def]
theorem countTo_all (ws : List Wr) : countTo ws ws.length = countingL ws := by
  induction ws with
  | nil => rfl
  | cons x r ih =>
    rw [List.length_cons, countTo_cons, ih]
    show _ = if r.any (sameKey x) then countingL r else x :: countingL r
    by_cases hb : r.any (sameKey x) = true
    · rw [if_pos hb, if_pos hb]; rfl
    · rw [if_neg hb, if_neg hb]; rfl
theorem countTo_le (ws : List Wr) (k : Nat) : (countTo ws k).length ≤ k := by
  unfold countTo
  exact Nat.le_trans (List.length_filterMap_le _ _) (by simp)
theorem bnot_f {a b : Bool} (h : false = !a) : false = !(a || b) := by cases a <;> simp_all
theorem bnot_t {a b : Bool} (h : true = !a) : (!b) = !(a || b) := by cases a <;> simp_all
theorem one_wr (x : Wr) : ∀ (u : Value), u ∈ x.cells → u.oneCell' = true := by
  intro u hu
  simp only [Wr.cells, List.mem_cons, List.not_mem_nil, or_false] at hu
  rcases hu with rfl | rfl | rfl <;> rfl
theorem below_grown_new {w w' : World} {o : Obj} {v : Value} {base n size : Nat} {e : TypeId} {xs : List Value} (h : w.ownsRow base e size v n xs) (hg : (w.alloc o).grownBy w' v.ownBlock) (hb : base ≤ w.heap.size) : Below base w w' :=
  ((Below.refl _ _).alloc hb o).grown hg (by simp; omega) (fun k hk => (h.lt k hk).1)

set_option maxHeartbeats 1000000 in
theorem rcounting_any (n : Int) (A : Option Addr) (len cap : Nat) (ws : List Wr) (w : World) (hw : WsAt w w.heap.size A len ws) (hl : len ≤ 32) :
    Calls Tryz.prog 69 #[.agg #[.int .i64 n, .slice A len cap]] w fun e w' => ∃ v, e = .returned v ∧ w'.ownsRow (w.heap.size + 1) 85 3 v (countingL ws).length ((countingL ws).flatMap Wr.cells) ∧ Below w.heap.size w w' := by
  have hlen := Lib.hid hw.len
  go_enter Tryz.func69, Tryz.ntmps69
  go_wp2_with fail
  go_loopw [3, 4] (fun v i wr => ∃ k : Nat, k ≤ len ∧ i = .int .i64 k ∧ wr.ownsRow (w.heap.size + 1) 85 3 v (countTo ws k).length ((countTo ws k).flatMap Wr.cells) ∧ Below (w.heap.size + 1) (w.alloc (.cells #[.int .i64 n, .slice A len cap] 45)) wr) (fun _ i _ => len - (RowKit.intOf i).toNat)
  case atStart => exact ⟨0, Nat.zero_le _, rfl, World.ownsRow_nil _ _ _ _, Below.refl _ _⟩
  case round =>
    obtain ⟨k, hk, rfl, hown, hb⟩ := hrel
    have hr := hw.below (below_box hb)
    have Hb := Lib.hid hb
    have hs := size_box hb
    have c0 := cell_box hb 0 rfl
    have c1 := cell_box hb 1 rfl
    have Hown := Lib.hid hown
    clear hb hown
    by_cases hlt : k < len
    · obtain ⟨b, off, x, rfl, hbl, hx, x0, x1, x2⟩ := WsAt.cell3 hr hlt
      have Hx := Lib.hid hx
      clear hx
      go_wp2_with fail
      obtain ⟨wo, rfl⟩ : ∃ wo : World, wo = wr := ⟨_, rfl⟩
      go_loopw [5, 6] (fun l j wi => ∃ (t : Nat) (c : Bool), k + 1 + t ≤ len ∧ j = .int .i64 ((k + 1 + t : Nat) : Int) ∧ l = .bool c ∧ c = (!((ws.drop (k + 1)).take t).any (sameKey x)) ∧ Below wo.heap.size wo wi) (fun _ j _ => len - (RowKit.intOf j).toNat)
      case atStart => exact ⟨0, true, by omega, by go_num, rfl, rfl, Below.refl _ _⟩
      case round =>
        obtain ⟨t, c, ht, rfl, rfl, hc, hbi⟩ := hrel
        have Hc := Lib.hid hc
        have hri := hr.below (hbi.mono (by omega))
        have d0 := (hbi.cell (p := ⟨w.heap.size, 0, none⟩) hs).trans c0
        have d1 := (hbi.cell (p := ⟨w.heap.size, 1, none⟩) hs).trans c1
        have e0 := (hbi.cell (p := ⟨b, off + k * 3, none⟩) (by show b < _; omega)).trans x0
        have e1 := (hbi.cell (p := ⟨b, off + k * 3 + 1, none⟩) (by show b < _; omega)).trans x1
        have e2 := (hbi.cell (p := ⟨b, off + k * 3 + 2, none⟩) (by show b < _; omega)).trans x2
        have Hbi := Lib.hid hbi
        have hsi := hbi.size
        clear hc hbi
        by_cases hlt2 : k + 1 + t < len
        · obtain ⟨b', off', y, he, hbl', hy, y0, y1, y2⟩ := WsAt.cell3 hri hlt2
          simp only [Option.some.injEq, Addr.mk.injEq] at he
          obtain ⟨rfl, rfl, -⟩ := he
          have hy' : (ws.drop (k + 1))[t]? = some y := by rw [List.getElem?_drop]; exact hy
          have Hy := Lib.hid hy'
          clear hy hy' c0 c1 x0 x1 x2
          cases c
          · go_wp2_with fail
            go_quiet (fail)
            go_wp2_with fail
            refine ⟨⟨t + 1, false, by omega, by go_num, rfl, ?_, below_drewN Hbi.out _⟩, by simp [RowKit.intOf]; omega⟩
            rw [any_take_succ Hy.out]; exact bnot_f Hc.out
          · go_wp2_with fail
            go_quiet (fail)
            go_wp2_with fail
            refine ⟨⟨t + 1, !(sameKey x y), by omega, by go_num, rfl, ?_, below_drewN Hbi.out _⟩, by simp [RowKit.intOf]; omega⟩
            rw [any_take_succ Hy.out]; exact bnot_t Hc.out
        · clear c0 c1 x0 x1 x2
          have hall : c = !(ws.drop (k + 1)).any (sameKey x) := by
            have h1 := Hc.out
            rwa [List.take_of_length_le (by have := hlen.out; simp; omega)] at h1
          have Hall := Lib.hid hall
          clear hall Hc
          have hown2 := ownsRow_below Hown.out Hbi.out
          cases c
          · have hcnt : countTo ws (k + 1) = countTo ws k := by
              rw [countTo_succ Hx.out, if_pos (by have h := Hall.out; revert h; cases (ws.drop (k + 1)).any (sameKey x) <;> decide), List.append_nil]
            have Hcnt := Lib.hid hcnt
            clear hcnt
            go_wp2_with fail
            exact ⟨⟨k + 1, by omega, by go_num, by rw [Hcnt.out]; exact hown2, Hb.out.trans (Hbi.out.mono (by omega))⟩, by simp [RowKit.intOf]; omega⟩
          · have hcnt : countTo ws (k + 1) = countTo ws k ++ [x] := by
              rw [countTo_succ Hx.out, if_neg (by have h := Hall.out; revert h; cases (ws.drop (k + 1)).any (sameKey x) <;> decide)]
            have Hcnt := Lib.hid hcnt
            clear hcnt
            have hle := countTo_le ws k
            obtain ⟨i0, hi, hz0, hz1, hz2⟩ := info_parts info_wr
            go_wp2_with (at_builtin; refine wpList_append_own _ rfl _ _ 43 rfl (w.heap.size + 1) 85 i0 _ 3 40 Tryz.underlying43 hi hz0 hz1 hz2 rfl (by decide) _ _ _ rfl (hown2.alloc _) ⟨wr.heap.size, 0, none⟩ 1 1 x.cells rfl rfl ?c1 ?c2 ?c3 ?c4 ?c5 ?_)
            case c1 => exact cells_new _ _ _
            case c2 => exact one_wr x
            case c3 => simp only [maxLen]; omega
            case c4 => omega
            case c5 => simp; omega
            intro v' w' hown' hg' hn'
            have hbl2 := below_grown_new hown2 hg' (by omega)
            have Hn := Lib.hid hn'
            clear hn' hg' hown2
            go_wp2_with fail
            refine ⟨⟨k + 1, by omega, by go_num, ?_, (Hb.out.trans (Hbi.out.mono (by omega))).trans hbl2⟩, by simp [RowKit.intOf]; omega⟩
            rw [Hcnt.out]; simpa using hown'
    · have hkl : k = len := by omega
      subst hkl
      have he : countTo ws k = countingL ws := by rw [← hlen.out]; exact countTo_all ws
      have He := Lib.hid he
      clear he
      go_wp2
      go_ret
      exact ⟨_, rfl, by rw [← He.out]; exact Hown.out, below_box Hb.out⟩
end
theorem in_any (n m : Int) (w : World) : Calls Tryz.prog 45 #[.int .i64 n, .int .i64 m] w fun e w' => e = .returned (.bool (inB n m)) ∧ w = w' := by
  go_enter Tryz.func45, Tryz.ntmps45
  go_wp2
  all_goals go_ret
  all_goals exact ⟨ret_bool (by simp only [inB]; grind), rfl⟩

set_option maxHeartbeats 400000 in
theorem refcfg_any (c : Cfg) (w : World) : Calls Tryz.prog 24 #[c.v] w fun e w' => e = .returned (.int .i64 (errCfg c.ok)) ∧ Below w.heap.size w w' := by
  obtain ⟨a, b, d, q⟩ := c
  have hfin : ∀ (x : Bool) (w' : World), x = Cfg.ok ⟨a, b, d, q⟩ → Below w.heap.size w w' → (Ending.returned (.int .i64 (errCfg x)) = .returned (.int .i64 (errCfg (Cfg.ok ⟨a, b, d, q⟩))) ∧ Below w.heap.size w w') := fun x w' h h' => ⟨by rw [h], h'⟩
  have Hf := Lib.hid hfin
  clear hfin
  unfold Cfg.v
  go_enter Tryz.func24, Tryz.ntmps24
  go_wp2_with (go_at_call 45; refine (in_any _ _ _).mono ?_; rintro e w' ⟨rfl, rfl⟩)
  all_goals go_ret
  all_goals first
    | (refine Hf.out true _ ?_ ((Below.refl _ _).alloc (Nat.le_refl _) _); clear Hf; simp only [Cfg.ok]; grind)
    | (refine Hf.out false _ ?_ ((Below.refl _ _).alloc (Nat.le_refl _) _); clear Hf; simp only [Cfg.ok]; grind)

set_option maxHeartbeats 1000000 in
theorem reflog_any (A : Option Addr) (len cap : Nat) (rs : List RTx) (w : World) (hw : TxsAt w w.heap.size A len rs) (hl : len ≤ 4398046511104) :
    Calls Tryz.prog 25 #[.slice A len cap] w fun e w' => e = .returned (.int .i64 (logErr rs 1)) ∧ Below w.heap.size w w' := by
  have hlen := Lib.hid hw.1.len
  have hfin : ∀ (x : Int) (w' : World), logErr rs 1 = x → Below w.heap.size w w' → (Ending.returned (.int .i64 x) = .returned (.int .i64 (logErr rs 1)) ∧ Below w.heap.size w w') := fun x w' h h' => ⟨by rw [h], h'⟩
  have Hf := Lib.hid hfin
  clear hfin
  go_enter Tryz.func25, Tryz.ntmps25
  go_wp2_with fail
  go_loopw [3] (fun i wr => ∃ k : Nat, k ≤ len ∧ i = .int .i64 k ∧ logErr rs 1 = logErr (rs.drop k) ((k : Int) + 1) ∧ Below w.heap.size w wr) (fun i _ => len - (RowKit.intOf i).toNat)
  case atStart => exact ⟨0, Nat.zero_le _, rfl, rfl, Below.refl _ _⟩
  case round =>
    obtain ⟨k, hk, rfl, herr, hb⟩ := hrel
    have hr := hw.below hb
    have Hb := Lib.hid hb
    have Herr := Lib.hid herr
    have hs := hb.size
    clear hb herr
    by_cases hlt : k < len
    · obtain ⟨b, off, r, rfl, hbl, hx, x0, x1, hws, hrl⟩ := hr.cell2 hlt
      have Hx := Lib.hid hx
      have hws2 := hws.more hs
      clear hx
      go_wp2_with fail
      refine (refcheck_any r.number r.A r.len r.cap r.ws _ hws2).mono ?_
      rintro e w1 ⟨rfl, hb1⟩
      have y0 := (hb1.cell (p := ⟨b, off + k * 2, none⟩) (by show b < _; omega)).trans x0
      have Hb1 := Lib.hid (Hb.out.trans (hb1.mono hs))
      clear hb1 x0 x1
      cases ht : txB r.number r.ws
      · have Ht := Lib.hid ht
        clear ht
        rw [show errOf false = 1 from rfl]
        go_wp2_with fail
        go_ret
        refine Hf.out _ _ ?_ Hb1.out
        have := (logErr_drop (m := (k : Int) + 1) Hx.out).2 (by simp [turnN, Ht.out])
        rw [Herr.out, this]; simp [turnN, Ht.out]
      · have Ht := Lib.hid ht
        clear ht
        rw [show errOf true = 0 from rfl]
        by_cases hn : r.number = (k : Int) + 1
        · have Hn := Lib.hid hn
          have hn2 : (r.number != (k : Int) + 1) = false := by simp [hn]
          clear hn
          go_wp2_with fail
          refine ⟨⟨k + 1, by omega, by go_num, ?_, Hb1.out⟩, by simp [RowKit.intOf]; omega⟩
          have := (logErr_drop (m := (k : Int) + 1) Hx.out).1 (by have h1 := Ht.out; rw [Hn.out] at h1; simp [turnN, Hn.out, h1])
          rw [Herr.out, this]; simp
        · have Hn := Lib.hid hn
          have hn2 : (r.number != (k : Int) + 1) = true := by simp [hn]
          clear hn
          go_wp2_with fail
          go_ret
          refine Hf.out _ _ ?_ Hb1.out
          have := (logErr_drop (m := (k : Int) + 1) Hx.out).2 (by simp [turnN, Ht.out, Hn.out])
          rw [Herr.out, this]; simp [turnN, Ht.out, Hn.out]
    · have hkl : k = len := by omega
      subst hkl
      go_wp2_with fail
      go_ret
      refine Hf.out _ _ ?_ Hb.out
      rw [Herr.out, List.drop_of_length_le (by have := hlen.out; omega)]; rfl

set_option maxHeartbeats 1000000 in
theorem rplace_any (A : Option Addr) (len cap : Nat) (mark : Int) (A2 : Option Addr) (len2 cap2 : Nat) (l : List Int) (w : World) (hw : IsAt w w.heap.size A2 len2 l) (hl : len ≤ 4398046511104) (hl2 : len2 ≤ 4398046511104000) :
    Calls Tryz.prog 26 #[.slice A len cap, .int .i64 mark, .slice A2 len2 cap2] w fun e w' => e = .returned (.bool (placeB len mark l)) ∧ w = w' := by
  have hlen := Lib.hid hw.len
  have hfin : ∀ (b : Bool) (w' : World), placeB len mark l = b → w = w' → (Ending.returned (.bool b) = .returned (.bool (placeB len mark l)) ∧ w = w') := fun b w' h h' => ⟨by rw [h], h'⟩
  have Hf := Lib.hid hfin
  clear hfin
  by_cases hm : 0 ≤ mark ∧ mark ≤ (len : Int)
  · obtain ⟨hm0, hm1⟩ := hm
    go_enter Tryz.func26, Tryz.ntmps26
    go_wp2_with fail
    go_loop [7, 8] (fun t i => ∃ (k : Nat) (than : Int), k ≤ len2 ∧ i = .int .i64 k ∧ t = .int .i64 than ∧ risesB len l (mark + 1) = risesB len (l.drop k) than) (fun _ i => len2 - (RowKit.intOf i).toNat)
    case atStart => exact ⟨0, _, Nat.zero_le _, rfl, rfl, rfl⟩
    case round =>
      obtain ⟨k, than, hk, rfl, rfl, hri⟩ := hrel
      have Hri := Lib.hid hri
      clear hri
      by_cases hlt : k < len2
      · obtain ⟨b, off, x, rfl, hbl, hx, x0⟩ := hw.cell1 hlt
        have Hx := Lib.hid hx
        clear hx
        have hri2 : risesB len (l.drop k) than = (decide (than < x) && decide (x ≤ len) && risesB len (l.drop (k + 1)) x) := by rw [drop_get Hx.out]; rfl
        have Hri2 := Lib.hid hri2
        clear hri2
        go_wp2_with fail
        case roundEnd =>
          go_round
          case rel => exact ⟨k + 1, x, by omega, by go_num, rfl, by rw [Hri.out, Hri2.out]; grind⟩
          case measure => simp [RowKit.intOf]; omega
        all_goals
          go_ret
          refine Hf.out _ _ ?_ rfl
          have h1 := Hri.out
          have h2 := Hri2.out
          clear Hf hw
          simp only [placeB]
          grind
      · have hkl : k = len2 := by omega
        subst hkl
        go_wp2_with fail
        go_ret
        refine Hf.out _ _ ?_ rfl
        have h1 := Hri.out
        rw [List.drop_of_length_le (by have := hlen.out; omega)] at h1
        clear Hf hw
        simp only [placeB, h1, risesB]
        grind
  · go_enter Tryz.func26, Tryz.ntmps26
    go_wp2_with fail
    all_goals first
      | (exfalso; omega)
      | (go_ret
         refine Hf.out _ _ ?_ rfl
         clear Hf hw
         simp only [placeB]
         grind)

end Go.Proofs.YtcjmppjppmiggaaGreat

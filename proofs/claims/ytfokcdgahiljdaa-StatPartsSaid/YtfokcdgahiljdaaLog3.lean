/- Lemmas and contracts of functions that a statement of this seat stands on; each holds under the premises typed in its head. -/
import Derived.Test.YtfokcdgahiljdaaLog2
import Derived.Test.YtfokcdgahiljdaaCall
import Derived.Deep.RegionHeld3
namespace Go.Proofs.Ytfokcdgahiljdaa
open Go.RowKit
set_option linter.unusedVariables false
set_option linter.unusedSimpArgs false

def thereL (n : Nat) (l : List Int) (k : Nat) : List Bool := (List.range n).map fun (j : Nat) => (l.take k).contains (j : Int)
theorem there_set {n k : Nat} {l : List Int} {x : Int} (h : l[k]? = some x) (h0 : 0 ≤ x) : (thereL n l k).set x.toNat true = thereL n l (k + 1) := by
  unfold thereL
  apply List.ext_getElem?
  intro i
  rw [List.getElem?_set]
  simp only [List.getElem?_map, List.length_map, List.length_range]
  rw [List.take_add_one, h]
  by_cases hi : i < n
  · rw [List.getElem?_range hi]
    by_cases hx : x.toNat = i
    · subst hx
      have : ((x.toNat : Nat) : Int) = x := by omega
      simp [hi, this]
    · have hne : ¬ (i : Int) = x := by omega
      simp only [hx, if_false, Option.map_some, Option.toList_some, List.contains_eq_any_beq, List.any_append, List.any_cons, List.any_nil]
      have : ((i : Int) == x) = false := by simpa using hne
      rw [this]; simp
  · have : (List.range n)[i]? = none := by simp; omega
    rw [this]
    by_cases hx : x.toNat = i
    · subst hx; simp [hi]
    · simp [hx]
theorem there_zero (n : Nat) (l : List Int) : thereL n l 0 = List.replicate n false := by
  unfold thereL; simp [List.map_const']
theorem there_get {n j : Nat} {l : List Int} (h : j < n) : (thereL n l l.length)[j]? = some (l.contains (j : Int)) := by
  unfold thereL; simp [h]
theorem info_bool : (Try.prog.info? 4).map (fun i => (i.zero, i.size, i.bytes)) = some (some (.bool false), 1, 1) := by kernel_rfl

theorem RowAt.cut {α : Type} {cells : α → List Value} {size : Nat} {w : World} {B n k cap : Nat} {A : Option Addr} {xs : List α} (h : RowAt cells size w B A n xs) (hk : k ≤ n) (hc : n ≤ cap) :
    RowAt cells size w B (if cap = k then A else A.map (·.add (k * size))) (n - k) (xs.drop k) := by
  refine ⟨by rw [List.length_drop, h.1], fun hn => ?_⟩
  obtain ⟨b, off, rfl, hb, hcell⟩ := h.2 (by omega)
  rw [if_neg (by omega)]
  refine ⟨b, off + k * size, by simp [Addr.add_lit], hb, fun i x hx j u hu => ?_⟩
  rw [List.getElem?_drop] at hx
  have := hcell _ x hx j u hu
  rw [Nat.add_mul, ← Nat.add_assoc] at this
  exact this

set_option maxHeartbeats 1000000 in
theorem log_bad1 (A : Option Addr) (len cap : Nat) (rs : List RTx) (mark : Int) (A2 : Option Addr) (len2 cap2 : Nat) (w : World) (hw : TxsAt w w.heap.size A len rs) (hl : len ≤ 4398046511104) (hbad : logErr rs 1 ≠ 0 ∨ mark < 0 ∨ (len : Int) < mark) :
    Calls Try.prog 17 #[.slice A len cap, .int .i64 mark, .slice A2 len2 cap2] w fun e w' => e = .returned (.tuple #[.int .i64 0, .int .i64 1]) ∧ Below w.heap.size w w' := by
  by_cases he : logErr rs 1 = 0
  · have He := Lib.hid he
    have hb2 : mark < 0 ∨ (len : Int) < mark := by rcases hbad with h | h; exact absurd he h; exact h
    clear he hbad
    go_enter Try.func17, Try.ntmps17
    go_wp2_with fail
    refine (logcheck_any A len cap rs _ hw hl).mono ?_
    rintro e w1 ⟨rfl, hb1⟩
    rw [He.out]
    rcases hb2 with h | h
    · go_wp2_with fail
      go_ret2
      exact ⟨rfl, hb1⟩
    · by_cases h0 : mark < 0
      · go_wp2_with fail
        go_ret2
        exact ⟨rfl, hb1⟩
      · go_wp2_with fail
        go_ret2
        exact ⟨rfl, hb1⟩
  · have hne : (logErr rs 1 != 0) = true := by simpa using he
    clear hbad
    go_enter Try.func17, Try.ntmps17
    go_wp2_with fail
    refine (logcheck_any A len cap rs _ hw hl).mono ?_
    rintro e w1 ⟨rfl, hb1⟩
    go_wp2_with fail
    go_ret2
    exact ⟨rfl, hb1⟩

set_option maxHeartbeats 1000000 in
theorem log_good1 (A : Option Addr) (len cap : Nat) (rs : List RTx) (mark : Int) (A2 : Option Addr) (len2 cap2 : Nat) (l : List Int) (w : World) (hw : TxsAt w w.heap.size A len rs) (hi : IsAt w w.heap.size A2 len2 l) (hl : len ≤ 4398046511104) (hlc : len ≤ cap) (hl2 : len2 ≤ 4398046511104000)
    (hgood : logErr rs 1 = 0) (hm0 : 0 ≤ mark) (hm1 : mark ≤ (len : Int)) :
    Calls Try.prog 17 #[.slice A len cap, .int .i64 mark, .slice A2 len2 cap2] w fun e w' => e = .returned (pairV (logCount rs mark l)) ∧ Below w.heap.size w w' := by
  have hlen := Lib.hid hw.1.len
  have hlen2 := Lib.hid hi.len
  have hl6 : len ≤ 65536 := by have := logErr_le hgood; have := hlen.out; omega
  obtain ⟨i0, hif, hz0, hz1, hz2⟩ := info_parts info_bool
  have Hg := Lib.hid hgood
  clear hgood
  go_enter Try.func17, Try.ntmps17
  go_wp2_with fail
  refine (logcheck_any A len cap rs _ hw hl).mono ?_
  rintro e w1 ⟨rfl, hb1⟩
  rw [Hg.out]
  have hs1 := hb1.size
  have Hb1 := Lib.hid hb1
  have hw1 := hw.below hb1
  have hi1 := hi.below hb1
  clear hb1
  go_wp2_with (at_make; refine wpList_make_full _ rfl _ _ 60 rfl w1.heap.size 4 i0 _ 1 Try.underlying60 hif hz0 hz1 _ _ _ _ (len + 1) rfl rfl (by omega) (by omega) (by rw [hz2]; omega) (by simp only [maxLen]; omega) (Nat.le_refl _) ?_; intro w2 hown2 hgrow2)
  have hblk := blk_of_own hown2
  have hs2 : w1.heap.size < w2.heap.size := blk_lt hblk
  have hb2 : Below w1.heap.size w1 w2 := (Below.refl _ _).grown hgrow2 (Nat.le_refl _) (fun k hk => by cases hk)
  have hrep : (madeCells (Value.bool false).cells ((len + 1) * 1)) = ((thereL (len + 1) l 0).map Value.bool).toArray := by
    rw [there_zero, List.map_replicate]
    refine Array.ext (by simp [madeCells]) fun i h1 h2 => by simp [madeCells, Value.cells, Nat.mod_one]
  rw [hrep] at hblk
  obtain ⟨m, rfl⟩ := Int.eq_ofNat_of_zero_le hm0
  clear hown2 hgrow2 hrep hm0
  go_wp2_with fail
  go_loopw [8, 38] (fun t i wr => ∃ (k : Nat) (than : Int), k ≤ len2 ∧ i = .int .i64 k ∧ t = .int .i64 than ∧ (m : Int) + 1 ≤ than ∧ risesB len l ((m : Int) + 1) = risesB len (l.drop k) than ∧ wr.heap[w1.heap.size]? = some (.cells ((thereL (len + 1) l k).map Value.bool).toArray 4 (0, 0)) ∧ Below w1.heap.size w1 wr) (fun _ i _ => len2 - (intOf i).toNat)
  case atStart => exact ⟨0, _, Nat.zero_le _, rfl, rfl, by omega, rfl, by simpa using hblk, hb2⟩
  case round =>
    obtain ⟨k, than, hk, rfl, rfl, hth, hri, hbk, hb⟩ := hrel
    have hr := hi1.below (hb.mono (by omega))
    have Hri := Lib.hid hri
    have Hb := Lib.hid hb
    have Hbk := Lib.hid hbk
    have hs := blk_lt hbk
    clear hri hb hbk
    by_cases hlt : k < len2
    · obtain ⟨b, off, x, rfl, hbl, hx, x0⟩ := IsAt.cell1 hr hlt
      have Hx := Lib.hid hx
      clear hx
      have hri2 : risesB len (l.drop k) than = (decide (than < x) && decide (x ≤ len) && risesB len (l.drop (k + 1)) x) := by rw [drop_get Hx.out]; rfl
      have Hri2 := Lib.hid hri2
      clear hri2
      by_cases hxx : than < x ∧ x ≤ len
      · obtain ⟨hx1, hx2⟩ := hxx
        have hcell : (wr.cell? ⟨w1.heap.size, x.toNat, none⟩).isSome = true := by
          rw [blk_cell Hbk.out]; simp [thereL]; omega
        obtain ⟨old, hold⟩ := Option.isSome_iff_exists.1 hcell
        have hfr := blk_frozen Hbk.out x.toNat
        clear hcell
        have hx3 : x < (len : Int) + 1 := by omega
        have hx4 : 0 ≤ x := by omega
        go_wp2_with fail
        refine ⟨⟨k + 1, x, by omega, by go_num, rfl, by omega, ?_, ?_, Hb.out.setCell (by simp) _⟩, by simp [intOf]; omega⟩
        · rw [Hri.out, Hri2.out]; simp [hx1, hx2]
        · rw [blk_set Hbk.out]
          congr 2
          rw [← there_set Hx.out hx4]
          simp [List.map_set]
      · have hbad : placeB rs.length m l = false := by
          have h1 := Hri.out
          have h2 := Hri2.out
          have h3 : risesB len l ((m : Int) + 1) = false := by rw [h1, h2]; grind
          rw [← hlen.out] at h3
          simp [placeB, h3]
        have hc : logCount rs m l = (0, 1) := by simp [logCount, hbad]
        have Hc := Lib.hid hc
        clear hc hbad
        go_wp2_with fail
        all_goals first
          | (exfalso; exact hxx ⟨by omega, by omega⟩)
          | (go_ret2
             exact ⟨ret_pair Hc.out, Hb1.out.trans (Hb.out.mono (by omega))⟩)
    · have hkl : k = len2 := by omega
      subst hkl
      have hpl : placeB rs.length m l = true := by
        have h1 := Hri.out
        rw [List.drop_of_length_le (by have := hlen2.out; omega)] at h1
        rw [← hlen.out] at h1
        simp only [placeB, h1, risesB]
        have := hlen.out; grind
      have hc : logCount rs m l = (logSum l (rs.drop m), 0) := by simp [logCount, hpl, Hg.out]
      have Hc := Lib.hid hc
      have hbt := Hbk.out
      rw [← hlen2.out] at hbt
      have hcut := RowAt.cut (k := m) (hw1.1.below (Hb.out.mono (by omega))) (by omega) hlc
      have hwr := hw1.below (Hb.out.mono (by omega))
      have Hbt := Lib.hid hbt
      clear hc hpl hbt
      by_cases hcm : cap = m
      · have hlm : len = m := by omega
        subst hlm
        go_wp2_with fail
        go_loopw [12, 60] (fun n i wy => i = .int .i64 0 ∧ n = .int .i64 0 ∧ Below w1.heap.size w1 wy) (fun _ _ _ => 0)
        case atStart => exact ⟨rfl, rfl, Hb.out⟩
        case round =>
          obtain ⟨rfl, rfl, hby⟩ := hrel
          go_wp2_with fail
          go_ret2
          refine ⟨ret_pair ?_, Hb1.out.trans (hby.mono (by omega))⟩
          rw [Hc.out, List.drop_of_length_le (by have := hlen.out; omega)]; rfl
      · rw [if_neg hcm] at hcut
        have Hcm := Lib.hid hcm
        go_wp2_with fail
        clear hcm
        have hcut' : RowAt RTx.cells 2 wr w.heap.size (Option.map (fun x => x.add (m * 2)) A) (len - m) (rs.drop m) := hcut
        generalize Option.map (fun x => x.add (m * 2)) A = A' at hcut' ⊢
        clear hcut
        have hall : ∀ (j : Nat) (r : RTx), (rs.drop m)[j]? = some r → txB r.number r.ws = true ∧ r.number = ((m + j + 1 : Nat) : Int) ∧ WsAt w1 w.heap.size r.A r.len r.ws ∧ r.len * 40 ≤ 140737488351232 := by
          intro j r hr
          rw [List.getElem?_drop] at hr
          have h1 := logErr_ok Hg.out hr
          have h2 := hw1.2 r (List.mem_of_getElem? hr)
          exact ⟨h1.1, by rw [h1.2]; omega, h2⟩
        have Hall := Lib.hid hall
        clear hall
        obtain ⟨wo, rfl⟩ : ∃ wo : World, wo = wr := ⟨_, rfl⟩
        go_loopw [12, 60] (fun n i wy => ∃ (k : Nat) (q : Int), k ≤ len - m ∧ i = .int .i64 k ∧ n = .int .i64 q ∧ 0 ≤ q ∧ q ≤ 69 * (k : Int) ∧ q + logSum l ((rs.drop m).drop k) = logSum l (rs.drop m) ∧ Below wo.heap.size wo wy) (fun _ i _ => len - m - (intOf i).toNat)
        case atStart => exact ⟨0, 0, by omega, rfl, rfl, by omega, by omega, by simp, Below.refl _ _⟩
        case round =>
          obtain ⟨j, q, hj, rfl, rfl, hq0, hq1, hsum, hby⟩ := hrel
          have hry := hcut'.below (hby.mono (by have := Hb.out.size; omega))
          have hbt2 := (hby.block w1.heap.size (blk_lt Hbt.out)).trans Hbt.out
          have Hby := Lib.hid hby
          have Hsum := Lib.hid hsum
          have hsy := hby.size
          have hso := blk_lt Hbt.out
          clear hby hsum
          by_cases hlt2 : j < len - m
          · obtain ⟨b, off, r, rfl, hbl, hx, hxc⟩ := hry.at_ hlt2
            obtain ⟨htx, hnum, hws, hrl⟩ := Hall.out j r hx
            have x0 := hxc 0 _ rfl
            have x1 := hxc 1 _ rfl
            simp only [Nat.add_zero] at x0 x1
            have Hx := Lib.hid hx
            have Htx := Lib.hid htx
            have Hnum := Lib.hid hnum
            clear hx hxc htx hnum
            have hth : wr.cell? ⟨w1.heap.size, r.number.toNat, none⟩ = some (.bool (l.contains r.number)) := by
              have hnn := Hnum.out
              rw [blk_cell hbt2, hnn, Int.toNat_natCast]
              simp only [List.getElem?_toArray, List.getElem?_map, there_get (show m + j + 1 < len + 1 by omega), Option.map_some]
            generalize hfl : l.contains r.number = fl at hth
            have Hfl := Lib.hid hfl
            clear hfl hbt2
            obtain ⟨W, hW⟩ : ∃ W : World, W = wr.alloc (.cells #[.int .i64 r.number, .slice r.A r.len r.cap] 24) := ⟨_, rfl⟩
            have g0 : W.cell? ⟨wr.heap.size, 0, none⟩ = some (.int .i64 r.number) := by rw [hW]; simp [go_sem]
            have g1 : W.cell? ⟨wr.heap.size, 1, none⟩ = some (.slice r.A r.len r.cap) := by rw [hW]; simp [go_sem]
            have g2 : W.cell? ⟨w1.heap.size, r.number.toNat, none⟩ = some (.bool fl) := by rw [hW, World.cell?_alloc_lt _ _ _ (by show w1.heap.size < _; omega)]; exact hth
            have hBW : Below wo.heap.size wo W := by rw [hW]; exact Hby.out.alloc hsy _
            have hzW : W.heap.size = wr.heap.size + 1 := by rw [hW]; simp
            have hwsW : WsAt W.drew W.drew.heap.size r.A r.len r.ws := (hws.below ((Hb.out.mono (by omega)).trans (hBW.mono (by omega)))).more (by show _ ≤ W.heap.size; omega)
            have hnl : r.number < (len : Int) + 1 := by have := Hnum.out; omega
            have hn0 : 0 ≤ r.number := by have := Hnum.out; omega
            have hll : r.ws.length ≤ 32 := txB_len Htx.out
            have HzW := Lib.hid hzW
            have HBW := Lib.hid hBW
            have hlW : wr.heap.size < W.heap.size := by omega
            have hlw1 : w1.heap.size < W.heap.size := by omega
            have Hll := Lib.hid (txnN_bd (sk := fl) hll)
            go_wp2_with fail
            rw [← hW]
            clear hW hzW hBW hth hll
            go_region_held3 (fun w' => w'.cell? ⟨wr.heap.size, 0, none⟩ = some (.int .i64 r.number) ∧ w'.cell? ⟨wr.heap.size, 1, none⟩ = some (.slice r.A r.len r.cap) ∧ w'.cell? ⟨w1.heap.size, r.number.toNat, none⟩ = some (.bool fl))
              (first | exact ⟨g0, g1, g2⟩ | exact ⟨(hbx.cell (p := ⟨wr.heap.size, 0, none⟩) hlW).trans g0, (hbx.cell (p := ⟨wr.heap.size, 1, none⟩) hlW).trans g1, (hbx.cell (p := ⟨w1.heap.size, r.number.toNat, none⟩) hlw1).trans g2⟩)
              (first | (go_at_call 8; refine (txn_good r.number r.A r.len r.cap r.ws fl W.drew hwsW (by omega) Htx.out).mono ?_; rintro e w3 ⟨rfl, hb3⟩; have hbx : Below W.heap.size W w3 := (Below.refl _ _).drew.trans hb3; have Hbx := Lib.hid hbx; clear hb3))
            have ht0 := Hll.out.1
            have ht1 := Hll.out.2
            go_wp2_with fail
            refine (sum2_any q (txnN r.ws fl) _ hq0 ht0 (by omega) (by omega) ⟨w3.heap.size, 0, none⟩ (by simp) (by simp [go_sem]) (by simp [go_sem, Addr.add_lit])).mono ?_
            rintro e w4 ⟨rfl, rfl⟩
            have hz3 := Hbx.out.size
            have hzW2 := HzW.out
            clear hzW2
            go_wp2_with fail
            refine ⟨⟨j + 1, q + txnN r.ws fl, by omega, by go_num, rfl, by omega, by omega, ?_, (HBW.out.trans (Hbx.out.mono (by have := HzW.out; omega))).alloc (by have := HzW.out; omega) _⟩, by simp [intOf]; omega⟩
            rw [← Hsum.out, drop_get Hx.out]
            simp only [logSum, Hfl.out]; omega
          · have hjl : j = len - m := by omega
            subst hjl
            go_wp2_with fail
            go_ret2
            refine ⟨ret_pair ?_, Hb1.out.trans ((Hb.out.trans (Hby.out.mono (by omega))).mono (by omega))⟩
            rw [Hc.out, ← Hsum.out, List.drop_of_length_le (l := rs.drop m) (by have := hlen.out; simp; omega)]
            simp [logSum]

theorem log_any (A : Option Addr) (len cap : Nat) (rs : List RTx) (mark : Int) (A2 : Option Addr) (len2 cap2 : Nat) (l : List Int) (w : World) (hw : TxsAt w w.heap.size A len rs) (hi : IsAt w w.heap.size A2 len2 l) (hl : len ≤ 4398046511104) (hlc : len ≤ cap) (hl2 : len2 ≤ 4398046511104000) :
    Calls Try.prog 17 #[.slice A len cap, .int .i64 mark, .slice A2 len2 cap2] w fun e w' => e = .returned (pairV (logCount rs mark l)) ∧ Below w.heap.size w w' := by
  have hlen := hw.1.len
  by_cases h : logErr rs 1 = 0 ∧ 0 ≤ mark ∧ mark ≤ (len : Int)
  · exact log_good1 A len cap rs mark A2 len2 cap2 l w hw hi hl hlc hl2 h.1 h.2.1 h.2.2
  · have hc : logCount rs mark l = (0, 1) := by
      unfold logCount
      rw [if_neg]
      rintro ⟨h1, h2⟩
      simp only [placeB] at h2
      apply h
      grind
    rw [hc]
    exact log_bad1 A len cap rs mark A2 len2 cap2 w hw hl (by grind)
end Go.Proofs.Ytfokcdgahiljdaa

/- towpathref26: Lanes. -/
import Derived.Test.YtgkhgbeiploefaaDoorRs2
namespace Go.Proofs.YtgkhgbeiploefaaDoor
open Go.RowKit
set_option linter.unusedVariables false
set_option linter.unusedSimpArgs false

set_option maxRecDepth 100000
/-- The lanes' counts behind so many events. -/
def lnUp (es : List Ev) (n j : Nat) : List Int := (laneRun (es.take j) (lane0 n)).1
theorem laneRun_held (l : List Ev) (p : List Int × List Bool) : (laneRun l p).2 = l.foldl holdB p.2 := by
  unfold laneRun
  induction l generalizing p with
  | nil => rfl
  | cons e r ih => rw [List.foldl_cons, List.foldl_cons, ih]; rfl
theorem lnUp_succ {es : List Ev} {n j : Nat} {e : Ev} (h : es[j]? = some e) : lnUp es n (j + 1) = addH (lnUp es n j) (hRun (es.take (j + 1)) n) := by
  unfold lnUp
  rw [laneRun_snoc h, hRun_snoc h]
  unfold laneStep
  rw [laneRun_held]
  rfl
theorem lnUp_ok (es : List Ev) (n j : Nat) (hj : j ≤ es.length) : (lnUp es n j).length = n ∧ ∀ x ∈ lnUp es n j, 0 ≤ x ∧ x ≤ (j : Int) := by
  have h1 := laneRun_ok (es.take j) 0 (lane0 n) (lane0_ok n)
  rw [Nat.zero_add, List.length_take, Nat.min_eq_left hj] at h1
  exact ⟨h1.1, h1.2.2⟩
theorem reflanes_no (c : Cfg) (hok : c.ok = false) (A : Option Addr) (len cap : Nat) (w : World) :
    Calls Tryd.prog 8 #[c.v, .slice A len cap] w fun e w' => e = .returned (.tuple #[.slice none 0 0, .int .i64 7]) ∧ Below w.heap.size w w' := by
  have Hok := Lib.hid hok
  obtain ⟨lanes, shards, window, queue⟩ := c
  clear hok
  unfold Cfg.v
  go_enter Tryd.func8, Tryd.ntmps8
  go_wp2_with fail
  refine (refcfg_any ⟨lanes, shards, window, queue⟩ _).mono ?_
  rintro e w1 ⟨rfl, hb1⟩
  rw [Hok.out, show errCfg false = 7 from rfl]
  have HB1 : Hid (Below w.heap.size w w1) := Lib.hid (((Below.refl _ _).alloc (Nat.le_refl _) _).trans (hb1.mono (by simp)))
  clear hb1
  go_wp2_with fail
  go_ret2
  exact ⟨rfl, HB1.out⟩
set_option maxHeartbeats 4000000 in
theorem reflanes_any (c : Cfg) (n : Nat) (hok : c.ok = true) (hn : c.lanes = n) (hn16 : n ≤ 16) (A : Option Addr) (len cap : Nat) (es : List Ev) (w : World) (he : EsAt w w.heap.size A len es) (hlc : len ≤ cap) (hlen : len ≤ 4398046511104) :
    Calls Tryd.prog 8 #[c.v, .slice A len cap] w fun e w' => ∃ g, w.heap.size < g ∧ g < w'.heap.size ∧ e = .returned (.tuple #[.slice (some ⟨g, 0, none⟩) n n, .int .i64 0]) ∧ IntsIn w' g (laneRun es (lane0 n)).1 ∧ Below w.heap.size w w' := by
  obtain ⟨lanes, shards, window, queue⟩ := c
  simp only at hn
  subst hn
  have Hok := Lib.hid hok
  clear hok
  have Hel := Lib.hid he.len
  have Hlb := Lib.hid (fun w' (h : Below w.heap.size w w') => he.below h)
  obtain ⟨j0, jif, jz0, jz1, jz2⟩ := info_parts info_int
  clear he
  unfold Cfg.v
  go_enter Tryd.func8, Tryd.ntmps8
  go_wp2_with fail
  refine (refcfg_any ⟨(n : Int), shards, window, queue⟩ _).mono ?_
  rintro e w1 ⟨rfl, hb1⟩
  rw [Hok.out, show errCfg true = 0 from rfl]
  have hz1 : w.heap.size + 1 ≤ w1.heap.size := by have := hb1.size; simpa using this
  have hL : w1.heap[w.heap.size]? = some (.cells #[.int .i64 n, .int .i64 shards, .int .i64 window, .int .i64 queue] 23 (0, 0)) := (hb1.block _ (by simp)).trans (blk_new _ _)
  have l0 : w1.cell? ⟨w.heap.size, 0, none⟩ = some (.int .i64 n) := blk_cell hL 0
  have HB1 : Hid (Below w.heap.size w w1) := Lib.hid (((Below.refl _ _).alloc (Nat.le_refl _) _).trans (hb1.mono (by simp)))
  have HL1 := Lib.hid hL
  clear hb1 hL
  go_wp2_with (at_make; refine wpList_make_full _ rfl _ _ 31 rfl w1.heap.size 3 j0 _ 1 Tryd.underlying31 jif jz0 jz1 _ _ _ _ n rfl rfl rfl rfl (by rw [jz2]; omega) (by simp only [maxLen]; omega) (Nat.le_refl _) ?_; intro w2 hown2 hgrow2)
  have hi2 := ints_zero hown2
  have hs2 : w1.heap.size < w2.heap.size := blk_lt hi2
  have hb2 : Below w1.heap.size w1 w2 := (Below.refl _ _).grown hgrow2 (Nat.le_refl _) (fun k hk => by cases hk)
  have HI2 : Hid (IntsIn w2 w1.heap.size (lnUp es n 0)) := Lib.hid hi2
  have HB2 : Hid (Below w.heap.size w w2) := Lib.hid (HB1.out.trans (hb2.mono (by omega)))
  have HL2 := Lib.hid ((hb2.block _ (by omega)).trans HL1.out)
  clear hown2 hgrow2 hi2 hb2 l0 HL1
  go_wp2_with fail
  go_loopw [7] (fun i wr => ∃ j : Nat, j ≤ len ∧ i = .int .i64 j ∧ Hid (IntsIn wr w1.heap.size (lnUp es n j)) ∧ Hid (Kept w2 wr (fun b => b = w1.heap.size))) (fun i _ => len - (RowKit.intOf i).toNat)
  case atStart => exact ⟨0, Nat.zero_le _, rfl, HI2, Lib.hid (Kept.refl _ _)⟩
  case round =>
    obtain ⟨j, hj, rfl, HIj, HKj⟩ := hrel
    by_cases hlt : j < len
    · obtain ⟨e, hx⟩ : ∃ e, es[j]? = some e := ⟨_, List.getElem?_eq_getElem (by rw [Hel.out]; exact hlt)⟩
      have Hsu := Lib.hid (lnUp_succ (n := n) hx)
      obtain ⟨hll, hlo⟩ := lnUp_ok es n j (by rw [Hel.out]; omega)
      have Hlo := Lib.hid hlo
      have hhl := hRun_len (es.take (j + 1)) n
      have Hhl := Lib.hid hhl
      have Hll := Lib.hid hll
      clear hx hlo hhl hll
      obtain ⟨v, hv⟩ : ∃ v, v = wr := ⟨_, rfl⟩
      go_wp2_with fail
      go_loopw [8] (fun i wr => ∃ m : Nat, m ≤ n ∧ i = .int .i64 ((m : Int) + 1) ∧ Hid (IntsIn wr w1.heap.size (partH m (lnUp es n j) (hRun (es.take (j + 1)) n))) ∧ Hid (Kept w2 wr (fun b => b = w1.heap.size))) (fun i _ => n + 1 - (RowKit.intOf i).toNat)
      case atStart => exact ⟨0, by omega, rfl, by rw [partH_0]; exact HIj, HKj⟩
      case round =>
        clear hv HIj HKj
        obtain ⟨m, hm, rfl, HIm, HKm⟩ := hrel
        have HBm : Hid (Below w.heap.size w wr) := Lib.hid ((Kept.of_below HB2.out).trans HKm.out |>.below (Nat.le_refl _) (fun k hk => by omega))
        have l0 : wr.cell? ⟨w.heap.size, 0, none⟩ = some (.int .i64 n) := blk_cell (HKm.out.blk HL2.out (blk_lt HL2.out) (by omega)) 0
        by_cases hmn : m < n
        · have hat := hRun_at (es.take (j + 1)) n m hmn
          have hrow : EsAt wr wr.heap.size A (j + 1) (es.take (j + 1)) := ((Hlb.out _ HBm.out).take_ (by omega)).more (HBm.out.size)
          have Hrow := Lib.hid hrow
          obtain ⟨x, hxo⟩ : ∃ x, (lnUp es n j)[m]? = some x := ⟨_, List.getElem?_eq_getElem (by rw [Hll.out]; exact hmn)⟩
          obtain ⟨hx1, hx2⟩ := Hlo.out x (List.mem_of_getElem? hxo)
          have hpg := partH_get (h := hRun (es.take (j + 1)) n) (by rw [Hll.out, Hhl.out]) hxo
          have hc := blk_cell HIm.out m
          rw [List.getElem?_toArray, List.getElem?_map, hpg] at hc
          simp only [Option.map_some] at hc
          have Hc := Lib.hid hc
          have Hf := Lib.hid (blk_frozen HIm.out m)
          have Hxo := Lib.hid hxo
          have Hat := Lib.hid hat
          have hjc : j + 1 ≤ cap := by omega
          have hjc2 : (j : Int) + 1 ≤ (cap : Int) := by omega
          have hm1 : (m : Int) + 1 ≤ (n : Int) := by omega
          clear hrow hpg hc hxo hat
          go_wp2_with fail
          refine (holds_any A (j + 1) cap (es.take (j + 1)) ((m : Int) + 1) wr Hrow.out (by omega)).mono ?_
          rintro e9 w9 ⟨rfl, rfl⟩
          cases hh : hbRun ((m : Int) + 1) (es.take (j + 1))
          · have Hh2 : Hid ((hRun (es.take (j + 1)) n)[m]? = some false) := Lib.hid (by rw [Hat.out, hh])
            clear hh
            go_wp2_with fail
            exact ⟨⟨m + 1, by omega, by go_num, by rw [partH_same (by rw [Hll.out, Hhl.out]) Hxo.out Hh2.out]; exact HIm, HKm⟩, by simp [RowKit.intOf]; omega⟩
          · have Hh2 : Hid ((hRun (es.take (j + 1)) n)[m]? = some true) := Lib.hid (by rw [Hat.out, hh])
            have c0 := Hc.out
            have f0 := Hf.out
            have hi1 : (0 : Int) ≤ (m : Int) := by omega
            have hi2 : (m : Int) < (n : Int) := by omega
            clear hh
            go_wp2_with fail
            refine ⟨⟨m + 1, by omega, by go_num, Lib.hid ?_, Lib.hid (HKm.out.setCell (p := ⟨w1.heap.size, m, none⟩) (Or.inl rfl) _)⟩, by simp [RowKit.intOf]; omega⟩
            rw [partH_next (by rw [Hll.out, Hhl.out]) Hxo.out Hh2.out]
            have := blk_set HIm.out m (.int .i64 (x + 1))
            simpa [IntsIn, List.map_set] using this
        · obtain rfl : m = n := by omega
          go_wp2_with fail
          refine ⟨⟨j + 1, by omega, by go_num, Lib.hid ?_, HKm⟩, by simp [RowKit.intOf]; omega⟩
          rw [Hsu.out]
          have := HIm.out
          have e9 := partH_all (o := lnUp es m j) (h := hRun (es.take (j + 1)) m) (by rw [Hll.out, Hhl.out])
          rw [Hll.out] at e9
          rwa [e9] at this
    · obtain rfl : j = len := by omega
      have hend : lnUp es n j = (laneRun es (lane0 n)).1 := by unfold lnUp; rw [List.take_of_length_le (by rw [Hel.out]; exact Nat.le_refl _)]
      go_wp2_with fail
      go_ret2
      refine ⟨w1.heap.size, by omega, Nat.lt_of_lt_of_le hs2 HKj.out.size, rfl, by rw [← hend]; exact HIj.out, ?_⟩
      exact (Kept.of_below HB2.out).trans HKj.out |>.below (Nat.le_refl _) (fun k hk => by omega)
end Go.Proofs.YtgkhgbeiploefaaDoor

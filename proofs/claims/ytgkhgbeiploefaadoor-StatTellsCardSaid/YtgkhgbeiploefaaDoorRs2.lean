/- towpathref26: Of. -/
import Derived.Test.YtgkhgbeiploefaaDoorRs1
namespace Go.Proofs.YtgkhgbeiploefaaDoor
open Go.RowKit
set_option linter.unusedVariables false
set_option linter.unusedSimpArgs false

set_option maxRecDepth 100000
theorem evRun_held (l : List Ev) (p : Sts × List Bool) : (evRun l p).2 = l.foldl holdB p.2 := by
  unfold evRun
  induction l generalizing p with
  | nil => rfl
  | cons e r ih => rw [List.foldl_cons, List.foldl_cons, ih]; rfl
/-- What is told behind so many events. -/
def stUp (es : List Ev) (n j : Nat) : Sts := (evRun (es.take j) (sts0 es.length, List.replicate n false)).1
theorem stUp_succ {es : List Ev} {n j : Nat} {e : Ev} (h : es[j]? = some e) : stUp es n (j + 1) = { kindN (stUp es n j) e with busy := max (kindN (stUp es n j) e).busy (busyN (hRun (es.take (j + 1)) n)) } := by
  unfold stUp
  rw [evRun_snoc h, hRun_snoc h]
  unfold evStep
  rw [evRun_held]
  rfl
theorem stUp_bd (es : List Ev) (n j : Nat) (hj : j ≤ es.length) : 0 ≤ (stUp es n j).installs ∧ (stUp es n j).installs ≤ es.length ∧ 0 ≤ (stUp es n j).reads ∧ (stUp es n j).reads ≤ es.length ∧ 0 ≤ (stUp es n j).lag ∧ (stUp es n j).lag ≤ 65536 ∧ 0 ≤ (stUp es n j).busy ∧ (stUp es n j).busy ≤ n := by
  have h1 := evRun_ok (n := n) (p := (sts0 es.length, List.replicate n false)) ⟨Int.le_refl _, Int.le_refl _, Int.le_refl _, Int.le_refl _, Int.le_refl _, by show (0 : Int) ≤ _; omega, Int.le_refl _, by show (0 : Int) ≤ _; omega, by simp⟩ (es.take j)
  obtain ⟨a, b, c, d, e, f, g, h, -⟩ := h1
  have hl : (es.take j).length ≤ es.length := by rw [List.length_take]; omega
  unfold stUp
  refine ⟨a, by omega, c, by omega, e, f, g, h⟩
set_option maxHeartbeats 2000000 in
theorem refof_no (c : Cfg) (hok : c.ok = false) (A : Option Addr) (len cap : Nat) (w : World) :
    Calls Tryd.prog 7 #[c.v, .slice A len cap] w fun e w' => e = .returned (.tuple #[(Sts.v ⟨0, 0, 0, 0, 0⟩), .int .i64 7]) ∧ Below w.heap.size w w' := by
  have Hok := Lib.hid hok
  obtain ⟨lanes, shards, window, queue⟩ := c
  clear hok
  unfold Cfg.v
  go_enter Tryd.func7, Tryd.ntmps7
  go_wp2_with fail
  refine (refcfg_any ⟨lanes, shards, window, queue⟩ _).mono ?_
  rintro e w1 ⟨rfl, hb1⟩
  rw [Hok.out, show errCfg false = 7 from rfl]
  have hblk : StsAt w1 (w.heap.size + 1) ⟨0, 0, 0, 0, 0⟩ := (hb1.block _ (by simp)).trans (blk_new2 _ _ _)
  have hB1 := below_two (hb1.mono (by simp))
  have Hblk := Lib.hid hblk
  have HB1 := Lib.hid hB1
  have e0 := blk_cell hblk 0
  have e1 := blk_cell hblk 1
  have e2 := blk_cell hblk 2
  have e3 := blk_cell hblk 3
  have e4 := blk_cell hblk 4
  have g0 := blk_frozen hblk 0
  have g1 := blk_frozen hblk 1
  have g2 := blk_frozen hblk 2
  have g3 := blk_frozen hblk 3
  have g4 := blk_frozen hblk 4
  simp only [List.getElem?_toArray, List.getElem?_cons_zero, List.getElem?_cons_succ] at e0 e1 e2 e3 e4
  clear hb1 hblk hB1
  go_wp2_with fail
  have hs : ∀ (i : Nat) (X : World) (cs : Array Value), X.heap[w.heap.size + 1]? = some (.cells cs 27 (0, 0)) → (X.setCell ⟨w.heap.size + 1, i, none⟩ (.int .i64 0)).heap[w.heap.size + 1]? = some (.cells (cs.setIfInBounds i (.int .i64 0)) 27 (0, 0)) := fun i X cs h => blk_set h i _
  have h5 := hs 4 _ _ (hs 3 _ _ (hs 2 _ _ (hs 1 _ _ (hs 0 _ _ Hblk.out))))
  have d0 := blk_cell h5 0
  have d1 := blk_cell h5 1
  have d2 := blk_cell h5 2
  have d3 := blk_cell h5 3
  have d4 := blk_cell h5 4
  simp at d0 d1 d2 d3 d4
  refine bodyPost_ret (v := .tuple #[Sts.v ⟨0, 0, 0, 0, 0⟩, .int .i64 7]) (by simp [results, Tryd.results7, go_sem, d0, d1, d2, d3, d4, Sts.v]) rfl ⟨rfl, ?_⟩
  exact (((((HB1.out.setCell (by simp) _).setCell (by simp) _).setCell (by simp) _).setCell (by simp) _).setCell (by simp) _)
set_option maxHeartbeats 8000000 in
theorem refof_any (c : Cfg) (n : Nat) (hok : c.ok = true) (hn : c.lanes = n) (hn16 : n ≤ 16) (A : Option Addr) (len cap : Nat) (es : List Ev) (w : World) (he : EsAt w w.heap.size A len es) (hlc : len ≤ cap) (hlen : len ≤ 4398046511104) :
    Calls Tryd.prog 7 #[c.v, .slice A len cap] w fun e w' => e = .returned (.tuple #[(stOf es n).v, .int .i64 0]) ∧ Below w.heap.size w w' := by
  obtain ⟨lanes, shards, window, queue⟩ := c
  simp only at hn
  subst hn
  have Hok := Lib.hid hok
  clear hok
  have hel := he.len
  have Hel := Lib.hid hel
  have hlb : ∀ w', Below w.heap.size w w' → EsAt w' w.heap.size A len es := fun w' h => he.below h
  have Hlb := Lib.hid hlb
  clear hlb he hel
  unfold Cfg.v
  go_enter Tryd.func7, Tryd.ntmps7
  go_wp2_with fail
  refine (refcfg_any ⟨(n : Int), shards, window, queue⟩ _).mono ?_
  rintro e w1 ⟨rfl, hb1⟩
  rw [Hok.out, show errCfg true = 0 from rfl]
  have hz1 : w.heap.size + 2 ≤ w1.heap.size := by have := hb1.size; simpa using this
  have hblk : StsAt w1 (w.heap.size + 1) ⟨0, 0, 0, 0, 0⟩ := (hb1.block _ (by simp)).trans (blk_new2 _ _ _)
  have hL : w1.heap[w.heap.size]? = some (.cells #[.int .i64 n, .int .i64 shards, .int .i64 window, .int .i64 queue] 23 (0, 0)) := (hb1.block _ (by simp; omega)).trans ((Below.heap_alloc _ _ _ (by simp)).trans (blk_new _ _))
  have hB1 := below_two (hb1.mono (by simp))
  have Hblk := Lib.hid hblk
  have HB1 := Lib.hid hB1
  have HL0 := Lib.hid hL
  clear hb1 hblk hB1 hL
  go_wp2_with fail
  obtain ⟨w1b, hw1b⟩ : ∃ w1b, w1b = w1.alloc (.cells #[.int .i64 len, .int .i64 0, .int .i64 0, .int .i64 0, .int .i64 0] 27) := ⟨_, rfl⟩
  rw [← hw1b]
  have hS0 : StsAt w1b w1.heap.size (stUp es n 0) := by
    rw [hw1b]
    have : stUp es n 0 = sts0 len := by unfold stUp; rw [List.take_zero]; show sts0 _ = _; rw [Hel.out]
    rw [this]; exact blk_new _ _
  have HB1b : Hid (Below w1.heap.size w1 w1b ∧ Below w.heap.size w w1b) := Lib.hid (by
    have h : Below w1.heap.size w1 w1b := hw1b ▸ bel_alloc (Below.refl _ _) _
    exact ⟨h, HB1.out.trans (h.mono (by omega))⟩)
  have HL1 := Lib.hid ((HB1b.out.1.block _ (blk_lt HL0.out)).trans HL0.out)
  have HR1 := Lib.hid ((HB1b.out.1.block _ (blk_lt Hblk.out)).trans Hblk.out)
  have HS0 := Lib.hid hS0
  clear hw1b hS0 HL0 Hblk
  go_loopw [7] (fun i wr => ∃ j : Nat, j ≤ len ∧ i = .int .i64 j ∧ Hid (StsAt wr w1.heap.size (stUp es n j)) ∧ Hid (Kept w1b wr (fun b => b = w1.heap.size))) (fun i _ => len - (RowKit.intOf i).toNat)
  case atStart => exact ⟨0, Nat.zero_le _, rfl, HS0, Lib.hid (Kept.refl _ _)⟩
  case round =>
    obtain ⟨j, hj, rfl, HSj, HKj⟩ := hrel
    by_cases hlt : j < len
    · have HBj : Hid (Below w.heap.size w wr) := Lib.hid ((Kept.of_below HB1b.out.2).trans HKj.out |>.below (Nat.le_refl _) (fun k hk => by omega))
      obtain ⟨b, off, e, rfl, hbl, hx, x0, x1, x2, x3, x4, x5⟩ := (Hlb.out _ HBj.out).cell6 hlt
      obtain ⟨q1, q2, q3, q4, q5, q6, q7, q8⟩ := stUp_bd es n j (by rw [Hel.out]; omega)
      rw [Hel.out] at q2 q4
      have HX := Lib.hid hx
      have HKn0 : Hid (∀ p : Sts, stUp es n j = p → kindN (stUp es n j) e = kindN p e) := Lib.hid (fun p h => by rw [h])
      obtain ⟨p, hp⟩ : ∃ p, stUp es n j = p := ⟨_, rfl⟩
      have HKn1 := Lib.hid (HKn0.out p hp)
      rw [hp] at q1 q2 q3 q4 q5 q6 q7 q8 HSj
      clear hx HKn0 hp
      obtain ⟨s1, s2, s3, s4, s5⟩ := p
      obtain ⟨task, kind, num, sh, ct, mk⟩ := e
      simp only at x0 x1 x2 x3 x4 x5 q1 q2 q3 q4 q5 q6 q7 q8
      go_upto_region 8 with fail
      obtain ⟨wo, hwo⟩ : ∃ wo, wo = wr.alloc (.cells #[.int .i64 task, .int .u8 kind, .int .i64 num, .int .i64 sh, .int .i64 ct, .int .i64 mk] 54) := ⟨_, rfl⟩
      rw [← hwo]
      have hbo : Below wr.heap.size wr wo := hwo ▸ bel_alloc (Below.refl _ _) _
      have hee : wo.heap[wr.heap.size]? = some (.cells #[.int .i64 task, .int .u8 kind, .int .i64 num, .int .i64 sh, .int .i64 ct, .int .i64 mk] 54 (0, 0)) := hwo ▸ blk_new _ _
      have HKo : Hid (Kept w1b wo (fun b => b = w1.heap.size)) := Lib.hid (HKj.out.trans (Kept.of_below hbo))
      have hso : StsAt wo w1.heap.size ⟨s1, s2, s3, s4, s5⟩ := (hbo.block _ (blk_lt HSj.out)).trans HSj.out
      have HSo := Lib.hid hso
      have z1 : wo.cell? ⟨wr.heap.size, 1, none⟩ = some (.int .u8 kind) := blk_cell hee 1
      have z2 : wo.cell? ⟨wr.heap.size, 2, none⟩ = some (.int .i64 num) := blk_cell hee 2
      have z5 : wo.cell? ⟨wr.heap.size, 5, none⟩ = some (.int .i64 mk) := blk_cell hee 5
      have t1 : wo.cell? ⟨w1.heap.size, 1, none⟩ = some (.int .i64 s2) := blk_cell hso 1
      have t2 : wo.cell? ⟨w1.heap.size, 2, none⟩ = some (.int .i64 s3) := blk_cell hso 2
      have t4 : wo.cell? ⟨w1.heap.size, 4, none⟩ = some (.int .i64 s5) := blk_cell hso 4
      have tf1 := blk_frozen hso 1
      have tf2 := blk_frozen hso 2
      have tf4 := blk_frozen hso 4
      clear x0 x1 x2 x3 x4 x5 hwo hbo hee hso
      obtain ⟨mb, hmb⟩ : ∃ mb, mb = mayB num mk := ⟨_, rfl⟩
      have Hmb := Lib.hid hmb
      clear hmb
      go_cut [9] (fun s wx => s = .bool mb ∧ wx = wo)
      case first => as_aux_lemma =>
        go_wp2_with fail
        all_goals go_meet
        all_goals (case rel => exact ⟨by have := Hmb.out; simp only [mayB] at this; grind, rfl⟩)
      case rest =>
        obtain ⟨rfl, rfl⟩ := hcut
        by_cases h7 : kind = 7 ∧ 0 < num
        · obtain ⟨rfl, hn0⟩ := h7
          have HKn : Hid (kindN (stUp es n j) ⟨task, 7, num, sh, ct, mk⟩ = ⟨s1, s2 + 1, s3, s4, s5⟩) := Lib.hid (by rw [HKn1.out]; simp [kindN, does1, hn0])
          clear HKn1
          go_upto_region 15 with fail
          obtain ⟨wx, hwx⟩ : ∃ wx, wx = wc.setCell ⟨w1.heap.size, 1, none⟩ (.int .i64 (s2 + 1)) := ⟨_, rfl⟩
          rw [← hwx]
          have HS : Hid (StsAt wx w1.heap.size ⟨s1, s2 + 1, s3, s4, s5⟩) := Lib.hid (by rw [hwx]; simpa [StsAt] using blk_set HSo.out 1 (.int .i64 (s2 + 1)))
          have HK : Hid (Kept w1b wx (fun b => b = w1.heap.size)) := Lib.hid (by rw [hwx]; exact HKo.out.setCell (p := ⟨w1.heap.size, 1, none⟩) (Or.inl rfl) _)
          clear hwx z1 z2 z5 t1 t2 t4 tf1 tf2 tf4 hn0
          generalize (⟨s1, s2 + 1, s3, s4, s5⟩ : Sts) = SS at HS HKn
          have HBx : Hid (Below w.heap.size w wx) := Lib.hid ((Kept.of_below HB1b.out.2).trans HK.out |>.below (Nat.le_refl _) (fun k hk => by omega))
          have HL : Hid (wx.heap[w.heap.size]? = some (.cells #[.int .i64 n, .int .i64 shards, .int .i64 window, .int .i64 queue] 23 (0, 0))) := Lib.hid (HK.out.blk HL1.out (blk_lt HL1.out) (by omega))
          as_aux_lemma =>
          go_wp2_with fail
          go_loopw [10, 11] (fun s i wr => ∃ m : Nat, m ≤ n ∧ i = .int .i64 ((m : Int) + 1) ∧ s = .int .i64 (cntH (hRun (es.take (j + 1)) n) m) ∧ Hid (Below wx.heap.size wx wr)) (fun _ i _ => (n + 1 - (RowKit.intOf i).toNat))
          case atStart => exact ⟨0, Nat.zero_le _, rfl, by simp [cntH], Lib.hid (Below.refl _ _)⟩
          case round =>
            obtain ⟨m, hm, rfl, rfl, HBm⟩ := hrel
            have hcb := cntH_bd (hRun (es.take (j + 1)) n) m
            have hsx : wx.heap.size ≤ wr.heap.size := HBm.out.size
            have l0 : wr.cell? ⟨w.heap.size, 0, none⟩ = some (.int .i64 n) := (blk_cell ((HBm.out.block _ (blk_lt HL.out)).trans HL.out) 0)
            have hrow : EsAt wr wr.heap.size (some ⟨b, off, none⟩) (j + 1) (es.take (j + 1)) := ((Hlb.out _ (HBx.out.trans (HBm.out.mono HBx.out.size))).take_ (by omega)).more (by have := HBx.out.size; omega)
            have Hrow := Lib.hid hrow
            have hjc : j + 1 ≤ cap := by omega
            have hjc2 : (j : Int) + 1 ≤ (cap : Int) := by omega
            clear hrow
            by_cases hmn : m < n
            · have hat := hRun_at (es.take (j + 1)) n m hmn
              have hsu := cntH_succ hat
              have Hsu := Lib.hid hsu
              clear hat hsu
              have hm1 : (m : Int) + 1 ≤ (n : Int) := by omega
              go_wp2_with fail
              refine (holds_any (some ⟨b, off, none⟩) (j + 1) cap (es.take (j + 1)) ((m : Int) + 1) wr Hrow.out (by omega)).mono ?_
              rintro e w9 ⟨rfl, rfl⟩
              clear l0
              cases hh : hbRun ((m : Int) + 1) (es.take (j + 1))
              · have hc2 : Hid (cntH (hRun (es.take (j + 1)) n) (m + 1) = cntH (hRun (es.take (j + 1)) n) m) := Lib.hid (by rw [Hsu.out, hh]; simp)
                clear hh
                go_wp2_with fail
                exact ⟨⟨m + 1, by omega, by go_num, by rw [hc2.out], HBm⟩, by simp [RowKit.intOf]; omega⟩
              · have hc2 : Hid (cntH (hRun (es.take (j + 1)) n) (m + 1) = cntH (hRun (es.take (j + 1)) n) m + 1) := Lib.hid (by rw [Hsu.out, hh]; simp)
                clear hh
                go_wp2_with fail
                exact ⟨⟨m + 1, by omega, by go_num, by rw [hc2.out], HBm⟩, by simp [RowKit.intOf]; omega⟩
            · obtain rfl : m = n := by omega
              have hcn : cntH (hRun (es.take (j + 1)) m) m = busyN (hRun (es.take (j + 1)) m) := by
                have := cntH_all (hRun (es.take (j + 1)) m)
                rwa [hRun_len] at this
              rw [hcn] at hcb ⊢
              have Hst := Lib.hid (stUp_succ (n := m) HX.out)
              rw [HKn.out] at Hst
              have hsr : StsAt wr (w1.heap.size) SS := (HBm.out.block _ (blk_lt HS.out)).trans HS.out
              have t3 : wr.cell? ⟨w1.heap.size, 3, none⟩ = some (.int .i64 SS.busy) := blk_cell hsr 3
              have tf := blk_frozen hsr 3
              have Hsr := Lib.hid hsr
              have HKx : Hid (Kept w1b wr (fun b => b = w1.heap.size)) := Lib.hid (HK.out.trans (Kept.of_below HBm.out))
              generalize busyN (hRun (es.take (j + 1)) m) = bz at hcb Hst ⊢
              clear hcn hsr
              by_cases hbz : SS.busy < bz
              · go_wp2_with fail
                refine ⟨⟨j + 1, by omega, by go_num, Lib.hid ?_, Lib.hid (HKx.out.setCell (p := ⟨w1.heap.size, 3, none⟩) (Or.inl rfl) _)⟩, by simp [RowKit.intOf]; omega⟩
                have := blk_set Hsr.out 3 (.int .i64 bz)
                rw [Hst.out]
                show _ = _
                simp only [Int.max_eq_right (Int.le_of_lt hbz)]
                simpa using this
              · have hbz2 : bz ≤ SS.busy := by omega
                go_wp2_with fail
                refine ⟨⟨j + 1, by omega, by go_num, Lib.hid ?_, HKx⟩, by simp [RowKit.intOf]; omega⟩
                rw [Hst.out]
                show _ = _
                simp only [Int.max_eq_left hbz2]
                exact Hsr.out
        · by_cases h7b : kind = 7
          · subst h7b
            have hn0 : ¬ 0 < num := fun h => h7 ⟨rfl, h⟩
            clear h7
            have HKn : Hid (kindN (stUp es n j) ⟨task, 7, num, sh, ct, mk⟩ = ⟨s1, s2, s3, s4, s5⟩) := Lib.hid (by rw [HKn1.out]; simp [kindN, does1, hn0])
            clear HKn1
            go_upto_region 15 with fail
            obtain ⟨wx, hwx⟩ : ∃ wx, wx = wc := ⟨_, rfl⟩
            rw [← hwx]
            have HS := HSo
            have HK := HKo
            rw [← hwx] at HS HK
            clear hwx z1 z2 z5 t1 t2 t4 tf1 tf2 tf4
            generalize (⟨s1, s2, s3, s4, s5⟩ : Sts) = SS at HS HKn
            have HBx : Hid (Below w.heap.size w wx) := Lib.hid ((Kept.of_below HB1b.out.2).trans HK.out |>.below (Nat.le_refl _) (fun k hk => by omega))
            have HL : Hid (wx.heap[w.heap.size]? = some (.cells #[.int .i64 n, .int .i64 shards, .int .i64 window, .int .i64 queue] 23 (0, 0))) := Lib.hid (HK.out.blk HL1.out (blk_lt HL1.out) (by omega))
            as_aux_lemma =>
            go_wp2_with fail
            go_loopw [10, 11] (fun s i wr => ∃ m : Nat, m ≤ n ∧ i = .int .i64 ((m : Int) + 1) ∧ s = .int .i64 (cntH (hRun (es.take (j + 1)) n) m) ∧ Hid (Below wx.heap.size wx wr)) (fun _ i _ => (n + 1 - (RowKit.intOf i).toNat))
            case atStart => exact ⟨0, Nat.zero_le _, rfl, by simp [cntH], Lib.hid (Below.refl _ _)⟩
            case round =>
              obtain ⟨m, hm, rfl, rfl, HBm⟩ := hrel
              have hcb := cntH_bd (hRun (es.take (j + 1)) n) m
              have hsx : wx.heap.size ≤ wr.heap.size := HBm.out.size
              have l0 : wr.cell? ⟨w.heap.size, 0, none⟩ = some (.int .i64 n) := (blk_cell ((HBm.out.block _ (blk_lt HL.out)).trans HL.out) 0)
              have hrow : EsAt wr wr.heap.size (some ⟨b, off, none⟩) (j + 1) (es.take (j + 1)) := ((Hlb.out _ (HBx.out.trans (HBm.out.mono HBx.out.size))).take_ (by omega)).more (by have := HBx.out.size; omega)
              have Hrow := Lib.hid hrow
              have hjc : j + 1 ≤ cap := by omega
              have hjc2 : (j : Int) + 1 ≤ (cap : Int) := by omega
              clear hrow
              by_cases hmn : m < n
              · have hat := hRun_at (es.take (j + 1)) n m hmn
                have hsu := cntH_succ hat
                have Hsu := Lib.hid hsu
                clear hat hsu
                have hm1 : (m : Int) + 1 ≤ (n : Int) := by omega
                go_wp2_with fail
                refine (holds_any (some ⟨b, off, none⟩) (j + 1) cap (es.take (j + 1)) ((m : Int) + 1) wr Hrow.out (by omega)).mono ?_
                rintro e w9 ⟨rfl, rfl⟩
                clear l0
                cases hh : hbRun ((m : Int) + 1) (es.take (j + 1))
                · have hc2 : Hid (cntH (hRun (es.take (j + 1)) n) (m + 1) = cntH (hRun (es.take (j + 1)) n) m) := Lib.hid (by rw [Hsu.out, hh]; simp)
                  clear hh
                  go_wp2_with fail
                  exact ⟨⟨m + 1, by omega, by go_num, by rw [hc2.out], HBm⟩, by simp [RowKit.intOf]; omega⟩
                · have hc2 : Hid (cntH (hRun (es.take (j + 1)) n) (m + 1) = cntH (hRun (es.take (j + 1)) n) m + 1) := Lib.hid (by rw [Hsu.out, hh]; simp)
                  clear hh
                  go_wp2_with fail
                  exact ⟨⟨m + 1, by omega, by go_num, by rw [hc2.out], HBm⟩, by simp [RowKit.intOf]; omega⟩
              · obtain rfl : m = n := by omega
                have hcn : cntH (hRun (es.take (j + 1)) m) m = busyN (hRun (es.take (j + 1)) m) := by
                  have := cntH_all (hRun (es.take (j + 1)) m)
                  rwa [hRun_len] at this
                rw [hcn] at hcb ⊢
                have Hst := Lib.hid (stUp_succ (n := m) HX.out)
                rw [HKn.out] at Hst
                have hsr : StsAt wr (w1.heap.size) SS := (HBm.out.block _ (blk_lt HS.out)).trans HS.out
                have t3 : wr.cell? ⟨w1.heap.size, 3, none⟩ = some (.int .i64 SS.busy) := blk_cell hsr 3
                have tf := blk_frozen hsr 3
                have Hsr := Lib.hid hsr
                have HKx : Hid (Kept w1b wr (fun b => b = w1.heap.size)) := Lib.hid (HK.out.trans (Kept.of_below HBm.out))
                generalize busyN (hRun (es.take (j + 1)) m) = bz at hcb Hst ⊢
                clear hcn hsr
                by_cases hbz : SS.busy < bz
                · go_wp2_with fail
                  refine ⟨⟨j + 1, by omega, by go_num, Lib.hid ?_, Lib.hid (HKx.out.setCell (p := ⟨w1.heap.size, 3, none⟩) (Or.inl rfl) _)⟩, by simp [RowKit.intOf]; omega⟩
                  have := blk_set Hsr.out 3 (.int .i64 bz)
                  rw [Hst.out]
                  show _ = _
                  simp only [Int.max_eq_right (Int.le_of_lt hbz)]
                  simpa using this
                · have hbz2 : bz ≤ SS.busy := by omega
                  go_wp2_with fail
                  refine ⟨⟨j + 1, by omega, by go_num, Lib.hid ?_, HKx⟩, by simp [RowKit.intOf]; omega⟩
                  rw [Hst.out]
                  show _ = _
                  simp only [Int.max_eq_left hbz2]
                  exact Hsr.out
          · clear h7
            by_cases h3 : kind = 3
            · subst h3
              clear h7b
              cases mb
              · skip
                have Hm2 : Hid (mayB num mk = false) := Lib.hid Hmb.out.symm
                have HKn : Hid (kindN (stUp es n j) ⟨task, 3, num, sh, ct, mk⟩ = ⟨s1, s2, s3, s4, s5⟩) := Lib.hid (by rw [HKn1.out]; simp [kindN, does2, Hm2.out])
                clear HKn1
                go_upto_region 15 with fail
                obtain ⟨wx, hwx⟩ : ∃ wx, wx = wc := ⟨_, rfl⟩
                rw [← hwx]
                have HS := HSo
                have HK := HKo
                rw [← hwx] at HS HK
                clear hwx z1 z2 z5 t1 t2 t4 tf1 tf2 tf4
                generalize (⟨s1, s2, s3, s4, s5⟩ : Sts) = SS at HS HKn
                have HBx : Hid (Below w.heap.size w wx) := Lib.hid ((Kept.of_below HB1b.out.2).trans HK.out |>.below (Nat.le_refl _) (fun k hk => by omega))
                have HL : Hid (wx.heap[w.heap.size]? = some (.cells #[.int .i64 n, .int .i64 shards, .int .i64 window, .int .i64 queue] 23 (0, 0))) := Lib.hid (HK.out.blk HL1.out (blk_lt HL1.out) (by omega))
                as_aux_lemma =>
                go_wp2_with fail
                go_loopw [10, 11] (fun s i wr => ∃ m : Nat, m ≤ n ∧ i = .int .i64 ((m : Int) + 1) ∧ s = .int .i64 (cntH (hRun (es.take (j + 1)) n) m) ∧ Hid (Below wx.heap.size wx wr)) (fun _ i _ => (n + 1 - (RowKit.intOf i).toNat))
                case atStart => exact ⟨0, Nat.zero_le _, rfl, by simp [cntH], Lib.hid (Below.refl _ _)⟩
                case round =>
                  obtain ⟨m, hm, rfl, rfl, HBm⟩ := hrel
                  have hcb := cntH_bd (hRun (es.take (j + 1)) n) m
                  have hsx : wx.heap.size ≤ wr.heap.size := HBm.out.size
                  have l0 : wr.cell? ⟨w.heap.size, 0, none⟩ = some (.int .i64 n) := (blk_cell ((HBm.out.block _ (blk_lt HL.out)).trans HL.out) 0)
                  have hrow : EsAt wr wr.heap.size (some ⟨b, off, none⟩) (j + 1) (es.take (j + 1)) := ((Hlb.out _ (HBx.out.trans (HBm.out.mono HBx.out.size))).take_ (by omega)).more (by have := HBx.out.size; omega)
                  have Hrow := Lib.hid hrow
                  have hjc : j + 1 ≤ cap := by omega
                  have hjc2 : (j : Int) + 1 ≤ (cap : Int) := by omega
                  clear hrow
                  by_cases hmn : m < n
                  · have hat := hRun_at (es.take (j + 1)) n m hmn
                    have hsu := cntH_succ hat
                    have Hsu := Lib.hid hsu
                    clear hat hsu
                    have hm1 : (m : Int) + 1 ≤ (n : Int) := by omega
                    go_wp2_with fail
                    refine (holds_any (some ⟨b, off, none⟩) (j + 1) cap (es.take (j + 1)) ((m : Int) + 1) wr Hrow.out (by omega)).mono ?_
                    rintro e w9 ⟨rfl, rfl⟩
                    clear l0
                    cases hh : hbRun ((m : Int) + 1) (es.take (j + 1))
                    · have hc2 : Hid (cntH (hRun (es.take (j + 1)) n) (m + 1) = cntH (hRun (es.take (j + 1)) n) m) := Lib.hid (by rw [Hsu.out, hh]; simp)
                      clear hh
                      go_wp2_with fail
                      exact ⟨⟨m + 1, by omega, by go_num, by rw [hc2.out], HBm⟩, by simp [RowKit.intOf]; omega⟩
                    · have hc2 : Hid (cntH (hRun (es.take (j + 1)) n) (m + 1) = cntH (hRun (es.take (j + 1)) n) m + 1) := Lib.hid (by rw [Hsu.out, hh]; simp)
                      clear hh
                      go_wp2_with fail
                      exact ⟨⟨m + 1, by omega, by go_num, by rw [hc2.out], HBm⟩, by simp [RowKit.intOf]; omega⟩
                  · obtain rfl : m = n := by omega
                    have hcn : cntH (hRun (es.take (j + 1)) m) m = busyN (hRun (es.take (j + 1)) m) := by
                      have := cntH_all (hRun (es.take (j + 1)) m)
                      rwa [hRun_len] at this
                    rw [hcn] at hcb ⊢
                    have Hst := Lib.hid (stUp_succ (n := m) HX.out)
                    rw [HKn.out] at Hst
                    have hsr : StsAt wr (w1.heap.size) SS := (HBm.out.block _ (blk_lt HS.out)).trans HS.out
                    have t3 : wr.cell? ⟨w1.heap.size, 3, none⟩ = some (.int .i64 SS.busy) := blk_cell hsr 3
                    have tf := blk_frozen hsr 3
                    have Hsr := Lib.hid hsr
                    have HKx : Hid (Kept w1b wr (fun b => b = w1.heap.size)) := Lib.hid (HK.out.trans (Kept.of_below HBm.out))
                    generalize busyN (hRun (es.take (j + 1)) m) = bz at hcb Hst ⊢
                    clear hcn hsr
                    by_cases hbz : SS.busy < bz
                    · go_wp2_with fail
                      refine ⟨⟨j + 1, by omega, by go_num, Lib.hid ?_, Lib.hid (HKx.out.setCell (p := ⟨w1.heap.size, 3, none⟩) (Or.inl rfl) _)⟩, by simp [RowKit.intOf]; omega⟩
                      have := blk_set Hsr.out 3 (.int .i64 bz)
                      rw [Hst.out]
                      show _ = _
                      simp only [Int.max_eq_right (Int.le_of_lt hbz)]
                      simpa using this
                    · have hbz2 : bz ≤ SS.busy := by omega
                      go_wp2_with fail
                      refine ⟨⟨j + 1, by omega, by go_num, Lib.hid ?_, HKx⟩, by simp [RowKit.intOf]; omega⟩
                      rw [Hst.out]
                      show _ = _
                      simp only [Int.max_eq_left hbz2]
                      exact Hsr.out
              · skip
                have Hm2 : Hid (mayB num mk = true) := Lib.hid Hmb.out.symm
                obtain ⟨b1, b2, b3, b4⟩ := mayB_bd Hm2.out
                by_cases hlg : s3 < num - mk
                · skip
                  have HKn : Hid (kindN (stUp es n j) ⟨task, 3, num, sh, ct, mk⟩ = ⟨s1, s2, num - mk, s4, s5⟩) := Lib.hid (by rw [HKn1.out]; simp [kindN, does2, Hm2.out, Int.max_eq_right (Int.le_of_lt hlg)])
                  clear HKn1
                  go_upto_region 15 with fail
                  obtain ⟨wx, hwx⟩ : ∃ wx, wx = wc.setCell ⟨w1.heap.size, 2, none⟩ (.int .i64 (num - mk)) := ⟨_, rfl⟩
                  rw [← hwx]
                  have HS : Hid (StsAt wx w1.heap.size ⟨s1, s2, num - mk, s4, s5⟩) := Lib.hid (by rw [hwx]; simpa [StsAt] using blk_set HSo.out 2 (.int .i64 (num - mk)))
                  have HK : Hid (Kept w1b wx (fun b => b = w1.heap.size)) := Lib.hid (by rw [hwx]; exact HKo.out.setCell (p := ⟨w1.heap.size, 2, none⟩) (Or.inl rfl) _)
                  clear hwx z1 z2 z5 t1 t2 t4 tf1 tf2 tf4
                  generalize (⟨s1, s2, num - mk, s4, s5⟩ : Sts) = SS at HS HKn
                  have HBx : Hid (Below w.heap.size w wx) := Lib.hid ((Kept.of_below HB1b.out.2).trans HK.out |>.below (Nat.le_refl _) (fun k hk => by omega))
                  have HL : Hid (wx.heap[w.heap.size]? = some (.cells #[.int .i64 n, .int .i64 shards, .int .i64 window, .int .i64 queue] 23 (0, 0))) := Lib.hid (HK.out.blk HL1.out (blk_lt HL1.out) (by omega))
                  as_aux_lemma =>
                  go_wp2_with fail
                  go_loopw [10, 11] (fun s i wr => ∃ m : Nat, m ≤ n ∧ i = .int .i64 ((m : Int) + 1) ∧ s = .int .i64 (cntH (hRun (es.take (j + 1)) n) m) ∧ Hid (Below wx.heap.size wx wr)) (fun _ i _ => (n + 1 - (RowKit.intOf i).toNat))
                  case atStart => exact ⟨0, Nat.zero_le _, rfl, by simp [cntH], Lib.hid (Below.refl _ _)⟩
                  case round =>
                    obtain ⟨m, hm, rfl, rfl, HBm⟩ := hrel
                    have hcb := cntH_bd (hRun (es.take (j + 1)) n) m
                    have hsx : wx.heap.size ≤ wr.heap.size := HBm.out.size
                    have l0 : wr.cell? ⟨w.heap.size, 0, none⟩ = some (.int .i64 n) := (blk_cell ((HBm.out.block _ (blk_lt HL.out)).trans HL.out) 0)
                    have hrow : EsAt wr wr.heap.size (some ⟨b, off, none⟩) (j + 1) (es.take (j + 1)) := ((Hlb.out _ (HBx.out.trans (HBm.out.mono HBx.out.size))).take_ (by omega)).more (by have := HBx.out.size; omega)
                    have Hrow := Lib.hid hrow
                    have hjc : j + 1 ≤ cap := by omega
                    have hjc2 : (j : Int) + 1 ≤ (cap : Int) := by omega
                    clear hrow
                    by_cases hmn : m < n
                    · have hat := hRun_at (es.take (j + 1)) n m hmn
                      have hsu := cntH_succ hat
                      have Hsu := Lib.hid hsu
                      clear hat hsu
                      have hm1 : (m : Int) + 1 ≤ (n : Int) := by omega
                      go_wp2_with fail
                      refine (holds_any (some ⟨b, off, none⟩) (j + 1) cap (es.take (j + 1)) ((m : Int) + 1) wr Hrow.out (by omega)).mono ?_
                      rintro e w9 ⟨rfl, rfl⟩
                      clear l0
                      cases hh : hbRun ((m : Int) + 1) (es.take (j + 1))
                      · have hc2 : Hid (cntH (hRun (es.take (j + 1)) n) (m + 1) = cntH (hRun (es.take (j + 1)) n) m) := Lib.hid (by rw [Hsu.out, hh]; simp)
                        clear hh
                        go_wp2_with fail
                        exact ⟨⟨m + 1, by omega, by go_num, by rw [hc2.out], HBm⟩, by simp [RowKit.intOf]; omega⟩
                      · have hc2 : Hid (cntH (hRun (es.take (j + 1)) n) (m + 1) = cntH (hRun (es.take (j + 1)) n) m + 1) := Lib.hid (by rw [Hsu.out, hh]; simp)
                        clear hh
                        go_wp2_with fail
                        exact ⟨⟨m + 1, by omega, by go_num, by rw [hc2.out], HBm⟩, by simp [RowKit.intOf]; omega⟩
                    · obtain rfl : m = n := by omega
                      have hcn : cntH (hRun (es.take (j + 1)) m) m = busyN (hRun (es.take (j + 1)) m) := by
                        have := cntH_all (hRun (es.take (j + 1)) m)
                        rwa [hRun_len] at this
                      rw [hcn] at hcb ⊢
                      have Hst := Lib.hid (stUp_succ (n := m) HX.out)
                      rw [HKn.out] at Hst
                      have hsr : StsAt wr (w1.heap.size) SS := (HBm.out.block _ (blk_lt HS.out)).trans HS.out
                      have t3 : wr.cell? ⟨w1.heap.size, 3, none⟩ = some (.int .i64 SS.busy) := blk_cell hsr 3
                      have tf := blk_frozen hsr 3
                      have Hsr := Lib.hid hsr
                      have HKx : Hid (Kept w1b wr (fun b => b = w1.heap.size)) := Lib.hid (HK.out.trans (Kept.of_below HBm.out))
                      generalize busyN (hRun (es.take (j + 1)) m) = bz at hcb Hst ⊢
                      clear hcn hsr
                      by_cases hbz : SS.busy < bz
                      · go_wp2_with fail
                        refine ⟨⟨j + 1, by omega, by go_num, Lib.hid ?_, Lib.hid (HKx.out.setCell (p := ⟨w1.heap.size, 3, none⟩) (Or.inl rfl) _)⟩, by simp [RowKit.intOf]; omega⟩
                        have := blk_set Hsr.out 3 (.int .i64 bz)
                        rw [Hst.out]
                        show _ = _
                        simp only [Int.max_eq_right (Int.le_of_lt hbz)]
                        simpa using this
                      · have hbz2 : bz ≤ SS.busy := by omega
                        go_wp2_with fail
                        refine ⟨⟨j + 1, by omega, by go_num, Lib.hid ?_, HKx⟩, by simp [RowKit.intOf]; omega⟩
                        rw [Hst.out]
                        show _ = _
                        simp only [Int.max_eq_left hbz2]
                        exact Hsr.out
                · skip
                  have hlg2 : num - mk ≤ s3 := by omega
                  have HKn : Hid (kindN (stUp es n j) ⟨task, 3, num, sh, ct, mk⟩ = ⟨s1, s2, s3, s4, s5⟩) := Lib.hid (by rw [HKn1.out]; simp [kindN, does2, Hm2.out, Int.max_eq_left hlg2])
                  clear HKn1
                  go_upto_region 15 with fail
                  obtain ⟨wx, hwx⟩ : ∃ wx, wx = wc := ⟨_, rfl⟩
                  rw [← hwx]
                  have HS := HSo
                  have HK := HKo
                  rw [← hwx] at HS HK
                  clear hwx z1 z2 z5 t1 t2 t4 tf1 tf2 tf4
                  generalize (⟨s1, s2, s3, s4, s5⟩ : Sts) = SS at HS HKn
                  have HBx : Hid (Below w.heap.size w wx) := Lib.hid ((Kept.of_below HB1b.out.2).trans HK.out |>.below (Nat.le_refl _) (fun k hk => by omega))
                  have HL : Hid (wx.heap[w.heap.size]? = some (.cells #[.int .i64 n, .int .i64 shards, .int .i64 window, .int .i64 queue] 23 (0, 0))) := Lib.hid (HK.out.blk HL1.out (blk_lt HL1.out) (by omega))
                  as_aux_lemma =>
                  go_wp2_with fail
                  go_loopw [10, 11] (fun s i wr => ∃ m : Nat, m ≤ n ∧ i = .int .i64 ((m : Int) + 1) ∧ s = .int .i64 (cntH (hRun (es.take (j + 1)) n) m) ∧ Hid (Below wx.heap.size wx wr)) (fun _ i _ => (n + 1 - (RowKit.intOf i).toNat))
                  case atStart => exact ⟨0, Nat.zero_le _, rfl, by simp [cntH], Lib.hid (Below.refl _ _)⟩
                  case round =>
                    obtain ⟨m, hm, rfl, rfl, HBm⟩ := hrel
                    have hcb := cntH_bd (hRun (es.take (j + 1)) n) m
                    have hsx : wx.heap.size ≤ wr.heap.size := HBm.out.size
                    have l0 : wr.cell? ⟨w.heap.size, 0, none⟩ = some (.int .i64 n) := (blk_cell ((HBm.out.block _ (blk_lt HL.out)).trans HL.out) 0)
                    have hrow : EsAt wr wr.heap.size (some ⟨b, off, none⟩) (j + 1) (es.take (j + 1)) := ((Hlb.out _ (HBx.out.trans (HBm.out.mono HBx.out.size))).take_ (by omega)).more (by have := HBx.out.size; omega)
                    have Hrow := Lib.hid hrow
                    have hjc : j + 1 ≤ cap := by omega
                    have hjc2 : (j : Int) + 1 ≤ (cap : Int) := by omega
                    clear hrow
                    by_cases hmn : m < n
                    · have hat := hRun_at (es.take (j + 1)) n m hmn
                      have hsu := cntH_succ hat
                      have Hsu := Lib.hid hsu
                      clear hat hsu
                      have hm1 : (m : Int) + 1 ≤ (n : Int) := by omega
                      go_wp2_with fail
                      refine (holds_any (some ⟨b, off, none⟩) (j + 1) cap (es.take (j + 1)) ((m : Int) + 1) wr Hrow.out (by omega)).mono ?_
                      rintro e w9 ⟨rfl, rfl⟩
                      clear l0
                      cases hh : hbRun ((m : Int) + 1) (es.take (j + 1))
                      · have hc2 : Hid (cntH (hRun (es.take (j + 1)) n) (m + 1) = cntH (hRun (es.take (j + 1)) n) m) := Lib.hid (by rw [Hsu.out, hh]; simp)
                        clear hh
                        go_wp2_with fail
                        exact ⟨⟨m + 1, by omega, by go_num, by rw [hc2.out], HBm⟩, by simp [RowKit.intOf]; omega⟩
                      · have hc2 : Hid (cntH (hRun (es.take (j + 1)) n) (m + 1) = cntH (hRun (es.take (j + 1)) n) m + 1) := Lib.hid (by rw [Hsu.out, hh]; simp)
                        clear hh
                        go_wp2_with fail
                        exact ⟨⟨m + 1, by omega, by go_num, by rw [hc2.out], HBm⟩, by simp [RowKit.intOf]; omega⟩
                    · obtain rfl : m = n := by omega
                      have hcn : cntH (hRun (es.take (j + 1)) m) m = busyN (hRun (es.take (j + 1)) m) := by
                        have := cntH_all (hRun (es.take (j + 1)) m)
                        rwa [hRun_len] at this
                      rw [hcn] at hcb ⊢
                      have Hst := Lib.hid (stUp_succ (n := m) HX.out)
                      rw [HKn.out] at Hst
                      have hsr : StsAt wr (w1.heap.size) SS := (HBm.out.block _ (blk_lt HS.out)).trans HS.out
                      have t3 : wr.cell? ⟨w1.heap.size, 3, none⟩ = some (.int .i64 SS.busy) := blk_cell hsr 3
                      have tf := blk_frozen hsr 3
                      have Hsr := Lib.hid hsr
                      have HKx : Hid (Kept w1b wr (fun b => b = w1.heap.size)) := Lib.hid (HK.out.trans (Kept.of_below HBm.out))
                      generalize busyN (hRun (es.take (j + 1)) m) = bz at hcb Hst ⊢
                      clear hcn hsr
                      by_cases hbz : SS.busy < bz
                      · go_wp2_with fail
                        refine ⟨⟨j + 1, by omega, by go_num, Lib.hid ?_, Lib.hid (HKx.out.setCell (p := ⟨w1.heap.size, 3, none⟩) (Or.inl rfl) _)⟩, by simp [RowKit.intOf]; omega⟩
                        have := blk_set Hsr.out 3 (.int .i64 bz)
                        rw [Hst.out]
                        show _ = _
                        simp only [Int.max_eq_right (Int.le_of_lt hbz)]
                        simpa using this
                      · have hbz2 : bz ≤ SS.busy := by omega
                        go_wp2_with fail
                        refine ⟨⟨j + 1, by omega, by go_num, Lib.hid ?_, HKx⟩, by simp [RowKit.intOf]; omega⟩
                        rw [Hst.out]
                        show _ = _
                        simp only [Int.max_eq_left hbz2]
                        exact Hsr.out
            · have hb7 : (kind == 7) = false := by simpa using h7b
              have hb3 : (kind == 3) = false := by simpa using h3
              by_cases h12 : kind = 12
              · subst h12
                have HKn : Hid (kindN (stUp es n j) ⟨task, 12, num, sh, ct, mk⟩ = ⟨s1, s2, s3, s4, s5 + 1⟩) := Lib.hid (by rw [HKn1.out]; simp [kindN, does3])
                clear HKn1
                clear h7b h3
                go_upto_region 15 with fail
                obtain ⟨wx, hwx⟩ : ∃ wx, wx = wc.setCell ⟨w1.heap.size, 4, none⟩ (.int .i64 (s5 + 1)) := ⟨_, rfl⟩
                rw [← hwx]
                have HS : Hid (StsAt wx w1.heap.size ⟨s1, s2, s3, s4, s5 + 1⟩) := Lib.hid (by rw [hwx]; simpa [StsAt] using blk_set HSo.out 4 (.int .i64 (s5 + 1)))
                have HK : Hid (Kept w1b wx (fun b => b = w1.heap.size)) := Lib.hid (by rw [hwx]; exact HKo.out.setCell (p := ⟨w1.heap.size, 4, none⟩) (Or.inl rfl) _)
                clear hwx z1 z2 z5 t1 t2 t4 tf1 tf2 tf4
                generalize (⟨s1, s2, s3, s4, s5 + 1⟩ : Sts) = SS at HS HKn
                have HBx : Hid (Below w.heap.size w wx) := Lib.hid ((Kept.of_below HB1b.out.2).trans HK.out |>.below (Nat.le_refl _) (fun k hk => by omega))
                have HL : Hid (wx.heap[w.heap.size]? = some (.cells #[.int .i64 n, .int .i64 shards, .int .i64 window, .int .i64 queue] 23 (0, 0))) := Lib.hid (HK.out.blk HL1.out (blk_lt HL1.out) (by omega))
                as_aux_lemma =>
                go_wp2_with fail
                go_loopw [10, 11] (fun s i wr => ∃ m : Nat, m ≤ n ∧ i = .int .i64 ((m : Int) + 1) ∧ s = .int .i64 (cntH (hRun (es.take (j + 1)) n) m) ∧ Hid (Below wx.heap.size wx wr)) (fun _ i _ => (n + 1 - (RowKit.intOf i).toNat))
                case atStart => exact ⟨0, Nat.zero_le _, rfl, by simp [cntH], Lib.hid (Below.refl _ _)⟩
                case round =>
                  obtain ⟨m, hm, rfl, rfl, HBm⟩ := hrel
                  have hcb := cntH_bd (hRun (es.take (j + 1)) n) m
                  have hsx : wx.heap.size ≤ wr.heap.size := HBm.out.size
                  have l0 : wr.cell? ⟨w.heap.size, 0, none⟩ = some (.int .i64 n) := (blk_cell ((HBm.out.block _ (blk_lt HL.out)).trans HL.out) 0)
                  have hrow : EsAt wr wr.heap.size (some ⟨b, off, none⟩) (j + 1) (es.take (j + 1)) := ((Hlb.out _ (HBx.out.trans (HBm.out.mono HBx.out.size))).take_ (by omega)).more (by have := HBx.out.size; omega)
                  have Hrow := Lib.hid hrow
                  have hjc : j + 1 ≤ cap := by omega
                  have hjc2 : (j : Int) + 1 ≤ (cap : Int) := by omega
                  clear hrow
                  by_cases hmn : m < n
                  · have hat := hRun_at (es.take (j + 1)) n m hmn
                    have hsu := cntH_succ hat
                    have Hsu := Lib.hid hsu
                    clear hat hsu
                    have hm1 : (m : Int) + 1 ≤ (n : Int) := by omega
                    go_wp2_with fail
                    refine (holds_any (some ⟨b, off, none⟩) (j + 1) cap (es.take (j + 1)) ((m : Int) + 1) wr Hrow.out (by omega)).mono ?_
                    rintro e w9 ⟨rfl, rfl⟩
                    clear l0
                    cases hh : hbRun ((m : Int) + 1) (es.take (j + 1))
                    · have hc2 : Hid (cntH (hRun (es.take (j + 1)) n) (m + 1) = cntH (hRun (es.take (j + 1)) n) m) := Lib.hid (by rw [Hsu.out, hh]; simp)
                      clear hh
                      go_wp2_with fail
                      exact ⟨⟨m + 1, by omega, by go_num, by rw [hc2.out], HBm⟩, by simp [RowKit.intOf]; omega⟩
                    · have hc2 : Hid (cntH (hRun (es.take (j + 1)) n) (m + 1) = cntH (hRun (es.take (j + 1)) n) m + 1) := Lib.hid (by rw [Hsu.out, hh]; simp)
                      clear hh
                      go_wp2_with fail
                      exact ⟨⟨m + 1, by omega, by go_num, by rw [hc2.out], HBm⟩, by simp [RowKit.intOf]; omega⟩
                  · obtain rfl : m = n := by omega
                    have hcn : cntH (hRun (es.take (j + 1)) m) m = busyN (hRun (es.take (j + 1)) m) := by
                      have := cntH_all (hRun (es.take (j + 1)) m)
                      rwa [hRun_len] at this
                    rw [hcn] at hcb ⊢
                    have Hst := Lib.hid (stUp_succ (n := m) HX.out)
                    rw [HKn.out] at Hst
                    have hsr : StsAt wr (w1.heap.size) SS := (HBm.out.block _ (blk_lt HS.out)).trans HS.out
                    have t3 : wr.cell? ⟨w1.heap.size, 3, none⟩ = some (.int .i64 SS.busy) := blk_cell hsr 3
                    have tf := blk_frozen hsr 3
                    have Hsr := Lib.hid hsr
                    have HKx : Hid (Kept w1b wr (fun b => b = w1.heap.size)) := Lib.hid (HK.out.trans (Kept.of_below HBm.out))
                    generalize busyN (hRun (es.take (j + 1)) m) = bz at hcb Hst ⊢
                    clear hcn hsr
                    by_cases hbz : SS.busy < bz
                    · go_wp2_with fail
                      refine ⟨⟨j + 1, by omega, by go_num, Lib.hid ?_, Lib.hid (HKx.out.setCell (p := ⟨w1.heap.size, 3, none⟩) (Or.inl rfl) _)⟩, by simp [RowKit.intOf]; omega⟩
                      have := blk_set Hsr.out 3 (.int .i64 bz)
                      rw [Hst.out]
                      show _ = _
                      simp only [Int.max_eq_right (Int.le_of_lt hbz)]
                      simpa using this
                    · have hbz2 : bz ≤ SS.busy := by omega
                      go_wp2_with fail
                      refine ⟨⟨j + 1, by omega, by go_num, Lib.hid ?_, HKx⟩, by simp [RowKit.intOf]; omega⟩
                      rw [Hst.out]
                      show _ = _
                      simp only [Int.max_eq_left hbz2]
                      exact Hsr.out
              · have hb12 : (kind == 12) = false := by simpa using h12
                have HKn : Hid (kindN (stUp es n j) ⟨task, kind, num, sh, ct, mk⟩ = ⟨s1, s2, s3, s4, s5⟩) := Lib.hid (by rw [HKn1.out]; simp [kindN, h7b, h3, h12])
                clear HKn1
                clear h7b h3 h12
                go_upto_region 15 with fail
                obtain ⟨wx, hwx⟩ : ∃ wx, wx = wc := ⟨_, rfl⟩
                rw [← hwx]
                have HS := HSo
                have HK := HKo
                rw [← hwx] at HS HK
                clear hwx z1 z2 z5 t1 t2 t4 tf1 tf2 tf4
                generalize (⟨s1, s2, s3, s4, s5⟩ : Sts) = SS at HS HKn
                have HBx : Hid (Below w.heap.size w wx) := Lib.hid ((Kept.of_below HB1b.out.2).trans HK.out |>.below (Nat.le_refl _) (fun k hk => by omega))
                have HL : Hid (wx.heap[w.heap.size]? = some (.cells #[.int .i64 n, .int .i64 shards, .int .i64 window, .int .i64 queue] 23 (0, 0))) := Lib.hid (HK.out.blk HL1.out (blk_lt HL1.out) (by omega))
                as_aux_lemma =>
                go_wp2_with fail
                go_loopw [10, 11] (fun s i wr => ∃ m : Nat, m ≤ n ∧ i = .int .i64 ((m : Int) + 1) ∧ s = .int .i64 (cntH (hRun (es.take (j + 1)) n) m) ∧ Hid (Below wx.heap.size wx wr)) (fun _ i _ => (n + 1 - (RowKit.intOf i).toNat))
                case atStart => exact ⟨0, Nat.zero_le _, rfl, by simp [cntH], Lib.hid (Below.refl _ _)⟩
                case round =>
                  obtain ⟨m, hm, rfl, rfl, HBm⟩ := hrel
                  have hcb := cntH_bd (hRun (es.take (j + 1)) n) m
                  have hsx : wx.heap.size ≤ wr.heap.size := HBm.out.size
                  have l0 : wr.cell? ⟨w.heap.size, 0, none⟩ = some (.int .i64 n) := (blk_cell ((HBm.out.block _ (blk_lt HL.out)).trans HL.out) 0)
                  have hrow : EsAt wr wr.heap.size (some ⟨b, off, none⟩) (j + 1) (es.take (j + 1)) := ((Hlb.out _ (HBx.out.trans (HBm.out.mono HBx.out.size))).take_ (by omega)).more (by have := HBx.out.size; omega)
                  have Hrow := Lib.hid hrow
                  have hjc : j + 1 ≤ cap := by omega
                  have hjc2 : (j : Int) + 1 ≤ (cap : Int) := by omega
                  clear hrow
                  by_cases hmn : m < n
                  · have hat := hRun_at (es.take (j + 1)) n m hmn
                    have hsu := cntH_succ hat
                    have Hsu := Lib.hid hsu
                    clear hat hsu
                    have hm1 : (m : Int) + 1 ≤ (n : Int) := by omega
                    go_wp2_with fail
                    refine (holds_any (some ⟨b, off, none⟩) (j + 1) cap (es.take (j + 1)) ((m : Int) + 1) wr Hrow.out (by omega)).mono ?_
                    rintro e w9 ⟨rfl, rfl⟩
                    clear l0
                    cases hh : hbRun ((m : Int) + 1) (es.take (j + 1))
                    · have hc2 : Hid (cntH (hRun (es.take (j + 1)) n) (m + 1) = cntH (hRun (es.take (j + 1)) n) m) := Lib.hid (by rw [Hsu.out, hh]; simp)
                      clear hh
                      go_wp2_with fail
                      exact ⟨⟨m + 1, by omega, by go_num, by rw [hc2.out], HBm⟩, by simp [RowKit.intOf]; omega⟩
                    · have hc2 : Hid (cntH (hRun (es.take (j + 1)) n) (m + 1) = cntH (hRun (es.take (j + 1)) n) m + 1) := Lib.hid (by rw [Hsu.out, hh]; simp)
                      clear hh
                      go_wp2_with fail
                      exact ⟨⟨m + 1, by omega, by go_num, by rw [hc2.out], HBm⟩, by simp [RowKit.intOf]; omega⟩
                  · obtain rfl : m = n := by omega
                    have hcn : cntH (hRun (es.take (j + 1)) m) m = busyN (hRun (es.take (j + 1)) m) := by
                      have := cntH_all (hRun (es.take (j + 1)) m)
                      rwa [hRun_len] at this
                    rw [hcn] at hcb ⊢
                    have Hst := Lib.hid (stUp_succ (n := m) HX.out)
                    rw [HKn.out] at Hst
                    have hsr : StsAt wr (w1.heap.size) SS := (HBm.out.block _ (blk_lt HS.out)).trans HS.out
                    have t3 : wr.cell? ⟨w1.heap.size, 3, none⟩ = some (.int .i64 SS.busy) := blk_cell hsr 3
                    have tf := blk_frozen hsr 3
                    have Hsr := Lib.hid hsr
                    have HKx : Hid (Kept w1b wr (fun b => b = w1.heap.size)) := Lib.hid (HK.out.trans (Kept.of_below HBm.out))
                    generalize busyN (hRun (es.take (j + 1)) m) = bz at hcb Hst ⊢
                    clear hcn hsr
                    by_cases hbz : SS.busy < bz
                    · go_wp2_with fail
                      refine ⟨⟨j + 1, by omega, by go_num, Lib.hid ?_, Lib.hid (HKx.out.setCell (p := ⟨w1.heap.size, 3, none⟩) (Or.inl rfl) _)⟩, by simp [RowKit.intOf]; omega⟩
                      have := blk_set Hsr.out 3 (.int .i64 bz)
                      rw [Hst.out]
                      show _ = _
                      simp only [Int.max_eq_right (Int.le_of_lt hbz)]
                      simpa using this
                    · have hbz2 : bz ≤ SS.busy := by omega
                      go_wp2_with fail
                      refine ⟨⟨j + 1, by omega, by go_num, Lib.hid ?_, HKx⟩, by simp [RowKit.intOf]; omega⟩
                      rw [Hst.out]
                      show _ = _
                      simp only [Int.max_eq_left hbz2]
                      exact Hsr.out
    · obtain rfl : j = len := by omega
      have hend : stUp es n j = stOf es n := by unfold stUp stOf; rw [List.take_of_length_le (by rw [Hel.out]; exact Nat.le_refl _)]
      rw [hend] at HSj
      have t0 : wr.cell? ⟨w1.heap.size, 0, none⟩ = some (.int .i64 (stOf es n).steps) := blk_cell HSj.out 0
      have t1 : wr.cell? ⟨w1.heap.size, 1, none⟩ = some (.int .i64 (stOf es n).installs) := blk_cell HSj.out 1
      have t2 : wr.cell? ⟨w1.heap.size, 2, none⟩ = some (.int .i64 (stOf es n).lag) := blk_cell HSj.out 2
      have t3 : wr.cell? ⟨w1.heap.size, 3, none⟩ = some (.int .i64 (stOf es n).busy) := blk_cell HSj.out 3
      have t4 : wr.cell? ⟨w1.heap.size, 4, none⟩ = some (.int .i64 (stOf es n).reads) := blk_cell HSj.out 4
      have hrr := HKj.out.blk HR1.out (blk_lt HR1.out) (by omega)
      have Hrr := Lib.hid hrr
      have e0 : wr.cell? ⟨w.heap.size + 1, 0, none⟩ = some (.int .i64 0) := blk_cell hrr 0
      have e1 : wr.cell? ⟨w.heap.size + 1, 1, none⟩ = some (.int .i64 0) := blk_cell hrr 1
      have e2 : wr.cell? ⟨w.heap.size + 1, 2, none⟩ = some (.int .i64 0) := blk_cell hrr 2
      have e3 : wr.cell? ⟨w.heap.size + 1, 3, none⟩ = some (.int .i64 0) := blk_cell hrr 3
      have e4 : wr.cell? ⟨w.heap.size + 1, 4, none⟩ = some (.int .i64 0) := blk_cell hrr 4
      have g0 := blk_frozen hrr 0
      have g1 := blk_frozen hrr 1
      have g2 := blk_frozen hrr 2
      have g3 := blk_frozen hrr 3
      have g4 := blk_frozen hrr 4
      have HBj : Hid (Below w.heap.size w wr) := Lib.hid ((Kept.of_below HB1b.out.2).trans HKj.out |>.below (Nat.le_refl _) (fun k hk => by omega))
      clear hrr hend
      go_wp2_with fail
      clear t0 t1 t2 t3 t4 e0 e1 e2 e3 e4
      have h5 := blk_set (blk_set (blk_set (blk_set (blk_set Hrr.out 0 (.int .i64 (stOf es n).steps)) 1 (.int .i64 (stOf es n).installs)) 2 (.int .i64 (stOf es n).lag)) 3 (.int .i64 (stOf es n).busy)) 4 (.int .i64 (stOf es n).reads)
      have d0 := blk_cell h5 0
      have d1 := blk_cell h5 1
      have d2 := blk_cell h5 2
      have d3 := blk_cell h5 3
      have d4 := blk_cell h5 4
      simp at d0 d1 d2 d3 d4
      refine bodyPost_ret (v := .tuple #[Sts.v (stOf es n), .int .i64 0]) (by simp [results, Tryd.results7, go_sem, d0, d1, d2, d3, d4, Sts.v]) rfl ⟨rfl, ?_⟩
      exact (((((HBj.out.setCell (by simp) _).setCell (by simp) _).setCell (by simp) _).setCell (by simp) _).setCell (by simp) _)
end Go.Proofs.YtgkhgbeiploefaaDoor

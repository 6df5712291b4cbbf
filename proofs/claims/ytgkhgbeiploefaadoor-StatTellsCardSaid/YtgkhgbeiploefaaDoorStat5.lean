/- Lemmas and contracts of functions that a statement of this seat stands on; each holds under the premises typed in its head. -/
import Derived.Test.YtgkhgbeiploefaaDoorStat4
namespace Go.Proofs.YtgkhgbeiploefaaDoor
open Go.RowKit
set_option linter.unusedVariables false
set_option linter.unusedSimpArgs false


def tabC : Array Value := #[.int .u8 7, .func (.func 53) #[] #[], .int .u8 3, .func (.func 54) #[] #[], .int .u8 12, .func (.func 55) #[] #[]]
theorem kindTo_hit0 {s : Sts} {e : Ev} (h : e.kind = 7) : kindTo 1 s e = does1 s e := by simp [kindTo, h]
theorem kindTo_miss0 {s : Sts} {e : Ev} (h : e.kind ≠ 7) : kindTo 1 s e = s := by simp [kindTo, h]
theorem kindTo_hit1 {s : Sts} {e : Ev} (h : e.kind = 3) : kindTo 2 s e = does2 s e ∧ kindTo 1 s e = s := by simp [kindTo, h]
theorem kindTo_miss1 {s : Sts} {e : Ev} (h : e.kind ≠ 3) : kindTo 2 s e = kindTo 1 s e := by simp [kindTo, h]
theorem kindTo_hit2 {s : Sts} {e : Ev} (h : e.kind = 12) : kindTo 3 s e = does3 s e ∧ kindTo 2 s e = s := by simp [kindTo, h]
theorem kindTo_miss2 {s : Sts} {e : Ev} (h : e.kind ≠ 12) : kindTo 3 s e = kindTo 2 s e := by simp [kindTo, h]
set_option maxHeartbeats 2000000 in
theorem of_good (c : Cfg) (n : Nat) (hok : c.ok = true) (hn : c.lanes = n) (hn16 : n ≤ 16) (A : Option Addr) (len cap : Nat) (es : List Ev) (w : World) (he : EsAt w w.heap.size A len es) (hlen : len ≤ 4398046511104) :
    Calls Tryd.prog 5 #[c.v, .slice A len cap] w fun e w' => e = .returned (.tuple #[(evRun es (sts0 len, List.replicate n false)).1.v, .int .i64 0]) ∧ Below w.heap.size w w' := by
  obtain ⟨lanes, shards, window, queue⟩ := c
  simp only at hn
  subst hn
  have Hok := Lib.hid hok
  clear hok
  have hlb : ∀ w', Below w.heap.size w w' → EsAt w' w.heap.size A len es := fun w' h => he.below h
  have Hlb := Lib.hid hlb
  clear hlb
  unfold Cfg.v
  go_enter Tryd.func5, Tryd.ntmps5
  go_wp2_with fail
  refine (cfg_any ⟨(n : Int), shards, window, queue⟩ _).mono ?_
  rintro e w1 ⟨rfl, hb1⟩
  rw [Hok.out, show errCfg true = 0 from rfl]
  have hz1 : w.heap.size + 2 ≤ w1.heap.size := by have := hb1.size; simpa using this
  have hblk : StsAt w1 (w.heap.size + 1) ⟨0, 0, 0, 0, 0⟩ := (hb1.block _ (by simp)).trans (blk_new2 _ _ _)
  have l0 : w1.cell? ⟨w.heap.size, 0, none⟩ = some (.int .i64 n) := (hb1.cell (p := ⟨w.heap.size, 0, none⟩) (by simp; omega)).trans (by simp [go_sem])
  have hB1 := below_two (hb1.mono (by simp))
  have hzl : w.heap.size < w1.heap.size := by omega
  obtain ⟨i0, hif, hz0, hz1', hz2⟩ := info_parts info_bool
  obtain ⟨W2, hW2⟩ : ∃ W2 : World, W2 = w1.alloc (.cells #[.int .i64 len, .int .i64 0, .int .i64 0, .int .i64 0, .int .i64 0] 27) := ⟨_, rfl⟩
  have hS2 : StsAt W2 w1.heap.size (sts0 len) := by rw [hW2]; exact blk_new _ _
  have hB2 : Below w1.heap.size w1 W2 := by rw [hW2]; exact (Below.refl _ _).alloc (Nat.le_refl _) _
  have hz3 : W2.heap.size = w1.heap.size + 1 := by rw [hW2]; simp
  have HW2 := Lib.hid hW2
  have Hblk := Lib.hid hblk
  have HS2 := Lib.hid hS2
  have HB1 := Lib.hid hB1
  have HB2 := Lib.hid hB2
  clear hb1 hblk hW2 hB1 hB2 hS2
  go_wp2_with (at_make; rw [← HW2.out]; refine wpList_make_full _ rfl _ _ 56 rfl W2.heap.size 4 i0 _ 1 Tryd.underlying56 hif hz0 hz1' _ _ _ _ n rfl rfl rfl rfl (by rw [hz2]; omega) (by simp only [maxLen]; omega) (Nat.le_refl _) ?_; intro w3 hown3 hgrow3)
  have hh3 := held_zero hown3
  have hs3 : W2.heap.size < w3.heap.size := blk_lt hh3
  have hb3 : Below W2.heap.size W2 w3 := (Below.refl _ _).grown hgrow3 (Nat.le_refl _) (fun k hk => by cases hk)
  obtain ⟨W4, hW4⟩ : ∃ W4 : World, W4 = w3.alloc (.cells tabC 61) := ⟨_, rfl⟩
  have hT4 : W4.heap[w3.heap.size]? = some (.cells tabC 61 (0, 0)) := by rw [hW4]; exact blk_new _ _
  have hz4 : W4.heap.size = w3.heap.size + 1 := by rw [hW4]; simp
  have hb4 : Below w3.heap.size w3 W4 := by rw [hW4]; exact (Below.refl _ _).alloc (Nat.le_refl _) _
  have hH4 : HeldAt W4 W2.heap.size (List.replicate n false) := (hb4.block _ hs3).trans hh3
  have hB24 : Below W2.heap.size W2 W4 := hb3.trans (hb4.mono (by omega))
  have hS4 : StsAt W4 w1.heap.size (sts0 len) := (hB24.block _ (by omega)).trans HS2.out
  have hB4 : Below w.heap.size w W4 := HB1.out.trans ((HB2.out.mono (by omega)).trans (hB24.mono (by omega)))
  have hR4 : StsAt W4 (w.heap.size + 1) ⟨0, 0, 0, 0, 0⟩ := (hB24.block _ (by omega)).trans ((HB2.out.block _ (by omega)).trans Hblk.out)
  have Hst := Lib.hid (And.intro hT4 (And.intro hH4 (And.intro hS4 (And.intro hB4 hR4))))
  have HW4 := Lib.hid hW4
  clear hown3 hgrow3 hh3 hb3 hW4 hT4 hb4 hH4 hB24 hS4 hB4 hR4 HS2 HB1 HB2 Hblk
  go_wp2_with (go_at_call 15; refine (rows_any _).mono ?_; rintro e w' ⟨rfl, rfl⟩)
  go_loopw [29] (fun i wr => ∃ k : Nat, k ≤ len ∧ i = .int .i64 k ∧ StsAt wr w1.heap.size (evRun (es.take k) (sts0 len, List.replicate n false)).1 ∧ HeldAt wr W2.heap.size (evRun (es.take k) (sts0 len, List.replicate n false)).2 ∧ Kept W4 wr (fun b => b = w1.heap.size ∨ b = W2.heap.size)) (fun i _ => len - (RowKit.intOf i).toNat)
  case atStart =>
    obtain ⟨hT4, hH4, hS4, hB4, hR4⟩ := Hst.out
    refine ⟨0, Nat.zero_le _, rfl, ?_⟩
    have h4 := HW4.out
    unfold tabC at h4
    rw [← h4]
    exact ⟨hS4, hH4, Kept.refl _ _⟩
  case round =>
    obtain ⟨k, hk, rfl, hs, hh, hkp⟩ := hrel
    obtain ⟨wo, hwo⟩ : ∃ wo : World, wo = wr := ⟨_, rfl⟩
    subst hwo
    obtain ⟨hT4, hH4, hS4, hB4, hR4⟩ := Hst.out
    have hTr := hkp.blk hT4 (by omega) (by rintro (h | h) <;> omega)
    have hRr := hkp.blk hR4 (by omega) (by rintro (h | h) <;> omega)
    have hB : Below w.heap.size w wo := hB4.trans (hkp.below (by omega) (by rintro j (rfl | rfl) <;> omega))
    have hsz := hkp.size
    have her := Hlb.out _ hB
    obtain ⟨p, hp⟩ : ∃ p, p = evRun (es.take k) (sts0 len, List.replicate n false) := ⟨_, rfl⟩
    have hok : StsOk k n p := by
      have h1 := evRun_ok (n := n) (p := (sts0 len, List.replicate n false)) ⟨Int.le_refl _, Int.le_refl _, Int.le_refl _, Int.le_refl _, Int.le_refl _, by show (0 : Int) ≤ _; omega, Int.le_refl _, by show (0 : Int) ≤ _; omega, by simp⟩ (es.take k)
      rw [List.length_take, Nat.min_eq_left (by rw [her.len]; exact hk)] at h1
      rw [hp]; exact h1
    rw [← hp] at hs hh
    have Hp := Lib.hid hp
    have Hs := Lib.hid hs
    have Hh := Lib.hid hh
    have Hok2 := Lib.hid hok
    have Hkp := Lib.hid hkp
    have HTr := Lib.hid hTr
    have HRr := Lib.hid hRr
    have HB := Lib.hid hB
    clear hT4 hH4 hS4 hB4 hR4 hTr hRr hB hp hs hh hok hkp
    by_cases hlt : k < len
    · obtain ⟨b, off, x, rfl, hbl, hx, x0, x1, x2, x3, x4, x5⟩ := her.cell6 hlt
      have Hx := Lib.hid hx
      have hwo : w.heap.size ≤ wo.heap.size := by omega
      obtain ⟨W5, hW5⟩ : ∃ W5 : World, W5 = wo.alloc (.cells #[.int .i64 x.task, .int .u8 x.kind, .int .i64 x.number, .int .i64 x.shard, .int .i64 x.count, .int .i64 x.mark] 54) := ⟨_, rfl⟩
      have h5 : W5.heap[wo.heap.size]? = some (.cells #[.int .i64 x.task, .int .u8 x.kind, .int .i64 x.number, .int .i64 x.shard, .int .i64 x.count, .int .i64 x.mark] 54 (0, 0)) := by rw [hW5]; exact blk_new _ _
      have hb5 : Below wo.heap.size wo W5 := by rw [hW5]; exact (Below.refl _ _).alloc (Nat.le_refl _) _
      have hz5 : W5.heap.size = wo.heap.size + 1 := by rw [hW5]; simp
      have HW5 := Lib.hid hW5
      have H5 := Lib.hid h5
      have Hb5 := Lib.hid hb5
      clear hx her hW5 h5 hb5
      go_wp2_with fail
      go_loopw [35] (fun i wi => ∃ j : Nat, j ≤ 3 ∧ i = .int .i64 j ∧ StsAt wi w1.heap.size (kindTo j p.1 x) ∧ Kept W5 wi (fun b => b = w1.heap.size)) (fun i _ => 3 - (RowKit.intOf i).toNat)
      case atStart =>
        refine ⟨0, by omega, rfl, ?_⟩
        rw [← HW5.out, kindTo_0]
        exact ⟨(Hb5.out.block _ (by omega)).trans Hs.out, Kept.refl _ _⟩
      case round =>
        have hsf := fun (fn : Fn) (a : Addr) (w : World) => run_store Tryd.prog w a (.func fn #[] #[]) .plain rfl
        obtain ⟨j, hj, rfl, hsi, hki⟩ := hrel
        have hei := hki.blk H5.out (by omega) (by show ¬ _ = _; omega)
        have hTi := hki.blk ((Hb5.out.block _ (by omega)).trans HTr.out) (by omega) (by show ¬ _ = _; omega)
        have e0 := blk_cell hei 0
        have e1 := blk_cell hei 1
        have e2 := blk_cell hei 2
        have e3 := blk_cell hei 3
        have e4 := blk_cell hei 4
        have e5 := blk_cell hei 5
        have t0 := blk_cell hTi 0
        have t1 := blk_cell hTi 1
        have t2 := blk_cell hTi 2
        have t3 := blk_cell hTi 3
        have t4 := blk_cell hTi 4
        have t5 := blk_cell hTi 5
        simp only [List.getElem?_toArray, List.getElem?_cons_succ, List.getElem?_cons_zero, tabC] at e0 e1 e2 e3 e4 e5 t0 t1 t2 t3 t4 t5
        have hszi := hki.size
        have hTl := blk_lt hTi
        have hel := blk_lt hei
        have Hsi := Lib.hid hsi
        have Hki := Lib.hid hki
        obtain ⟨o0, o1, o2, o3, o4, o5, o6, o7, o8⟩ := Hok2.out
        clear hsi hki hei hTi
        by_cases hj3 : j < 3
        · have hcase : j = 0 ∨ j = 1 ∨ j = 2 := by omega
          rcases hcase with rfl | rfl | rfl
          · by_cases hkd : x.kind = 7
            · have hkb := beq_iff_eq.2 hkd.symm
              have Hkd := Lib.hid hkd
              clear hkd
              go_wp2_with (go_at_call 53; refine (does1_any w1.heap.size p.1 x _ ((Below.heap_alloc _ _ _ (by omega)).trans (by have := Hsi.out; rwa [kindTo_0] at this)) ⟨by omega, by omega⟩).mono ?_; rintro e w6 ⟨rfl, hs6, hg6⟩)
              exact ⟨⟨1, by omega, by go_num, by rw [kindTo_hit0 Hkd.out]; exact hs6, (Hki.out.alloc _).trans (Kept.of_only hg6 rfl)⟩, by simp [RowKit.intOf]⟩
            · have hkb := beq_eq_false_iff_ne.2 (fun h => hkd (Eq.symm h))
              have Hkd := Lib.hid hkd
              clear hkd
              go_wp2_with fail
              exact ⟨⟨1, by omega, by go_num, by rw [kindTo_miss0 Hkd.out]; exact (Below.heap_alloc _ _ _ (by omega)).trans (by have := Hsi.out; rwa [kindTo_0] at this), Hki.out.alloc _⟩, by simp [RowKit.intOf]⟩
          · by_cases hkd : x.kind = 3
            · have hkb := beq_iff_eq.2 hkd.symm
              have Hkd := Lib.hid hkd
              clear hkd
              go_wp2_with (go_at_call 54; refine (does2_any w1.heap.size p.1 x _ ((Below.heap_alloc _ _ _ (by omega)).trans (by have := Hsi.out; rwa [(kindTo_hit1 Hkd.out).2] at this)) ⟨by omega, by omega⟩).mono ?_; rintro e w6 ⟨rfl, hs6, hg6⟩)
              exact ⟨⟨2, by omega, by go_num, by rw [(kindTo_hit1 Hkd.out).1]; exact hs6, (Hki.out.alloc _).trans (Kept.of_only hg6 rfl)⟩, by simp [RowKit.intOf]⟩
            · have hkb := beq_eq_false_iff_ne.2 (fun h => hkd (Eq.symm h))
              have Hkd := Lib.hid hkd
              clear hkd
              go_wp2_with fail
              exact ⟨⟨2, by omega, by go_num, by rw [kindTo_miss1 Hkd.out]; exact (Below.heap_alloc _ _ _ (by omega)).trans Hsi.out, Hki.out.alloc _⟩, by simp [RowKit.intOf]⟩
          · by_cases hkd : x.kind = 12
            · have hkb := beq_iff_eq.2 hkd.symm
              have Hkd := Lib.hid hkd
              clear hkd
              go_wp2_with (go_at_call 55; refine (does3_any w1.heap.size p.1 x _ ((Below.heap_alloc _ _ _ (by omega)).trans (by have := Hsi.out; rwa [(kindTo_hit2 Hkd.out).2] at this)) ⟨by omega, by omega⟩).mono ?_; rintro e w6 ⟨rfl, hs6, hg6⟩)
              exact ⟨⟨3, by omega, by go_num, by rw [(kindTo_hit2 Hkd.out).1]; exact hs6, (Hki.out.alloc _).trans (Kept.of_only hg6 rfl)⟩, by simp [RowKit.intOf]⟩
            · have hkb := beq_eq_false_iff_ne.2 (fun h => hkd (Eq.symm h))
              have Hkd := Lib.hid hkd
              clear hkd
              go_wp2_with fail
              exact ⟨⟨3, by omega, by go_num, by rw [kindTo_miss2 Hkd.out]; exact (Below.heap_alloc _ _ _ (by omega)).trans Hsi.out, Hki.out.alloc _⟩, by simp [RowKit.intOf]⟩
        · obtain rfl : j = 3 := by omega
          obtain ⟨wi, rfl⟩ : ∃ wi : World, wi = wr := ⟨_, rfl⟩
          have hok3 : StsOk (k + 1) n (kindTo 3 p.1 x, p.2) := by rw [kindTo_3]; exact kindN_ok x Hok2.out
          obtain ⟨q0, q1, q2, q3, q4, q5, q6, q7, q8⟩ := hok3
          simp only at q0 q1 q2 q3 q4 q5 q6 q7 q8
          have hhi : HeldAt wi W2.heap.size p.2 := Hki.out.blk ((Hb5.out.block _ (by omega)).trans Hh.out) (by omega) (by show ¬ _ = _; omega)
          have Hhi := Lib.hid hhi
          clear hhi
          go_wp2_with fail
          rw [← hz3]
          refine (hold_any W2.heap.size n p.2 x _ Hhi.out q8 hn16).mono ?_
          rintro e w6 ⟨rfl, hh6, hg6⟩
          have hs6 : StsAt w6 w1.heap.size (kindTo 3 p.1 x) := (hg6.block _ (by omega) (by intro h; injection h; omega)).trans Hsi.out
          have hz6 := hg6.size
          have hl6 : (holdB p.2 x).length = n := by rw [holdB_len]; exact q8
          have Hh6 := Lib.hid hh6
          have Hs6 := Lib.hid hs6
          have Hg6 := Lib.hid hg6
          clear hh6 hs6 hg6
          go_wp2_with fail
          go_loopw [13, 54] (fun c i wy => ∃ m : Nat, m ≤ n ∧ i = .int .i64 m ∧ c = .int .i64 ((((holdB p.2 x).take m).filter id).length : Nat) ∧ Below w6.heap.size w6 wy) (fun _ i _ => n - (RowKit.intOf i).toNat)
          case atStart => exact ⟨0, by omega, rfl, rfl, Below.refl _ _⟩
          case round =>
            obtain ⟨m, hm, rfl, rfl, hby⟩ := hrel
            have hhy : HeldAt wr W2.heap.size (holdB p.2 x) := (hby.block _ (by omega)).trans Hh6.out
            have hsy : StsAt wr w1.heap.size (kindTo 3 p.1 x) := (hby.block _ (by omega)).trans Hs6.out
            have hsz7 := hby.size
            by_cases hm2 : m < n
            · obtain ⟨v, hv⟩ : ∃ v, (holdB p.2 x)[m]? = some v := ⟨_, List.getElem?_eq_getElem (by omega)⟩
              have hcl := blk_cell hhy m
              rw [List.getElem?_toArray, List.getElem?_map, hv] at hcl
              simp only [Option.map_some] at hcl
              rw [hz3] at hcl
              have hq : ((((holdB p.2 x).take (m + 1)).filter id).length : Int) = ((((holdB p.2 x).take m).filter id).length : Int) + (if v then 1 else 0) := by
                rw [List.take_add_one, hv, List.filter_append, List.length_append]
                cases v <;> simp
              have hqb : (((holdB p.2 x).take m).filter id).length ≤ n := Nat.le_trans (List.length_filter_le _ _) (by rw [List.length_take]; omega)
              have Hby := Lib.hid hby
              have Hq := Lib.hid hq
              clear hby hhy hsy hv hq
              cases v
              · go_wp2_with fail
                exact ⟨⟨m + 1, by omega, by go_num, by rw [Hq.out]; simp, Hby.out⟩, by simp [RowKit.intOf]; omega⟩
              · go_wp2_with fail
                exact ⟨⟨m + 1, by omega, by go_num, by rw [Hq.out]; simp, Hby.out⟩, by simp [RowKit.intOf]; omega⟩
            · obtain rfl : m = n := by omega
              have hbn : ((((holdB p.2 x).take m).filter id).length : Int) = busyN (holdB p.2 x) := by
                unfold busyN; rw [List.take_of_length_le (by omega)]
              rw [hbn]
              obtain ⟨c0, c1, c2, c3, c4⟩ := hsy.cell
              obtain ⟨f0, f1, f2, f3, f4⟩ := hsy.frozen
              have Hby := Lib.hid hby
              have Hsy := Lib.hid hsy
              have Hhy := Lib.hid hhy
              clear hby hsy hbn hhy
              go_wp2_with fail
              have hev : evRun (es.take (k + 1)) (sts0 len, List.replicate m false) = evStep p x := by rw [evRun_snoc Hx.out, ← Hp.out]
              have hmax : (if (kindTo 3 p.1 x).busy < busyN (holdB p.2 x) then busyN (holdB p.2 x) else (kindTo 3 p.1 x).busy) = max (kindTo 3 p.1 x).busy (busyN (holdB p.2 x)) := by
                rw [Int.max_def]; split <;> split <;> omega
              rw [hmax]
              refine ⟨⟨k + 1, by omega, by go_num, ?_, ?_, ?_⟩, by simp [RowKit.intOf]; omega⟩
              · rw [hev]
                have := blk_set Hsy.out 3 (.int .i64 (max (kindTo 3 p.1 x).busy (busyN (holdB p.2 x))))
                rw [kindTo_3] at this ⊢
                unfold StsAt evStep
                simpa using this
              · rw [hev]
                exact (Below.heap_setCell _ _ _ _ (by simp; omega)).trans Hhy.out
              · refine Kept.setCell ?_ (Or.inl (Or.inl rfl)) _
                refine Hkp.out.trans ((Kept.of_below (Hb5.out.mono (by omega))).trans ?_)
                refine (Hki.out.mono (fun _ h => Or.inl h)).trans ?_
                exact (Kept.of_only Hg6.out (Or.inr rfl)).trans (Kept.of_below Hby.out)
    · obtain rfl : k = len := by omega
      have hRr : StsAt wo (w.heap.size + 1) ⟨0, 0, 0, 0, 0⟩ := HRr.out
      have hse : StsAt wo w1.heap.size p.1 := Hs.out
      obtain ⟨f0, f1, f2, f3, f4⟩ := hRr.frozen
      obtain ⟨c0, c1, c2, c3, c4⟩ := hRr.cell
      obtain ⟨e0, e1, e2, e3, e4⟩ := hse.cell
      obtain ⟨d0, d1, d2, d3, d4⟩ := (hRr.set p.1).cell
      have Hd := Lib.hid (And.intro d0 (And.intro d1 (And.intro d2 (And.intro d3 d4))))
      clear d0 d1 d2 d3 d4 hRr hse
      go_wp2_with fail
      obtain ⟨d0, d1, d2, d3, d4⟩ := Hd.out
      refine bodyPost_ret (v := .tuple #[Sts.v p.1, .int .i64 0]) (by simp [results, Tryd.results5, go_sem, d0, d1, d2, d3, d4, Sts.v]) rfl ⟨?_, ?_⟩
      · rw [Hp.out, List.take_of_length_le (by rw [her.len]; omega)]
      · exact (((((HB.out).setCell (by simp) _).setCell (by simp) _).setCell (by simp) _).setCell (by simp) _).setCell (by simp) _
end Go.Proofs.YtgkhgbeiploefaaDoor

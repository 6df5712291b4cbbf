/- Lemmas and contracts of functions that a statement of this seat stands on; each holds under the premises typed in its head. -/
import Derived.Test.YtgkhgbeiploefaaDoorStat5
namespace Go.Proofs.YtgkhgbeiploefaaDoor
open Go.RowKit
set_option linter.unusedVariables false
set_option linter.unusedSimpArgs false

/-- For how many events each lane held one. -/
def addH (o : List Int) (h : List Bool) : List Int := List.zipWith (fun (n : Int) (b : Bool) => if b then n + 1 else n) o h
def laneStep (p : List Int × List Bool) (e : Ev) : List Int × List Bool := (addH p.1 (holdB p.2 e), holdB p.2 e)
def laneRun (l : List Ev) (p : List Int × List Bool) : List Int × List Bool := l.foldl laneStep p
theorem laneRun_snoc {l : List Ev} {k : Nat} {e : Ev} (h : l[k]? = some e) (p : List Int × List Bool) : laneRun (l.take (k + 1)) p = laneStep (laneRun (l.take k) p) e := by
  unfold laneRun
  rw [List.take_add_one, h]
  simp [List.foldl_append]
def lane0 (n : Nat) : List Int × List Bool := (List.replicate n 0, List.replicate n false)
/-- Behind k events. -/
def LaneOk (k n : Nat) (p : List Int × List Bool) : Prop := p.1.length = n ∧ p.2.length = n ∧ ∀ x ∈ p.1, 0 ≤ x ∧ x ≤ (k : Int)
theorem addH_len {o : List Int} {h : List Bool} (e : o.length = h.length) : (addH o h).length = o.length := by simp [addH, e]
theorem laneStep_ok {k n : Nat} {p : List Int × List Bool} (e : Ev) (h : LaneOk k n p) : LaneOk (k + 1) n (laneStep p e) := by
  obtain ⟨a, b, c⟩ := h
  have hl := holdB_len p.2 e
  refine ⟨by simp only [laneStep]; rw [addH_len (by omega)]; exact a, by simp only [laneStep]; omega, ?_⟩
  intro x hx
  simp only [laneStep, addH] at hx
  obtain ⟨i, hi, rfl⟩ := List.mem_iff_getElem.1 hx
  rw [List.getElem_zipWith]
  have := c _ (List.getElem_mem (l := p.1) (n := i) (by simp at hi; omega))
  obtain ⟨t0, t1⟩ := this
  generalize p.1[i]'(by simp at hi; omega) = z at t0 t1 ⊢
  have h1 : (0 : Int) ≤ z + 1 := Int.le_trans t0 (Int.le_add_of_nonneg_right (by decide))
  have h2 : z + 1 ≤ ((k + 1 : Nat) : Int) := by rw [Int.natCast_add]; exact Int.add_le_add_right t1 1
  have h3 : z ≤ ((k + 1 : Nat) : Int) := Int.le_trans t1 (by rw [Int.natCast_add]; exact Int.le_add_of_nonneg_right (by decide))
  split
  · exact ⟨h1, h2⟩
  · exact ⟨t0, h3⟩
theorem laneRun_ok {n : Nat} : ∀ (l : List Ev) (k : Nat) (p : List Int × List Bool), LaneOk k n p → LaneOk (k + l.length) n (laneRun l p) := by
  intro l
  induction l with
  | nil => intro k p hs; exact hs
  | cons e r ih =>
    intro k p hs
    have := ih (k + 1) (laneStep p e) (laneStep_ok e hs)
    rw [List.length_cons, show k + (r.length + 1) = k + 1 + r.length from by omega]
    exact this
theorem lane0_ok (n : Nat) : LaneOk 0 n (lane0 n) := ⟨by simp [lane0], by simp [lane0], fun x hx => by simp only [lane0] at hx; rw [List.eq_of_mem_replicate hx]; exact ⟨Int.le_refl _, Int.le_refl _⟩⟩
def IntsIn (w : World) (g : Nat) (l : List Int) : Prop := w.heap[g]? = some (.cells (l.map (Value.int .i64)).toArray 3 (0, 0))
/-- The row while the first m lanes are added. -/
def partH (m : Nat) (o : List Int) (h : List Bool) : List Int := (addH o h).take m ++ o.drop m
theorem partH_0 (o : List Int) (h : List Bool) : partH 0 o h = o := by simp [partH]
theorem partH_all {o : List Int} {h : List Bool} (e : o.length = h.length) : partH o.length o h = addH o h := by
  unfold partH; rw [List.take_of_length_le (by rw [addH_len e]; omega), List.drop_of_length_le (by omega)]; simp
theorem partH_len {m : Nat} {o : List Int} {h : List Bool} (e : o.length = h.length) (hm : m ≤ o.length) : (partH m o h).length = o.length := by
  unfold partH; rw [List.length_append, List.length_take, List.length_drop, addH_len e]; omega
theorem partH_get {m : Nat} {o : List Int} {h : List Bool} {x : Int} (e : o.length = h.length) (hx : o[m]? = some x) : (partH m o h)[m]? = some x := by
  have hm : m < o.length := (List.getElem?_eq_some_iff.1 hx).1
  have hl : ((addH o h).take m).length = m := by rw [List.length_take, addH_len e]; omega
  unfold partH
  rw [List.getElem?_append_right (by omega), hl, List.getElem?_drop]
  simpa using hx
theorem partH_next {m : Nat} {o : List Int} {h : List Bool} {x : Int} {b : Bool} (e : o.length = h.length) (hx : o[m]? = some x) (hb : h[m]? = some b) :
    partH (m + 1) o h = (partH m o h).set m (if b then x + 1 else x) := by
  have hm : m < o.length := (List.getElem?_eq_some_iff.1 hx).1
  have hl : ((addH o h).take m).length = m := by rw [List.length_take, addH_len e]; omega
  have ha : (addH o h)[m]? = some (if b then x + 1 else x) := by
    unfold addH; rw [List.getElem?_zipWith, hx, hb]
  unfold partH
  rw [List.take_add_one, ha, List.set_append_right _ _ (by omega), hl, Nat.sub_self]
  have hd : o.drop m = x :: o.drop (m + 1) := by
    rw [List.drop_eq_getElem_cons hm]; congr 1
    rw [List.getElem?_eq_getElem hm] at hx; injection hx
  rw [hd]
  simp
theorem partH_same {m : Nat} {o : List Int} {h : List Bool} {x : Int} (e : o.length = h.length) (hx : o[m]? = some x) (hb : h[m]? = some false) : partH (m + 1) o h = partH m o h := by
  rw [partH_next e hx hb]
  have := partH_get (h := h) e hx
  refine List.ext_getElem? fun i => ?_
  rw [List.getElem?_set]
  split
  · rename_i hi; subst hi
    have hm : m < (partH m o h).length := (List.getElem?_eq_some_iff.1 this).1
    rw [if_pos hm, this]; rfl
  · rfl
theorem ints_zero {w : World} {g n : Nat} (h : w.ownsRow g 3 1 (.slice (some ⟨g, 0, none⟩) n n) n (madeCells (Value.int .i64 0).cells (n * 1)).toList) : IntsIn w g (List.replicate n 0) := by
  have := blk_of_own h
  unfold IntsIn
  rw [this, List.map_replicate]
  congr 2
  refine Array.ext (by simp [madeCells]) fun i h1 h2 => by simp [madeCells, Value.cells, Nat.mod_one]
theorem lanes_bad (c : Cfg) (A : Option Addr) (len cap : Nat) (w : World) (hbad : c.ok = false) :
    Calls Tryd.prog 6 #[c.v, .slice A len cap] w fun e w' => e = .returned (.tuple #[.slice none 0 0, .int .i64 7]) ∧ Below w.heap.size w w' := by
  have Hbad := Lib.hid hbad
  clear hbad
  unfold Cfg.v
  go_enter Tryd.func6, Tryd.ntmps6
  go_wp2_with fail
  refine (cfg_any c _).mono ?_
  rintro e w1 ⟨rfl, hb1⟩
  rw [Hbad.out, show errCfg false = 7 from rfl]
  have Hb1 := Lib.hid (((Below.refl _ _).alloc (Nat.le_refl _) _).trans (hb1.mono (by simp)))
  clear hb1
  go_wp2_with fail
  go_ret2
  exact ⟨rfl, Hb1.out⟩

set_option maxHeartbeats 2000000 in
theorem lanes_good (c : Cfg) (n : Nat) (hok : c.ok = true) (hn : c.lanes = n) (hn16 : n ≤ 16) (A : Option Addr) (len cap : Nat) (es : List Ev) (w : World) (he : EsAt w w.heap.size A len es) (hlen : len ≤ 4398046511104) :
    Calls Tryd.prog 6 #[c.v, .slice A len cap] w fun e w' => ∃ g, w.heap.size < g ∧ g < w'.heap.size ∧ e = .returned (.tuple #[.slice (some ⟨g, 0, none⟩) n n, .int .i64 0]) ∧ IntsIn w' g (laneRun es (lane0 n)).1 ∧ Below w.heap.size w w' := by
  obtain ⟨lanes, shards, window, queue⟩ := c
  simp only at hn
  subst hn
  have Hok := Lib.hid hok
  clear hok
  have hlb : ∀ w', Below w.heap.size w w' → EsAt w' w.heap.size A len es := fun w' h => he.below h
  have Hlb := Lib.hid hlb
  clear hlb
  obtain ⟨i0, hif, hz0, hz1', hz2⟩ := info_parts info_bool
  obtain ⟨j0, jif, jz0, jz1, jz2⟩ := info_parts info_int
  unfold Cfg.v
  go_enter Tryd.func6, Tryd.ntmps6
  go_wp2_with fail
  refine (cfg_any ⟨(n : Int), shards, window, queue⟩ _).mono ?_
  rintro e w1 ⟨rfl, hb1⟩
  rw [Hok.out, show errCfg true = 0 from rfl]
  have hz1 : w.heap.size + 1 ≤ w1.heap.size := by have := hb1.size; simpa using this
  have l0 : w1.cell? ⟨w.heap.size, 0, none⟩ = some (.int .i64 n) := (hb1.cell (p := ⟨w.heap.size, 0, none⟩) (by simp)).trans (by simp [go_sem])
  have hB1 : Below w.heap.size w w1 := ((Below.refl _ _).alloc (Nat.le_refl _) _).trans (hb1.mono (by simp))
  have HB1 := Lib.hid hB1
  clear hb1 hB1
  go_wp2_with (at_make; first | (refine wpList_make_full _ rfl _ _ 31 rfl w1.heap.size 3 j0 _ 1 Tryd.underlying31 jif jz0 jz1 _ _ _ _ n rfl rfl rfl rfl (by rw [jz2]; omega) (by simp only [maxLen]; omega) (Nat.le_refl _) ?_; intro w2 hown2 hgrow2; have hi2 := ints_zero hown2; have hs2 : w1.heap.size < w2.heap.size := blk_lt hi2; have hb2 : Below w1.heap.size w1 w2 := (Below.refl _ _).grown hgrow2 (Nat.le_refl _) (fun k hk => by cases hk); have l2 : w2.cell? ⟨w.heap.size, 0, none⟩ = some (.int .i64 n) := (hb2.cell (p := ⟨w.heap.size, 0, none⟩) (by simp; omega)).trans l0; have Hi2 := Lib.hid hi2; have HB2 := Lib.hid (HB1.out.trans (hb2.mono (by omega))); clear hown2 hgrow2 hi2 hb2 l0) | (refine wpList_make_full _ rfl _ _ 56 rfl w2.heap.size 4 i0 _ 1 Tryd.underlying56 hif hz0 hz1' _ _ _ _ n rfl rfl rfl rfl (by rw [hz2]; omega) (by simp only [maxLen]; omega) (Nat.le_refl _) ?_; intro w3 hown3 hgrow3; skip))
  have hh3 := held_zero hown3
  have hs3 : w2.heap.size < w3.heap.size := blk_lt hh3
  have hb3 : Below w2.heap.size w2 w3 := (Below.refl _ _).grown hgrow3 (Nat.le_refl _) (fun k hk => by cases hk)
  have hi3 : IntsIn w3 w1.heap.size (List.replicate n 0) := (hb3.block _ hs2).trans Hi2.out
  have hB3 : Below w.heap.size w w3 := HB2.out.trans (hb3.mono (by omega))
  have Hst := Lib.hid (And.intro hh3 (And.intro hi3 hB3))
  clear hown3 hgrow3 hh3 hb3 hi3 hB3 l2 Hi2 HB1 HB2
  go_wp2_with fail
  go_loopw [23] (fun i wr => ∃ k : Nat, k ≤ len ∧ i = .int .i64 k ∧ IntsIn wr w1.heap.size (laneRun (es.take k) (lane0 n)).1 ∧ HeldAt wr w2.heap.size (laneRun (es.take k) (lane0 n)).2 ∧ Kept w3 wr (fun b => b = w1.heap.size ∨ b = w2.heap.size)) (fun i _ => len - (RowKit.intOf i).toNat)
  case atStart => exact ⟨0, Nat.zero_le _, rfl, Hst.out.2.1, Hst.out.1, Kept.refl _ _⟩
  case round =>
    obtain ⟨k, hk, rfl, hs, hh, hkp⟩ := hrel
    obtain ⟨wo, hwo⟩ : ∃ wo : World, wo = wr := ⟨_, rfl⟩
    subst hwo
    have hB : Below w.heap.size w wo := Hst.out.2.2.trans (hkp.below (by omega) (by rintro j (rfl | rfl) <;> omega))
    have hsz := hkp.size
    have her := Hlb.out _ hB
    obtain ⟨p, hp⟩ : ∃ p, p = laneRun (es.take k) (lane0 n) := ⟨_, rfl⟩
    have hok : LaneOk k n p := by
      have h1 := laneRun_ok (es.take k) 0 (lane0 n) (lane0_ok n)
      rw [Nat.zero_add, List.length_take, Nat.min_eq_left (by rw [her.len]; exact hk)] at h1
      rw [hp]; exact h1
    rw [← hp] at hs hh
    have Hp := Lib.hid hp
    have Hs := Lib.hid hs
    have Hh := Lib.hid hh
    have Hok2 := Lib.hid hok
    have Hkp := Lib.hid hkp
    have HB := Lib.hid hB
    clear hB hp hs hh hok hkp
    by_cases hlt : k < len
    · obtain ⟨b, off, x, rfl, hbl, hx, x0, x1, x2, x3, x4, x5⟩ := her.cell6 hlt
      have Hx := Lib.hid hx
      obtain ⟨p0, p1, p2⟩ := Hok2.out
      have Hp2 := Lib.hid p2
      clear hx her p2
      go_wp2_with fail
      refine (hold_any w2.heap.size n p.2 x _ ((Below.heap_alloc _ _ _ (by omega)).trans Hh.out) p1 hn16).mono ?_
      rintro e w6 ⟨rfl, hh6, hg6⟩
      have hz6 := hg6.size
      simp only [World.size_alloc] at hz6
      have hi6 : IntsIn w6 w1.heap.size p.1 := (hg6.block _ (by simp; omega) (by intro h; injection h; omega)).trans ((Below.heap_alloc _ _ _ (by omega)).trans Hs.out)
      have hl6 : (holdB p.2 x).length = n := by rw [holdB_len]; exact p1
      have hk6 := ((Kept.refl wo (fun b => b = w1.heap.size ∨ b = w2.heap.size)).alloc _).trans (Kept.of_only hg6 (Or.inr rfl))
      have Hh6 := Lib.hid hh6
      have Hi6 := Lib.hid hi6
      have Hk6 := Lib.hid hk6
      clear hh6 hi6 hg6 hk6
      go_wp2_with fail
      go_loopw [32] (fun i wy => ∃ m : Nat, m ≤ n ∧ i = .int .i64 m ∧ IntsIn wy w1.heap.size (partH m p.1 (holdB p.2 x)) ∧ Kept w6 wy (fun b => b = w1.heap.size)) (fun i _ => n - (RowKit.intOf i).toNat)
      case atStart => exact ⟨0, by omega, rfl, by rw [partH_0]; exact Hi6.out, Kept.refl _ _⟩
      case round =>
        obtain ⟨m, hm, rfl, hiy, hky⟩ := hrel
        have hhy : HeldAt wr w2.heap.size (holdB p.2 x) := hky.blk Hh6.out (by omega) (by show ¬ _ = _; omega)
        have hsz7 := hky.size
        by_cases hm2 : m < n
        · obtain ⟨v, hv⟩ : ∃ v, (holdB p.2 x)[m]? = some v := ⟨_, List.getElem?_eq_getElem (by omega)⟩
          obtain ⟨u, hu⟩ : ∃ u, p.1[m]? = some u := ⟨_, List.getElem?_eq_getElem (by omega)⟩
          have hu2 := Hp2.out _ (List.mem_of_getElem? hu)
          obtain ⟨u0, u1⟩ := hu2
          have hcl := blk_cell hhy m
          rw [List.getElem?_toArray, List.getElem?_map, hv] at hcl
          simp only [Option.map_some] at hcl
          have hcl2 := blk_cell hiy m
          rw [List.getElem?_toArray, List.getElem?_map, partH_get (by omega) hu] at hcl2
          simp only [Option.map_some] at hcl2
          have hf2 := blk_frozen hiy m
          have Hky := Lib.hid hky
          have Hiy := Lib.hid hiy
          have Hv := Lib.hid hv
          have Hu := Lib.hid hu
          clear hky hhy hiy hv hu
          cases v
          · go_wp2_with fail
            exact ⟨⟨m + 1, by omega, by go_num, by rw [partH_same (by omega) Hu.out Hv.out]; exact Hiy.out, Hky.out⟩, by simp [RowKit.intOf]; omega⟩
          · go_wp2_with fail
            refine ⟨⟨m + 1, by omega, by go_num, ?_, Hky.out.setCell (Or.inl rfl) _⟩, by simp [RowKit.intOf]; omega⟩
            rw [partH_next (by omega) Hu.out Hv.out]
            have := blk_set Hiy.out m (.int .i64 (u + 1))
            unfold IntsIn
            simpa [List.map_set] using this
        · obtain rfl : m = n := by omega
          have Hky := Lib.hid hky
          have Hiy := Lib.hid hiy
          have Hhy := Lib.hid hhy
          clear hky hiy hhy
          go_wp2_with fail
          have hev : laneRun (es.take (k + 1)) (lane0 m) = laneStep p x := by rw [laneRun_snoc Hx.out, ← Hp.out]
          refine ⟨⟨k + 1, by omega, by go_num, ?_, ?_, ?_⟩, by simp [RowKit.intOf]; omega⟩
          · rw [hev]
            have := Hiy.out
            rw [← p0, partH_all (by omega)] at this
            exact this
          · rw [hev]; exact Hhy.out
          · exact Hkp.out.trans (Hk6.out.trans (Hky.out.mono (fun _ h => Or.inl h)))
    · obtain rfl : k = len := by omega
      go_wp2_with fail
      go_ret2
      refine ⟨w1.heap.size, by omega, by omega, rfl, ?_, HB.out⟩
      have := Hs.out
      rw [Hp.out, List.take_of_length_le (by rw [her.len]; omega)] at this
      exact this
end Go.Proofs.YtgkhgbeiploefaaDoor

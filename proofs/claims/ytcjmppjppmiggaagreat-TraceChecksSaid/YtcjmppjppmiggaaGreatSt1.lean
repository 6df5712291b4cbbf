/- A trace's story: what a task comes to; the gate. -/
import Derived.Test.YtcjmppjppmiggaaGreatSt0
import Derived.Test.YtcjmppjppmiggaaGreatM3
import Derived.Test.YtcjmppjppmiggaaGreatGt4
import Derived.Test.YtcjmppjppmiggaaGreatTc1
import Derived.Deep.DeepCutAuto
namespace Go.Proofs.YtcjmppjppmiggaaGreat
open Go.RowKit
set_option linter.unusedVariables false
set_option linter.unusedSimpArgs false

open Go.Maps
set_option maxRecDepth 100000
theorem TInv.freed {rs : List RTx} {m : Nat} {E : Nat → Bool} {d : DT} (h : TInv rs m E d) (hm : m ≤ 65536) {n : Nat} (h1 : 1 ≤ n) (h2 : n ≤ m) (hE : E n = false) : sortI ((tellL d.wts n).filter fun a => decide (mget (mdel d.opn n) a = some 1)) = ints (freeL rs m E n) := by
  have hnd : (tellL d.wts n).Nodup := by
    exact tellL_nodup n h.nw
  refine sortI_of (nodup_perm (hnd.filter _) (ints_nodup (freeL_nodup m E n)) fun a => ?_) (List.pairwise_lt_range.filter _)
  rw [List.mem_filter, decide_eq_true_eq, mem_ints, freeL_mem]
  constructor
  · rintro ⟨ha, hb⟩
    obtain ⟨t1, t2, t3⟩ := (h.tell hm h1 h2 hE a).1 ha
    obtain ⟨g1, g2, g3, g4⟩ := h.told hm h1 h2 hE ha
    rw [g1] at hb
    injection hb with hb
    refine ⟨by omega, by omega, by omega, g2, ?_⟩
    obtain ⟨y, hy⟩ := List.length_eq_one_iff.1 (show (depL rs E a.toNat).length = 1 by omega)
    rw [hy] at g3 ⊢
    simp at g3
    rw [g3]
  · rintro ⟨ha, f1, f2, f3, f4⟩
    have hd : n ∈ depL rs E a.toNat := by rw [f4]; simp
    have ht := (h.tell hm h1 h2 hE a).2 ⟨by omega, by omega, (mem_depL.1 hd).1⟩
    obtain ⟨g1, -⟩ := h.told hm h1 h2 hE ht
    exact ⟨ht, by rw [g1, f4]; rfl⟩
theorem ev_box {w : World} {b0 : Nat} {cs : Array Value} (h : w.heap[b0]? = some (.cells cs 51 (0, 0))) (hz : cs.size = 6) (v0 v1 v2 v3 v4 v5 : Value) {X : World}
    (hX : X = (((((w.setCell ⟨b0, 0, none⟩ v0).setCell ⟨b0, 1, none⟩ v1).setCell ⟨b0, 2, none⟩ v2).setCell ⟨b0, 3, none⟩ v3).setCell ⟨b0, 4, none⟩ v4).setCell ⟨b0, 5, none⟩ v5) :
    Kept w X (fun q => q = b0) ∧ X.cell? ⟨b0, 0, none⟩ = some v0 ∧ X.cell? ⟨b0, 1, none⟩ = some v1 ∧ X.cell? ⟨b0, 2, none⟩ = some v2 ∧ X.cell? ⟨b0, 3, none⟩ = some v3 ∧ X.cell? ⟨b0, 4, none⟩ = some v4 ∧ X.cell? ⟨b0, 5, none⟩ = some v5 := by
  subst hX
  have hb := blk_set (blk_set (blk_set (blk_set (blk_set (blk_set h 0 v0) 1 v1) 2 v2) 3 v3) 4 v4) 5 v5
  have k : ∀ (W : World) (i : Nat) (v : Value), Kept w W (fun q => q = b0) → Kept w (W.setCell ⟨b0, i, none⟩ v) (fun q => q = b0) := fun W i v hk => hk.setCell (p := ⟨b0, i, none⟩) (Or.inl rfl) v
  refine ⟨k _ _ _ (k _ _ _ (k _ _ _ (k _ _ _ (k _ _ _ (k _ _ _ (Kept.refl _ _)))))), ?_, ?_, ?_, ?_, ?_, ?_⟩
  all_goals
    rw [blk_cell hb]
    simp [Array.getElem?_setIfInBounds, hz]
def TaskEnd (w : World) (φ : Nat → Nat) (Bo : Nat) (c : Cfg) (rs rs' : List RTx) (by_ : List Int) (a : SA) (r : TrA × TS) (e : Ending) (w' : World) : Prop :=
  ∃ φ' x', e = .returned (.tuple #[.int .u8 r.1.1, r.1.2.1.v, .bool r.1.2.2]) ∧ (∀ b, b < w.heap.size → φ' b = φ b) ∧ StAt w' φ' Bo c rs rs' by_ a x' r.2 ∧ Below Bo w w'
section
variable {rs' : List RTx} {m : Nat} {E : Nat → Bool} {d : DT}
theorem TIG.free (hI : TIG rs' m E d) (hm : m ≤ 65536) {n : Nat} (h1 : 1 ≤ n) (h2 : n ≤ m) (hE : E n = false) (hd : depL rs' E n = []) :
    mget d.opn n = some 0 ∧ d.wts.length ≤ 1099511627776 ∧ (∀ a ∈ tellL d.wts n, ∃ c : Int, mget (mdel d.opn n) a = some c ∧ 1 ≤ c ∧ c ≤ 1099511627776) ∧ sortI ((tellL d.wts n).filter fun a => decide (mget (mdel d.opn n) a = some 1)) = ints (freeL rs' m E n) := by
  have h := hI.1
  refine ⟨?_, ?_, fun a ha => ?_, h.freed hm h1 h2 hE⟩
  · have := h.opn n
    simp only at this
    rw [this, if_pos ⟨by omega, by omega, by simpa using hE⟩]
    simp [hd]
  · have := h.wts_len hm
    simp only at this
    have h3 : (m + 1) * (m + 1) ≤ 65537 * 65537 := Nat.mul_le_mul (by omega) (by omega)
    omega
  · obtain ⟨g1, g2, g3, g4⟩ := h.told hm h1 h2 hE ha
    have hl : 1 ≤ (depL rs' E a.toNat).length := List.length_pos_of_mem g3
    have hu : (depL rs' E a.toNat).length ≤ a.toNat := by
      have := List.length_filter_le (fun b => depB rs' a.toNat b && !E b) (List.range a.toNat)
      simpa [depL] using this
    obtain ⟨-, t2, -⟩ := (h.tell hm h1 h2 hE a).1 ha
    exact ⟨_, g1, by omega, by omega⟩
theorem TIG.done (hI : TIG rs' m E d) (hm : m ≤ 65536) {n : Nat} (h1 : 1 ≤ n) (h2 : n ≤ m) (hE : E n = false) (hd : depL rs' E n = []) {m2 : List (Int × Int)} {m3 : List ((I64 × I64) × Bool)}
    (hm2 : ∀ a, mget m2 a = if a ∈ tellL d.wts n then (mget (mdel d.opn n) a).map (· - 1) else mget (mdel d.opn n) a) (hm3 : ∀ k, mget m3 k = if k.2.1 = n then none else mget d.wts k) (hn2 : (m2.map (·.1)).Nodup) (hn3 : (m3.map (·.1)).Nodup) :
    TIG rs' m (E1 E n) ⟨d.last, m2, m3, d.top⟩ := ⟨hI.1.done hm h1 h2 hE hd hm2 hm3 hn2 hn3, hI.2⟩
end
theorem TkAt.cells_ {α : Type} {f : α → List Value} {z n cp B : Nat} {t : TypeId} {w : World} {ad : Addr} {l : List α} (hT : TkAt f z t w B (some ad) n cp l) (hlen : ∀ x, (f x).length = z) (hz : 0 < z := by decide) : ∀ (j : Nat) (u : Value), (l.flatMap f)[j]? = some u → w.cell? (ad.add j) = some u := fun j u hu => by
  obtain ⟨g, o', cur, rfl, hgB, hcur, hfit, hat⟩ := hT.some_
  have hl1 : (l.flatMap f).length = n * z := by rw [flat_len l (fun x _ => hlen x), hT.1]
  rw [Addr.add_lit, blk_cell hcur]
  have hj : j < n * z := by rw [← hl1]; exact (List.getElem?_eq_some_iff.1 hu).1
  have hd : j = j / z * z + j % z := by rw [Nat.mul_comm]; exact (Nat.div_add_mod j z).symm
  have hjd : j / z < n := Nat.div_lt_of_lt_mul (by rwa [Nat.mul_comm] at hj)
  have hxl : l[j / z]? = some (l[j / z]'(by rw [hT.1]; exact hjd)) := List.getElem?_eq_getElem _
  generalize l[j / z]'(by rw [hT.1]; exact hjd) = xl at hxl
  have hkl : j % z < (f xl).length := by rw [hlen]; exact Nat.mod_lt _ hz
  have h8 := flat_get l (fun x _ => hlen x) _ xl hxl (j % z) _ (List.getElem?_eq_getElem hkl)
  rw [← hd, hu] at h8
  have := hat _ xl hxl (j % z) _ (List.getElem?_eq_getElem hkl)
  rw [Nat.add_assoc, ← hd] at this
  rw [this, ← h8]
theorem ints_cells (l : List Nat) : (ints l).flatMap Icell = l.flatMap natC := by unfold ints; rw [List.flatMap_map]; rfl
set_option maxHeartbeats 4000000 in
theorem gates_any (φ : Nat → Nat) (Bo : Nat) (c : Cfg) (rs rs' : List RTx) (by_ : List Int) (M k : Nat) (a : SA) (x : SG) (s : TS) (w : World) (h0 : StAt w φ Bo c rs rs' by_ a x s) (hi : SInv c rs rs' M k s) (hrl : rs.length ≤ 65536) :
    Calls Tryz.prog 42 #[ptrV a.g] w (TaskEnd w φ Bo c rs rs' by_ a (s.gates rs')) := by
  obtain ⟨i0, hi0, hz0, hz1, hz2⟩ := info_parts info_int
  obtain ⟨φ0, hφ0⟩ : ∃ φ0 : Nat → Nat, φ0 = fun b => if b < w.heap.size then φ b else if b = w.heap.size then 50 else 10 := ⟨_, rfl⟩
  have hφ1 : ∀ b, b < w.heap.size → φ0 b = φ b := fun b hb => by rw [hφ0]; simp only [if_pos hb]
  have hφ2 : φ0 w.heap.size = 50 := by rw [hφ0]; simp
  have hφ3 : ∀ b, w.heap.size < b → φ0 b = 10 := fun b hb => by rw [hφ0]; simp only [if_neg (show ¬ b < w.heap.size by omega), if_neg (show ¬ b = w.heap.size by omega)]
  have h : StAt w φ0 Bo c rs rs' by_ a x s := h0.relabel hφ1
  have Hφ1 := Lib.hid hφ1
  have Hφ2 := Lib.hid hφ2
  have Hφ3 := Lib.hid hφ3
  clear hφ0 hφ1 hφ2 hφ3 h0
  have H := Lib.hid h
  obtain ⟨⟨Al, nl, cl⟩, ⟨Ag, ng, cg⟩, QA, LA, m, d⟩ := x
  have hst := h.st (fun h => h)
  unfold storyC SL.v at hst
  simp only at hst
  have hln := (h.gone (fun h => h)).1.len
  simp only at hln
  have hbz : Below w.heap.size w (w.alloc (.cells #[.int .i64 0, .int .u8 0, .int .i64 0, .int .i64 0, .int .i64 0, .int .i64 0] 51)) := (Below.refl _ _).alloc (Nat.le_refl _) _
  unfold TS.gates ptrV
  cases hg : s.gone with
  | nil =>
    rw [hg] at hln
    have hn0 : ng = 0 := by rw [← hln]; rfl
    subst hn0
    have c11 : ∀ o, (w.alloc o).cell? ⟨a.g, 11, none⟩ = some (.slice Ag 0 cg) := fun o => blk_cell ((Below.heap_alloc _ _ _ (blk_lt hst)).trans hst) 11
    have Hbz := Lib.hid hbz
    clear h hi hst hln hg hbz
    go_enter Tryz.func42, Tryz.ntmps42
    go_wp2_with fail
    refine bodyPost_ret (v := .tuple #[.int .u8 0, ev0.v, .bool false]) (by simp [results, Tryz.results42, go_sem, Ev.v, ev0]) rfl ⟨φ0, _, rfl, Hφ1.out, H.out.below Hbz.out (fun h => h) (fun h => h), Hbz.out.mono H.out.lo⟩
  | cons y r =>
    obtain ⟨hT, hA⟩ := h.gone (fun h => h)
    simp only at hT hA
    rw [hg] at hT hln
    have hng : ng = r.length + 1 := by rw [← hln]; rfl
    subst hng
    obtain ⟨b, off, y', rfl, hbl, hx, hc⟩ := hT.row.at_ (i := 0) (by omega)
    have hy : y' = y := by simp at hx; exact hx.symm
    subst hy
    have x0 : ∀ o, (w.alloc o).cell? ⟨b, off, none⟩ = some (.int .i64 y') := fun o => by
      have := hc 0 _ rfl
      simp only [Nat.zero_mul, Nat.add_zero] at this
      exact (((Below.refl w.heap.size w).alloc (Nat.le_refl _) o).cell (p := ⟨b, off, none⟩) hbl).trans this
    have hpop := hT.pop
    obtain ⟨b1, b2, b3, b4⟩ := hi.busy y' (by rw [hg]; simp)
    have hml := hi.ml
    have hF := TIG.free (h.tb (fun h => h)).2 (by omega) b1 b2 b3 b4
    have HF := Lib.hid hF
    have HM : Hid (s.m ≤ 65536) := Lib.hid (by omega)
    have HS0lo : Hid (Bo ≤ w.heap.size ∧ True) := Lib.hid ⟨h.lo, trivial⟩
    have HI := Lib.hid hi
    have h_line_len : Hid (s.line.length = nl) := Lib.hid (h.line (fun h => h)).1.len
    have HBz := Lib.hid (And.intro b1 (And.intro b2 (And.intro b3 b4)))
    obtain ⟨W0, hW0⟩ : ∃ W0, W0 = w.alloc (.cells #[.int .i64 0, .int .u8 0, .int .i64 0, .int .i64 0, .int .i64 0, .int .i64 0] 51) := ⟨_, rfl⟩
    rw [← hW0] at hbz
    have HB0 := Lib.hid hbz
    have HS0 := Lib.hid (h.below hbz (fun h => h) (fun h => h))
    have HE0 : Hid (W0.heap[w.heap.size]? = some (.cells #[.int .i64 0, .int .u8 0, .int .i64 0, .int .i64 0, .int .i64 0, .int .i64 0] 51 (0, 0))) := Lib.hid (hW0 ▸ blk_new _ _)
    have HW0 := Lib.hid hW0
    have Hpop := Lib.hid hpop
    have hstA : ∀ o, (w.alloc o).heap[a.g]? = _ := fun o => (Below.heap_alloc _ _ _ (blk_lt hst)).trans hst
    have c11 : ∀ o, (w.alloc o).cell? ⟨a.g, 11, none⟩ = some (.slice (some ⟨b, off, none⟩) (r.length + 1) cg) := fun o => blk_cell (hstA o) 11
    have f11 : ∀ o, (w.alloc o).frozen? ⟨a.g, 11, none⟩ = false := fun o => blk_frozen (hstA o) 11
    have c8 : ∀ o, (w.alloc o).cell? ⟨a.g, 8, none⟩ = some (.pointer (some ⟨a.t.g, 0, none⟩)) := fun o => blk_cell (hstA o) 8
    have hcap := hT.le
    have HA := Lib.hid hA
    clear hi hst hln hg hT hA hx hc hpop hstA hF b1 b2 b3 b4 hml hbz hW0
    go_enter Tryz.func42, Tryz.ntmps42
    by_cases hc1 : cg = 1
    · subst hc1
      have hr0 : Hid (r = []) := Lib.hid (List.eq_nil_of_length_eq_zero (by omega))
      have hrl0 : r.length = 0 := by rw [hr0.out]; rfl
      obtain ⟨A1, n1, c1, hA1, hn1, hcc⟩ : ∃ (A1 : Option Addr) (n1 c1 : Nat), A1 = some ⟨b, off, none⟩ ∧ n1 = 0 ∧ c1 = 0 := ⟨_, _, _, rfl, rfl, rfl⟩
      have HT1 : Hid (TkAt natC 1 3 w Bo A1 n1 c1 r) := Lib.hid (by rw [hA1, hn1, hcc]; have := Hpop.out; rw [hr0.out] at this ⊢; simpa using this)
      have HA1 : Hid (At φ0 11 A1) := Lib.hid (by rw [hA1]; exact HA.out)
      have HX := Lib.hid (And.intro hA1 (And.intro hn1 hcc))
      clear hA1 hn1 hcc
      simp only [hrl0, Nat.zero_add] at c11
      clear hrl0 hcap
      go_wp2_with fail
      have hsl : Value.slice (some ⟨b, off, none⟩) 0 0 = Value.slice A1 n1 c1 := by rw [HX.out.1, HX.out.2.1, HX.out.2.2]
      rw [hsl]
      as_aux_lemma =>
      rw [← HW0.out]
      obtain ⟨W1, hW1⟩ : ∃ W1, W1 = W0.setCell ⟨a.g, 11, none⟩ (.slice A1 n1 c1) := ⟨_, rfl⟩
      have hS1 : StAt W1 φ0 Bo c rs rs' by_ a { line := ⟨Al, nl, cl⟩, gone := ⟨A1, n1, c1⟩, QA := QA, LA := LA, m := m, d := d } { s with gone := r } := hW1 ▸ StH.setGone HS0.out (fun _ h => h.elim) (HT1.out.below HB0.out) HA1.out
      have hB1 : Below w.heap.size w W1 ∨ True := Or.inr trivial
      have HBo1 : Hid (Below Bo W0 W1) := Lib.hid (hW1 ▸ (Below.refl Bo W0).setCell (p := ⟨a.g, 11, none⟩) HS0.out.fst.2.1 _)
      have HE1 : Hid (W1.heap[w.heap.size]? = some (.cells #[.int .i64 0, .int .u8 0, .int .i64 0, .int .i64 0, .int .i64 0, .int .i64 0] 51 (0, 0))) := Lib.hid (by
        rw [hW1]; exact ((Kept.refl W0 (fun q => q = a.g)).setCell (p := ⟨a.g, 11, none⟩) (Or.inl rfl) _).blk HE0.out (blk_lt HE0.out) (by have := h.fst.2.2; omega))
      have HS1 := Lib.hid hS1
      have HS1lo : Hid (Bo ≤ W1.heap.size) := Lib.hid hS1.lo
      rw [← hW1]
      obtain ⟨tb, ti⟩ := hS1.tb (fun h => h)
      have hd := tdone_any a.t d y' W1 tb HF.out.1 HF.out.2.1 HF.out.2.2.1
      have Hd := Lib.hid hd
      have Hti := Lib.hid ti
      clear hW1 hS1 hB1 tb ti hd h
      refine Hd.out.mono ?_
      rintro e w2 ⟨v, m2, m3, rfl, hown, htb, hm2, hm3, hk⟩
      have Hnd2 := Lib.hid htb.opn.nodup
      have Hnd3 := Lib.hid htb.wts.nodup
      have hTIG := TIG.done Hti.out HM.out HBz.out.1 HBz.out.2.1 HBz.out.2.2.1 HBz.out.2.2.2 hm2 hm3 Hnd2.out Hnd3.out
      have HS2 := Lib.hid (HS1.out.setTab htb hTIG hk)
      have HB2 : Hid (Below Bo W1 w2) := Lib.hid (hk.below HS1.out.lo (fun b hb => (HS1.out.ftb b hb).2.1))
      have HE2 : Hid (w2.heap[w.heap.size]? = some (.cells #[.int .i64 0, .int .u8 0, .int .i64 0, .int .i64 0, .int .i64 0, .int .i64 0] 51 (0, 0))) := Lib.hid (hk.blk HE1.out (blk_lt HE1.out) (fun hx => by have := (HS1.out.ftb _ hx).1; rw [Hφ2.out] at this; omega))
      rw [HF.out.2.2.2, ints_cells] at hown
      have hcnt : ((tellL d.wts (y' : Int)).filter fun a => decide (mget (mdel d.opn (y' : Int)) a = some 1)).length = (freeL rs' s.m s.E y').length := by
        rw [← length_sortI, HF.out.2.2.2]; simp [ints]
      rw [hcnt] at hown
      have Hown := Lib.hid hown
      clear hown hcnt htb hm2 hm3 hk hTIG Hnd2 Hnd3 HS1 HE1 Hti
      have hst2 := HS2.out.st (fun h => h)
      unfold storyC SL.v at hst2
      simp only at hst2
      have d10 : w2.cell? ⟨a.g, 10, none⟩ = some (.slice Al nl cl) := blk_cell hst2 10
      have Hst2 := Lib.hid hst2
      clear hst2
      have hnat : ∀ q ∈ freeL rs' s.m s.E y', (natC q).length = 1 := fun _ _ => rfl
      obtain ⟨Af, cf, rfl, hal, htk⟩ := TkAt.own (cells := natC) (B := Bo) hnat Hown.out HS1lo.out
      have Htk := Lib.hid htk
      have HL2 := Lib.hid (HS2.out.line (fun h => h)).1
      have hfl : (freeL rs' s.m s.E y').length ≤ 65537 := by
        have := List.length_filter_le (fun a => decide (1 ≤ a) && !s.E a && decide (depL rs' s.E a = [y'])) (List.range (s.m + 1))
        simp at this; have := HM.out; unfold freeL; omega
      have Hfl := Lib.hid hfl
      have hnl : nl ≤ 65537 := by have := HI.out.line_len; have := HM.out; have := (h_line_len : Hid (s.line.length = nl)).out; omega
      have hb2z : Bo ≤ w2.heap.size := HS2.out.lo
      have f10 : w2.frozen? ⟨a.g, 10, none⟩ = false := blk_frozen Hst2.out 10
      clear hal htk hfl hnat Hown
      cases Af with
      | none =>
        have hz : (freeL rs' s.m s.E y').length = 0 ∧ cf = 0 := Htk.out.none_
        have hfr : freeL rs' s.m s.E y' = [] := List.eq_nil_of_length_eq_zero hz.1
        have HH3 : StH w2 φ0 Bo (fun j => j = 10) c rs rs' by_ a _ _ := HS2.out.hole10 (Kept.refl _ _)
        obtain ⟨A3, n3, c3, hA3e, hn3e, hc3e⟩ : ∃ (A3 : Option Addr) (n3 c3 : Nat), A3 = Al ∧ n3 = nl ∧ c3 = cl := ⟨_, _, _, rfl, rfl, rfl⟩
        obtain ⟨w3, hw3⟩ : ∃ w3, w3 = w2 := ⟨_, rfl⟩
        have HS3 := Lib.hid (show StAt (w3.setCell ⟨a.g, 10, none⟩ (.slice A3 n3 c3)) φ0 Bo c rs rs' by_ a _ _ by rw [hw3, hA3e, hn3e, hc3e]; exact HH3.setLine (fun i h => h) (l := s.line ++ freeL rs' s.m s.E y') (by rw [hfr, List.append_nil]; exact HL2.out) (HS2.out.line (fun h => h)).2)
        have HB3 : Hid (Below Bo w2 w3) := Lib.hid (hw3 ▸ Below.refl _ _)
        have HE3 : Hid (w3.heap[w.heap.size]? = some (.cells #[.int .i64 0, .int .u8 0, .int .i64 0, .int .i64 0, .int .i64 0, .int .i64 0] 51 (0, 0))) := Lib.hid (hw3 ▸ HE2.out)
        have e10 : w2.cell? ⟨a.g, 10, none⟩ = some (.slice Al nl cl) := blk_cell Hst2.out 10
        have e9 : w2.cell? ⟨a.g, 9, none⟩ = some (.pointer (some ⟨a.gt, 0, none⟩)) := blk_cell Hst2.out 9
        rw [hz.1, hz.2]
        have HQ := Lib.hid (And.intro hA3e (And.intro hn3e (And.intro hc3e hw3)))
        clear hz hfr HH3 hA3e hn3e hc3e hw3
        go_wp2_with (at_builtin; refine wpList_push0 rfl _ _ 25 rfl 3 i0 1 Tryz.underlying25 hi0 Bo Al nl cl s.line rfl HL2.out rfl ?_)
        rw [← HQ.out.1, ← HQ.out.2.1, ← HQ.out.2.2.1, ← HQ.out.2.2.2]
        rw [← HQ.out.1, ← HQ.out.2.1, ← HQ.out.2.2.1, ← HQ.out.2.2.2] at e10
        rw [← HQ.out.2.2.2] at e9 f10
        go_wp2_with fail
        obtain ⟨w4, hw4⟩ : ∃ w4, w4 = w3.setCell ⟨a.g, 10, none⟩ (.slice A3 n3 c3) := ⟨_, rfl⟩
        rw [← hw4] at HS3 ⊢
        have HB4 : Hid (Below Bo w3 w4) := Lib.hid (hw4 ▸ (Below.refl Bo w3).setCell (p := ⟨a.g, 10, none⟩) HS3.out.fst.2.1 _)
        have HE4 : Hid (w4.heap[w.heap.size]? = some (.cells #[.int .i64 0, .int .u8 0, .int .i64 0, .int .i64 0, .int .i64 0, .int .i64 0] 51 (0, 0))) := Lib.hid (by
          rw [hw4]; exact ((Kept.refl w3 (fun q => q = a.g)).setCell (p := ⟨a.g, 10, none⟩) (Or.inl rfl) _).blk HE3.out (blk_lt HE3.out) (fun e => by have h1 := HS3.out.fst.1; rw [← e, Hφ2.out] at h1; omega))
        clear hw4
        have HGD := Lib.hid (gdone_any a.gt s.G y' w4 (HS3.out.gt (fun h => h)) (by have := HBz.out.2.1; have := HM.out; omega))
        refine HGD.out.mono ?_
        rintro e w5 ⟨rfl, hg5, hgr⟩
        have HS5 := Lib.hid (HS3.out.setGate hg5 hgr)
        have hgk : Kept w4 w5 (fun q => some q = some a.gt) := (Kept.of_only hgr rfl).mono fun q e => by rw [e]
        have HB5 : Hid (Below Bo w4 w5) := Lib.hid (hgk.below HS3.out.lo (fun q e => by injection e with e; rw [e]; exact HS3.out.fgt.2.1))
        have hE5 := hgk.blk HE4.out (blk_lt HE4.out) (fun e => by injection e with e; have h1 := HS3.out.fgt.1; rw [← e, Hφ2.out] at h1; omega)
        have HE5 := Lib.hid hE5
        have g0 := blk_cell hE5 0
        have g1 := blk_cell hE5 1
        have g2 := blk_cell hE5 2
        have g3 := blk_cell hE5 3
        have g4 := blk_cell hE5 4
        have g5 := blk_cell hE5 5
        have k0 := blk_frozen hE5 0
        have k1 := blk_frozen hE5 1
        have k2 := blk_frozen hE5 2
        have k3 := blk_frozen hE5 3
        have k4 := blk_frozen hE5 4
        have k5 := blk_frozen hE5 5
        clear hg5 hgr hgk hE5
        go_wp2_with fail
        obtain ⟨X, hX⟩ : ∃ X, X = (((((w5.setCell ⟨w.heap.size, 0, none⟩ (.int .i64 0)).setCell ⟨w.heap.size, 1, none⟩ (.int .u8 0)).setCell ⟨w.heap.size, 2, none⟩ (.int .i64 y')).setCell ⟨w.heap.size, 3, none⟩ (.int .i64 0)).setCell ⟨w.heap.size, 4, none⟩ (.int .i64 (s.G.done y').2.1)).setCell ⟨w.heap.size, 5, none⟩ (.int .i64 0) := ⟨_, rfl⟩
        rw [← hX]
        obtain ⟨hXk, r0, r1, r2, r3, r4, r5⟩ := ev_box HE5.out rfl _ _ _ _ _ _ hX
        have hBX : Below Bo w X := by
          have t1 : Below Bo w W0 := HB0.out.mono HS0lo.out.1
          have t2 : Below Bo w5 X := hXk.below HS5.out.lo (fun q e => by rw [e]; exact HS0lo.out.1)
          exact ((((t1.trans HBo1.out).trans HB2.out).trans HB3.out).trans HB4.out).trans (HB5.out.trans t2)
        refine bodyPost_ret (v := .tuple #[.int .u8 8, .agg #[.int .i64 0, .int .u8 0, .int .i64 y', .int .i64 0, .int .i64 (s.G.done y').2.1, .int .i64 0], .bool true]) (by simp [results, Tryz.results42, go_sem, r0, r1, r2, r3, r4, r5]) rfl ⟨φ0, _, rfl, Hφ1.out, HS5.out.junk (hXk.mono fun q e => by rw [e]; exact Hφ2.out), hBX⟩
      | some ad =>
        go_wp2_with (at_builtin; refine wpList_pushN rfl _ _ 25 rfl 3 i0 _ 1 8 Tryz.underlying25 hi0 hz0 hz1 hz2 rfl (by decide) (fun _ => rfl) one_natC Bo Al nl cl s.line rfl HL2.out hb2z (freeL rs' s.m s.E y') ad cf rfl (Htk.out.cells_ (fun _ => rfl)) (by simp only [maxLen]; have := Hfl.out; omega) (by have := Hfl.out; omega) ?_)
        intro A3 c3 w3 h1 h2 h3
        obtain ⟨n3, hn3⟩ : ∃ n3, n3 = nl + (freeL rs' s.m s.E y').length := ⟨_, rfl⟩
        rw [← hn3] at h1 ⊢
        have Hn3 := Lib.hid hn3
        clear hn3
        have hA3 : At φ0 10 A3 := fun q e => by
          rcases h3 q e with ⟨c', e1, e2⟩ | h4
          · rw [e2]; exact (HS2.out.line (fun h => h)).2 c' e1
          · exact Hφ3.out _ (by have := blk_lt HE2.out; omega)
        have HH3 := Lib.hid (HS2.out.hole10 h2)
        have HB3 : Hid (Below Bo w2 w3) := Lib.hid (h2.below hb2z (fun q ⟨ad', e, e2⟩ => by rw [e2]; exact (HL2.out.lt e).1))
        have HE3 : Hid (w3.heap[w.heap.size]? = some (.cells #[.int .i64 0, .int .u8 0, .int .i64 0, .int .i64 0, .int .i64 0, .int .i64 0] 51 (0, 0))) := Lib.hid (h2.blk HE2.out (blk_lt HE2.out) (fun ⟨ad', e, e2⟩ => by
          have := (HS2.out.line (fun h => h)).2 ad' e
          rw [← e2, Hφ2.out] at this; omega))
        have HS3 := Lib.hid (HH3.out.setLine (fun i h => h) h1 hA3)
        have hst3 := HH3.out.st (by omega)
        unfold storyC SL.v at hst3
        simp only at hst3
        have e10 : w3.cell? ⟨a.g, 10, none⟩ = some (.slice Al nl cl) := blk_cell hst3 10
        have f10' : w3.frozen? ⟨a.g, 10, none⟩ = false := blk_frozen hst3 10
        have e9 : w3.cell? ⟨a.g, 9, none⟩ = some (.pointer (some ⟨a.gt, 0, none⟩)) := blk_cell hst3 9
        clear h1 h2 h3 hA3 HH3 hst3 d10 f10 HL2 Htk
        go_wp2_with fail
        obtain ⟨w4, hw4⟩ : ∃ w4, w4 = w3.setCell ⟨a.g, 10, none⟩ (.slice A3 n3 c3) := ⟨_, rfl⟩
        rw [← hw4] at HS3 ⊢
        have HB4 : Hid (Below Bo w3 w4) := Lib.hid (hw4 ▸ (Below.refl Bo w3).setCell (p := ⟨a.g, 10, none⟩) HS3.out.fst.2.1 _)
        have HE4 : Hid (w4.heap[w.heap.size]? = some (.cells #[.int .i64 0, .int .u8 0, .int .i64 0, .int .i64 0, .int .i64 0, .int .i64 0] 51 (0, 0))) := Lib.hid (by
          rw [hw4]; exact ((Kept.refl w3 (fun q => q = a.g)).setCell (p := ⟨a.g, 10, none⟩) (Or.inl rfl) _).blk HE3.out (blk_lt HE3.out) (fun e => by have h1 := HS3.out.fst.1; rw [← e, Hφ2.out] at h1; omega))
        clear hw4
        have HGD := Lib.hid (gdone_any a.gt s.G y' w4 (HS3.out.gt (fun h => h)) (by have := HBz.out.2.1; have := HM.out; omega))
        refine HGD.out.mono ?_
        rintro e w5 ⟨rfl, hg5, hgr⟩
        have HS5 := Lib.hid (HS3.out.setGate hg5 hgr)
        have hgk : Kept w4 w5 (fun q => some q = some a.gt) := (Kept.of_only hgr rfl).mono fun q e => by rw [e]
        have HB5 : Hid (Below Bo w4 w5) := Lib.hid (hgk.below HS3.out.lo (fun q e => by injection e with e; rw [e]; exact HS3.out.fgt.2.1))
        have hE5 := hgk.blk HE4.out (blk_lt HE4.out) (fun e => by injection e with e; have h1 := HS3.out.fgt.1; rw [← e, Hφ2.out] at h1; omega)
        have HE5 := Lib.hid hE5
        have g0 := blk_cell hE5 0
        have g1 := blk_cell hE5 1
        have g2 := blk_cell hE5 2
        have g3 := blk_cell hE5 3
        have g4 := blk_cell hE5 4
        have g5 := blk_cell hE5 5
        have k0 := blk_frozen hE5 0
        have k1 := blk_frozen hE5 1
        have k2 := blk_frozen hE5 2
        have k3 := blk_frozen hE5 3
        have k4 := blk_frozen hE5 4
        have k5 := blk_frozen hE5 5
        clear hg5 hgr hgk hE5
        go_wp2_with fail
        obtain ⟨X, hX⟩ : ∃ X, X = (((((w5.setCell ⟨w.heap.size, 0, none⟩ (.int .i64 0)).setCell ⟨w.heap.size, 1, none⟩ (.int .u8 0)).setCell ⟨w.heap.size, 2, none⟩ (.int .i64 y')).setCell ⟨w.heap.size, 3, none⟩ (.int .i64 0)).setCell ⟨w.heap.size, 4, none⟩ (.int .i64 (s.G.done y').2.1)).setCell ⟨w.heap.size, 5, none⟩ (.int .i64 0) := ⟨_, rfl⟩
        rw [← hX]
        obtain ⟨hXk, r0, r1, r2, r3, r4, r5⟩ := ev_box HE5.out rfl _ _ _ _ _ _ hX
        have hBX : Below Bo w X := by
          have t1 : Below Bo w W0 := HB0.out.mono HS0lo.out.1
          have t2 : Below Bo w5 X := hXk.below HS5.out.lo (fun q e => by rw [e]; exact HS0lo.out.1)
          exact ((((t1.trans HBo1.out).trans HB2.out).trans HB3.out).trans HB4.out).trans (HB5.out.trans t2)
        refine bodyPost_ret (v := .tuple #[.int .u8 8, .agg #[.int .i64 0, .int .u8 0, .int .i64 y', .int .i64 0, .int .i64 (s.G.done y').2.1, .int .i64 0], .bool true]) (by simp [results, Tryz.results42, go_sem, r0, r1, r2, r3, r4, r5]) rfl ⟨φ0, _, rfl, Hφ1.out, HS5.out.junk (hXk.mono fun q e => by rw [e]; exact Hφ2.out), hBX⟩
    · obtain ⟨A1, n1, c1, hA1, hn1, hcc⟩ : ∃ (A1 : Option Addr) (n1 c1 : Nat), A1 = some ⟨b, off + 1, none⟩ ∧ n1 = r.length ∧ c1 = cg - 1 := ⟨_, _, _, rfl, rfl, rfl⟩
      have HT1 : Hid (TkAt natC 1 3 w Bo A1 n1 c1 r) := Lib.hid (by rw [hA1, hn1, hcc]; have := Hpop.out; rw [if_neg hc1] at this; simpa [Addr.add_lit] using this)
      have HA1 : Hid (At φ0 11 A1) := Lib.hid (by rw [hA1]; intro q e; injection e with e; subst e; have := HA.out ⟨b, off, none⟩ rfl; exact this)
      have HX := Lib.hid (And.intro hA1 (And.intro hn1 hcc))
      clear hA1 hn1 hcc
      go_wp2_with fail
      rw [← HX.out.1, ← HX.out.2.1, ← HX.out.2.2]
      as_aux_lemma =>
      rw [← HW0.out]
      obtain ⟨W1, hW1⟩ : ∃ W1, W1 = W0.setCell ⟨a.g, 11, none⟩ (.slice A1 n1 c1) := ⟨_, rfl⟩
      have hS1 : StAt W1 φ0 Bo c rs rs' by_ a { line := ⟨Al, nl, cl⟩, gone := ⟨A1, n1, c1⟩, QA := QA, LA := LA, m := m, d := d } { s with gone := r } := hW1 ▸ StH.setGone HS0.out (fun _ h => h.elim) (HT1.out.below HB0.out) HA1.out
      have hB1 : Below w.heap.size w W1 ∨ True := Or.inr trivial
      have HBo1 : Hid (Below Bo W0 W1) := Lib.hid (hW1 ▸ (Below.refl Bo W0).setCell (p := ⟨a.g, 11, none⟩) HS0.out.fst.2.1 _)
      have HE1 : Hid (W1.heap[w.heap.size]? = some (.cells #[.int .i64 0, .int .u8 0, .int .i64 0, .int .i64 0, .int .i64 0, .int .i64 0] 51 (0, 0))) := Lib.hid (by
        rw [hW1]; exact ((Kept.refl W0 (fun q => q = a.g)).setCell (p := ⟨a.g, 11, none⟩) (Or.inl rfl) _).blk HE0.out (blk_lt HE0.out) (by have := h.fst.2.2; omega))
      have HS1 := Lib.hid hS1
      have HS1lo : Hid (Bo ≤ W1.heap.size) := Lib.hid hS1.lo
      rw [← hW1]
      obtain ⟨tb, ti⟩ := hS1.tb (fun h => h)
      have hd := tdone_any a.t d y' W1 tb HF.out.1 HF.out.2.1 HF.out.2.2.1
      have Hd := Lib.hid hd
      have Hti := Lib.hid ti
      clear hW1 hS1 hB1 tb ti hd h
      refine Hd.out.mono ?_
      rintro e w2 ⟨v, m2, m3, rfl, hown, htb, hm2, hm3, hk⟩
      have Hnd2 := Lib.hid htb.opn.nodup
      have Hnd3 := Lib.hid htb.wts.nodup
      have hTIG := TIG.done Hti.out HM.out HBz.out.1 HBz.out.2.1 HBz.out.2.2.1 HBz.out.2.2.2 hm2 hm3 Hnd2.out Hnd3.out
      have HS2 := Lib.hid (HS1.out.setTab htb hTIG hk)
      have HB2 : Hid (Below Bo W1 w2) := Lib.hid (hk.below HS1.out.lo (fun b hb => (HS1.out.ftb b hb).2.1))
      have HE2 : Hid (w2.heap[w.heap.size]? = some (.cells #[.int .i64 0, .int .u8 0, .int .i64 0, .int .i64 0, .int .i64 0, .int .i64 0] 51 (0, 0))) := Lib.hid (hk.blk HE1.out (blk_lt HE1.out) (fun hx => by have := (HS1.out.ftb _ hx).1; rw [Hφ2.out] at this; omega))
      rw [HF.out.2.2.2, ints_cells] at hown
      have hcnt : ((tellL d.wts (y' : Int)).filter fun a => decide (mget (mdel d.opn (y' : Int)) a = some 1)).length = (freeL rs' s.m s.E y').length := by
        rw [← length_sortI, HF.out.2.2.2]; simp [ints]
      rw [hcnt] at hown
      have Hown := Lib.hid hown
      clear hown hcnt htb hm2 hm3 hk hTIG Hnd2 Hnd3 HS1 HE1 Hti
      have hst2 := HS2.out.st (fun h => h)
      unfold storyC SL.v at hst2
      simp only at hst2
      have d10 : w2.cell? ⟨a.g, 10, none⟩ = some (.slice Al nl cl) := blk_cell hst2 10
      have Hst2 := Lib.hid hst2
      clear hst2
      have hnat : ∀ q ∈ freeL rs' s.m s.E y', (natC q).length = 1 := fun _ _ => rfl
      obtain ⟨Af, cf, rfl, hal, htk⟩ := TkAt.own (cells := natC) (B := Bo) hnat Hown.out HS1lo.out
      have Htk := Lib.hid htk
      have HL2 := Lib.hid (HS2.out.line (fun h => h)).1
      have hfl : (freeL rs' s.m s.E y').length ≤ 65537 := by
        have := List.length_filter_le (fun a => decide (1 ≤ a) && !s.E a && decide (depL rs' s.E a = [y'])) (List.range (s.m + 1))
        simp at this; have := HM.out; unfold freeL; omega
      have Hfl := Lib.hid hfl
      have hnl : nl ≤ 65537 := by have := HI.out.line_len; have := HM.out; have := (h_line_len : Hid (s.line.length = nl)).out; omega
      have hb2z : Bo ≤ w2.heap.size := HS2.out.lo
      have f10 : w2.frozen? ⟨a.g, 10, none⟩ = false := blk_frozen Hst2.out 10
      clear hal htk hfl hnat Hown
      cases Af with
      | none =>
        have hz : (freeL rs' s.m s.E y').length = 0 ∧ cf = 0 := Htk.out.none_
        have hfr : freeL rs' s.m s.E y' = [] := List.eq_nil_of_length_eq_zero hz.1
        have HH3 : StH w2 φ0 Bo (fun j => j = 10) c rs rs' by_ a _ _ := HS2.out.hole10 (Kept.refl _ _)
        obtain ⟨A3, n3, c3, hA3e, hn3e, hc3e⟩ : ∃ (A3 : Option Addr) (n3 c3 : Nat), A3 = Al ∧ n3 = nl ∧ c3 = cl := ⟨_, _, _, rfl, rfl, rfl⟩
        obtain ⟨w3, hw3⟩ : ∃ w3, w3 = w2 := ⟨_, rfl⟩
        have HS3 := Lib.hid (show StAt (w3.setCell ⟨a.g, 10, none⟩ (.slice A3 n3 c3)) φ0 Bo c rs rs' by_ a _ _ by rw [hw3, hA3e, hn3e, hc3e]; exact HH3.setLine (fun i h => h) (l := s.line ++ freeL rs' s.m s.E y') (by rw [hfr, List.append_nil]; exact HL2.out) (HS2.out.line (fun h => h)).2)
        have HB3 : Hid (Below Bo w2 w3) := Lib.hid (hw3 ▸ Below.refl _ _)
        have HE3 : Hid (w3.heap[w.heap.size]? = some (.cells #[.int .i64 0, .int .u8 0, .int .i64 0, .int .i64 0, .int .i64 0, .int .i64 0] 51 (0, 0))) := Lib.hid (hw3 ▸ HE2.out)
        have e10 : w2.cell? ⟨a.g, 10, none⟩ = some (.slice Al nl cl) := blk_cell Hst2.out 10
        have e9 : w2.cell? ⟨a.g, 9, none⟩ = some (.pointer (some ⟨a.gt, 0, none⟩)) := blk_cell Hst2.out 9
        rw [hz.1, hz.2]
        have HQ := Lib.hid (And.intro hA3e (And.intro hn3e (And.intro hc3e hw3)))
        clear hz hfr HH3 hA3e hn3e hc3e hw3
        go_wp2_with (at_builtin; refine wpList_push0 rfl _ _ 25 rfl 3 i0 1 Tryz.underlying25 hi0 Bo Al nl cl s.line rfl HL2.out rfl ?_)
        rw [← HQ.out.1, ← HQ.out.2.1, ← HQ.out.2.2.1, ← HQ.out.2.2.2]
        rw [← HQ.out.1, ← HQ.out.2.1, ← HQ.out.2.2.1, ← HQ.out.2.2.2] at e10
        rw [← HQ.out.2.2.2] at e9 f10
        go_wp2_with fail
        obtain ⟨w4, hw4⟩ : ∃ w4, w4 = w3.setCell ⟨a.g, 10, none⟩ (.slice A3 n3 c3) := ⟨_, rfl⟩
        rw [← hw4] at HS3 ⊢
        have HB4 : Hid (Below Bo w3 w4) := Lib.hid (hw4 ▸ (Below.refl Bo w3).setCell (p := ⟨a.g, 10, none⟩) HS3.out.fst.2.1 _)
        have HE4 : Hid (w4.heap[w.heap.size]? = some (.cells #[.int .i64 0, .int .u8 0, .int .i64 0, .int .i64 0, .int .i64 0, .int .i64 0] 51 (0, 0))) := Lib.hid (by
          rw [hw4]; exact ((Kept.refl w3 (fun q => q = a.g)).setCell (p := ⟨a.g, 10, none⟩) (Or.inl rfl) _).blk HE3.out (blk_lt HE3.out) (fun e => by have h1 := HS3.out.fst.1; rw [← e, Hφ2.out] at h1; omega))
        clear hw4
        have HGD := Lib.hid (gdone_any a.gt s.G y' w4 (HS3.out.gt (fun h => h)) (by have := HBz.out.2.1; have := HM.out; omega))
        refine HGD.out.mono ?_
        rintro e w5 ⟨rfl, hg5, hgr⟩
        have HS5 := Lib.hid (HS3.out.setGate hg5 hgr)
        have hgk : Kept w4 w5 (fun q => some q = some a.gt) := (Kept.of_only hgr rfl).mono fun q e => by rw [e]
        have HB5 : Hid (Below Bo w4 w5) := Lib.hid (hgk.below HS3.out.lo (fun q e => by injection e with e; rw [e]; exact HS3.out.fgt.2.1))
        have hE5 := hgk.blk HE4.out (blk_lt HE4.out) (fun e => by injection e with e; have h1 := HS3.out.fgt.1; rw [← e, Hφ2.out] at h1; omega)
        have HE5 := Lib.hid hE5
        have g0 := blk_cell hE5 0
        have g1 := blk_cell hE5 1
        have g2 := blk_cell hE5 2
        have g3 := blk_cell hE5 3
        have g4 := blk_cell hE5 4
        have g5 := blk_cell hE5 5
        have k0 := blk_frozen hE5 0
        have k1 := blk_frozen hE5 1
        have k2 := blk_frozen hE5 2
        have k3 := blk_frozen hE5 3
        have k4 := blk_frozen hE5 4
        have k5 := blk_frozen hE5 5
        clear hg5 hgr hgk hE5
        go_wp2_with fail
        obtain ⟨X, hX⟩ : ∃ X, X = (((((w5.setCell ⟨w.heap.size, 0, none⟩ (.int .i64 0)).setCell ⟨w.heap.size, 1, none⟩ (.int .u8 0)).setCell ⟨w.heap.size, 2, none⟩ (.int .i64 y')).setCell ⟨w.heap.size, 3, none⟩ (.int .i64 0)).setCell ⟨w.heap.size, 4, none⟩ (.int .i64 (s.G.done y').2.1)).setCell ⟨w.heap.size, 5, none⟩ (.int .i64 0) := ⟨_, rfl⟩
        rw [← hX]
        obtain ⟨hXk, r0, r1, r2, r3, r4, r5⟩ := ev_box HE5.out rfl _ _ _ _ _ _ hX
        have hBX : Below Bo w X := by
          have t1 : Below Bo w W0 := HB0.out.mono HS0lo.out.1
          have t2 : Below Bo w5 X := hXk.below HS5.out.lo (fun q e => by rw [e]; exact HS0lo.out.1)
          exact ((((t1.trans HBo1.out).trans HB2.out).trans HB3.out).trans HB4.out).trans (HB5.out.trans t2)
        refine bodyPost_ret (v := .tuple #[.int .u8 8, .agg #[.int .i64 0, .int .u8 0, .int .i64 y', .int .i64 0, .int .i64 (s.G.done y').2.1, .int .i64 0], .bool true]) (by simp [results, Tryz.results42, go_sem, r0, r1, r2, r3, r4, r5]) rfl ⟨φ0, _, rfl, Hφ1.out, HS5.out.junk (hXk.mono fun q e => by rw [e]; exact Hφ2.out), hBX⟩
      | some ad =>
        go_wp2_with (at_builtin; refine wpList_pushN rfl _ _ 25 rfl 3 i0 _ 1 8 Tryz.underlying25 hi0 hz0 hz1 hz2 rfl (by decide) (fun _ => rfl) one_natC Bo Al nl cl s.line rfl HL2.out hb2z (freeL rs' s.m s.E y') ad cf rfl (Htk.out.cells_ (fun _ => rfl)) (by simp only [maxLen]; have := Hfl.out; omega) (by have := Hfl.out; omega) ?_)
        intro A3 c3 w3 h1 h2 h3
        obtain ⟨n3, hn3⟩ : ∃ n3, n3 = nl + (freeL rs' s.m s.E y').length := ⟨_, rfl⟩
        rw [← hn3] at h1 ⊢
        have Hn3 := Lib.hid hn3
        clear hn3
        have hA3 : At φ0 10 A3 := fun q e => by
          rcases h3 q e with ⟨c', e1, e2⟩ | h4
          · rw [e2]; exact (HS2.out.line (fun h => h)).2 c' e1
          · exact Hφ3.out _ (by have := blk_lt HE2.out; omega)
        have HH3 := Lib.hid (HS2.out.hole10 h2)
        have HB3 : Hid (Below Bo w2 w3) := Lib.hid (h2.below hb2z (fun q ⟨ad', e, e2⟩ => by rw [e2]; exact (HL2.out.lt e).1))
        have HE3 : Hid (w3.heap[w.heap.size]? = some (.cells #[.int .i64 0, .int .u8 0, .int .i64 0, .int .i64 0, .int .i64 0, .int .i64 0] 51 (0, 0))) := Lib.hid (h2.blk HE2.out (blk_lt HE2.out) (fun ⟨ad', e, e2⟩ => by
          have := (HS2.out.line (fun h => h)).2 ad' e
          rw [← e2, Hφ2.out] at this; omega))
        have HS3 := Lib.hid (HH3.out.setLine (fun i h => h) h1 hA3)
        have hst3 := HH3.out.st (by omega)
        unfold storyC SL.v at hst3
        simp only at hst3
        have e10 : w3.cell? ⟨a.g, 10, none⟩ = some (.slice Al nl cl) := blk_cell hst3 10
        have f10' : w3.frozen? ⟨a.g, 10, none⟩ = false := blk_frozen hst3 10
        have e9 : w3.cell? ⟨a.g, 9, none⟩ = some (.pointer (some ⟨a.gt, 0, none⟩)) := blk_cell hst3 9
        clear h1 h2 h3 hA3 HH3 hst3 d10 f10 HL2 Htk
        go_wp2_with fail
        obtain ⟨w4, hw4⟩ : ∃ w4, w4 = w3.setCell ⟨a.g, 10, none⟩ (.slice A3 n3 c3) := ⟨_, rfl⟩
        rw [← hw4] at HS3 ⊢
        have HB4 : Hid (Below Bo w3 w4) := Lib.hid (hw4 ▸ (Below.refl Bo w3).setCell (p := ⟨a.g, 10, none⟩) HS3.out.fst.2.1 _)
        have HE4 : Hid (w4.heap[w.heap.size]? = some (.cells #[.int .i64 0, .int .u8 0, .int .i64 0, .int .i64 0, .int .i64 0, .int .i64 0] 51 (0, 0))) := Lib.hid (by
          rw [hw4]; exact ((Kept.refl w3 (fun q => q = a.g)).setCell (p := ⟨a.g, 10, none⟩) (Or.inl rfl) _).blk HE3.out (blk_lt HE3.out) (fun e => by have h1 := HS3.out.fst.1; rw [← e, Hφ2.out] at h1; omega))
        clear hw4
        have HGD := Lib.hid (gdone_any a.gt s.G y' w4 (HS3.out.gt (fun h => h)) (by have := HBz.out.2.1; have := HM.out; omega))
        refine HGD.out.mono ?_
        rintro e w5 ⟨rfl, hg5, hgr⟩
        have HS5 := Lib.hid (HS3.out.setGate hg5 hgr)
        have hgk : Kept w4 w5 (fun q => some q = some a.gt) := (Kept.of_only hgr rfl).mono fun q e => by rw [e]
        have HB5 : Hid (Below Bo w4 w5) := Lib.hid (hgk.below HS3.out.lo (fun q e => by injection e with e; rw [e]; exact HS3.out.fgt.2.1))
        have hE5 := hgk.blk HE4.out (blk_lt HE4.out) (fun e => by injection e with e; have h1 := HS3.out.fgt.1; rw [← e, Hφ2.out] at h1; omega)
        have HE5 := Lib.hid hE5
        have g0 := blk_cell hE5 0
        have g1 := blk_cell hE5 1
        have g2 := blk_cell hE5 2
        have g3 := blk_cell hE5 3
        have g4 := blk_cell hE5 4
        have g5 := blk_cell hE5 5
        have k0 := blk_frozen hE5 0
        have k1 := blk_frozen hE5 1
        have k2 := blk_frozen hE5 2
        have k3 := blk_frozen hE5 3
        have k4 := blk_frozen hE5 4
        have k5 := blk_frozen hE5 5
        clear hg5 hgr hgk hE5
        go_wp2_with fail
        obtain ⟨X, hX⟩ : ∃ X, X = (((((w5.setCell ⟨w.heap.size, 0, none⟩ (.int .i64 0)).setCell ⟨w.heap.size, 1, none⟩ (.int .u8 0)).setCell ⟨w.heap.size, 2, none⟩ (.int .i64 y')).setCell ⟨w.heap.size, 3, none⟩ (.int .i64 0)).setCell ⟨w.heap.size, 4, none⟩ (.int .i64 (s.G.done y').2.1)).setCell ⟨w.heap.size, 5, none⟩ (.int .i64 0) := ⟨_, rfl⟩
        rw [← hX]
        obtain ⟨hXk, r0, r1, r2, r3, r4, r5⟩ := ev_box HE5.out rfl _ _ _ _ _ _ hX
        have hBX : Below Bo w X := by
          have t1 : Below Bo w W0 := HB0.out.mono HS0lo.out.1
          have t2 : Below Bo w5 X := hXk.below HS5.out.lo (fun q e => by rw [e]; exact HS0lo.out.1)
          exact ((((t1.trans HBo1.out).trans HB2.out).trans HB3.out).trans HB4.out).trans (HB5.out.trans t2)
        refine bodyPost_ret (v := .tuple #[.int .u8 8, .agg #[.int .i64 0, .int .u8 0, .int .i64 y', .int .i64 0, .int .i64 (s.G.done y').2.1, .int .i64 0], .bool true]) (by simp [results, Tryz.results42, go_sem, r0, r1, r2, r3, r4, r5]) rfl ⟨φ0, _, rfl, Hφ1.out, HS5.out.junk (hXk.mono fun q e => by rw [e]; exact Hφ2.out), hBX⟩
end Go.Proofs.YtcjmppjppmiggaaGreat

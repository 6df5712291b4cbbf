/- DepsPlays in plain words: what a table has been handed; its numbers need not follow one another. -/
import Derived.Test.YtfafhfjmoijaeaaGreatDoorRt0
namespace Go.Proofs.YtfafhfjmoijaeaaGreatDoor
open Go.RowKit
set_option linter.unusedVariables false
set_option linter.unusedSimpArgs false

theorem lastN_congr {rs rs' : List RTx} (k : ByteArray) : ∀ {m : Nat}, (∀ i, i < m → wsOf rs i = wsOf rs' i) → lastN rs k m = lastN rs' k m
  | 0, _ => rfl
  | m + 1, h => by rw [lastN, lastN, h m (by omega), lastN_congr k (m := m) (fun i hi => h i (by omega))]
theorem dep_congr {rs rs' : List RTx} {m a b : Nat} (h : ∀ i, i < m → wsOf rs i = wsOf rs' i) (ha : a ≤ m) (hd : dep rs a b) : dep rs' a b := by
  have hlt := dep_lt hd
  obtain ⟨h1, x, hx, hl⟩ := hd
  exact ⟨h1, x, by rw [← h _ (by omega)]; exact hx, by rw [← lastN_congr x.key (m := a - 1) (fun i hi => h i (by omega))]; exact hl⟩
theorem depB_congr {rs rs' : List RTx} {m a : Nat} (b : Nat) (h : ∀ i, i < m → wsOf rs i = wsOf rs' i) (ha : a ≤ m) : depB rs a b = depB rs' a b := by
  rw [Bool.eq_iff_iff, depB_iff, depB_iff]
  exact ⟨dep_congr h ha, dep_congr (fun i hi => (h i hi).symm) ha⟩
theorem depL_congr {rs rs' : List RTx} {m a : Nat} (E : Nat → Bool) (h : ∀ i, i < m → wsOf rs i = wsOf rs' i) (ha : a ≤ m) : depL rs E a = depL rs' E a := by
  unfold depL
  exact List.filter_congr fun b _ => by rw [depB_congr b h ha]
section
open Go.Maps
variable {rs rs' : List RTx} {m : Nat} {E : Nat → Bool} {d : DT} {L : List O1}
theorem TInv.congr (h : TInv rs m E d) (hr : ∀ i, i < m → wsOf rs i = wsOf rs' i) : TInv rs' m E d := by
  refine ⟨h.top, fun k => by rw [h.last, lastN_congr k hr], h.lastb, fun z => ?_, fun k => ?_, fun a h1 h2 he b hb => h.closed a h1 h2 he b (dep_congr (fun i hi => (hr i hi).symm) h2 hb), h.fut, h.no, h.nw⟩
  · rw [h.opn]
    by_cases hz : 1 ≤ z ∧ z ≤ m ∧ E z.toNat = false
    · rw [if_pos hz, if_pos hz, depL_congr E hr (by omega)]
    · rw [if_neg hz, if_neg hz]
  · rw [h.wts]
    by_cases hz : k.1.1 ≤ m
    · rw [depB_congr _ hr (show k.1.1.toNat ≤ m by omega)]
    · rw [if_neg (fun x => hz x.2.1), if_neg (fun x => hz x.2.1)]
theorem RInv.congr (h : RInv rs m E L) (hr : ∀ i, i < m → wsOf rs i = wsOf rs' i) : RInv rs' m E L := by
  refine ⟨h.rise, fun o ho => ?_, fun a h1 h2 h3 => ?_⟩
  · obtain ⟨a1, a2, a3, a4, a5⟩ := h.at_ o ho
    exact ⟨a1, a2, by rw [a3]; exact hr _ (by omega), by rw [a4, depL_congr E hr a2], a5⟩
  · obtain ⟨g1, g2⟩ := h.rest a h1 h2 h3
    exact ⟨by rw [← hr _ (by omega)]; exact g1, g2⟩
/-- A table, the document's table: what both have been handed. -/
structure KInv (m : Nat) (d : DT) (L : List O1) (rs : List RTx) (E : Nat → Bool) : Prop where
  t : TInv rs m E d
  r : RInv rs m E L
  le : m ≤ 65536
  top : m = ((L.getLast?).map O1.num).getD 0
def KIn (m : Nat) (d : DT) (L : List O1) : Prop := ∃ rs E, KInv m d L rs E
theorem KIn.start : KIn 0 ⟨[], [], [], 0⟩ [] := ⟨[], fun _ => false, TInv.start _ _ (fun _ => rfl), ⟨List.Pairwise.nil, (fun o ho => by cases ho), (fun a h1 h2 _ => by omega)⟩, by omega, rfl⟩
/-- The log, with one more of a greater number. -/
def padL (rs : List RTx) (m M : Nat) (ws : List Wr) : List RTx := (List.range (M + 1)).map fun i => ⟨0, none, 0, 0, if i < m then wsOf rs i else if i = M then ws else []⟩
theorem padL_ws {rs : List RTx} {m M i : Nat} {ws : List Wr} (hi : i ≤ M) : wsOf (padL rs m M ws) i = if i < m then wsOf rs i else if i = M then ws else [] := by
  conv => lhs; unfold wsOf
  unfold padL
  rw [List.getElem?_map, List.getElem?_range (by omega)]
  rfl
theorem padL_at {rs : List RTx} {m M : Nat} {ws : List Wr} (h : m ≤ M) : (padL rs m M ws)[M]? = some ⟨0, none, 0, 0, ws⟩ := by
  unfold padL
  rw [List.getElem?_map, List.getElem?_range (by omega)]
  simp only [Option.map_some, if_neg (show ¬ M < m by omega), if_pos]
theorem skips {M : Nat} (hw : ∀ i, m ≤ i → i < M → wsOf rs i = []) : ∀ k, m + k ≤ M → ∀ E, TIG rs m E d → RInv rs m E L → ∃ E', TIG rs (m + k) E' d ∧ RInv rs (m + k) E' L
  | 0, _, E, h1, h2 => ⟨E, h1, h2⟩
  | k + 1, hk, E, h1, h2 => by
    obtain ⟨E', g1, g2⟩ := skips hw k (by omega) E h1 h2
    have hwk := hw (m + k) (by omega) (by omega)
    exact ⟨_, g1.skip hwk, g2.skip hwk⟩
theorem KIn.add (h : KIn m d L) {N : Nat} (hN : m < N) (hN2 : N ≤ 65536) (ws : List Wr) :
    KIn N ⟨putL d.last N ws ws.length, mput d.opn N (addWs d N ws ws.length).2, (addWs d N ws ws.length).1, N⟩ (L ++ [⟨N, ws, waitsO L ws, false⟩]) ∧ (addWs d N ws ws.length).2 = (waitsO L ws).length := by
  obtain ⟨rs, E, h1, h2, h3, h4⟩ := h
  obtain ⟨M, rfl⟩ : ∃ M, N = M + 1 := ⟨N - 1, by omega⟩
  have hc : ∀ i, i < m → wsOf rs i = wsOf (padL rs m M ws) i := fun i hi => by rw [padL_ws (by omega), if_pos hi]
  have t0 : TIG (padL rs m M ws) m E d := ⟨by
    have := h1.congr hc
    have ht := this.top
    have e : ({ d with top := (m : Int) } : DT) = d := by cases d; simp at ht; subst ht; rfl
    rw [e]; exact this, by have := h1.top; omega⟩
  obtain ⟨E', g1, g2⟩ := skips (M := M) (fun i a b => by rw [padL_ws (by omega), if_neg (by omega), if_neg (by omega)]) (M - m) (by omega) E t0 (h2.congr hc)
  rw [show m + (M - m) = M by omega] at g1 g2
  obtain ⟨q1, q2⟩ := g1.add (by omega) (padL_at (ws := ws) (rs := rs) (show m ≤ M by omega))
  have hwM : wsOf (padL rs m M ws) M = ws := by rw [padL_ws (Nat.le_refl _), if_neg (by omega), if_pos rfl]
  have r1 := g2.add (g1.1.fut (M + 1) (by omega))
  have r2 := g2.waits
  rw [hwM] at r1 r2
  have hcast : ((M + 1 : Nat) : Int) = (M : Int) + 1 := by omega
  rw [hcast]
  refine ⟨⟨padL rs m M ws, E', ?_, r1, hN2, by simp⟩, ?_⟩
  · have := q1.1
    simpa using this
  · rw [q2, r2]
theorem KIn.lastn (h : KIn m d L) (k : ByteArray) : (mget d.last k).getD 0 = match lastO L k with
    | some o => (o.num : Int)
    | none => 0 := by
  obtain ⟨rs, E, h1, h2, -, -⟩ := h
  rw [h1.last]
  have := h2.last k
  cases hl : lastO L k with
  | none => rw [hl] at this; simp only at this ⊢; omega
  | some o => rw [hl] at this; simp only at this ⊢; omega
theorem KIn.lastb (h : KIn m d L) : ∀ p ∈ d.last, 0 ≤ p.2 ∧ p.2 ≤ 65536 := by obtain ⟨rs, E, h1, -⟩ := h; exact h1.lastb
theorem KIn.dtop (h : KIn m d L) : d.top = m := by obtain ⟨rs, E, h1, -⟩ := h; exact h1.top
theorem KIn.m_eq (h : KIn m d L) : m = ((L.getLast?).map O1.num).getD 0 := by obtain ⟨rs, E, -, -, -, h1⟩ := h; exact h1
theorem KIn.le (h : KIn m d L) : m ≤ 65536 := by obtain ⟨rs, E, -, -, h1, -⟩ := h; exact h1
theorem KIn.rise (h : KIn m d L) : (L.map O1.num).Pairwise (· < ·) := by obtain ⟨rs, E, -, h1, -⟩ := h; exact h1.rise
theorem KIn.num (h : KIn m d L) : ∀ o ∈ L, 1 ≤ o.num ∧ o.num ≤ m ∧ o.wt.length ≤ o.num := by
  obtain ⟨rs, E, -, h1, -⟩ := h
  intro o ho
  obtain ⟨a1, a2, a3, a4, a5⟩ := h1.at_ o ho
  refine ⟨a1, a2, ?_⟩
  rw [a4]
  have := List.length_filter_le (fun b => depB rs o.num b && !E b) (List.range o.num)
  simpa [depL] using this
/-- Which one is open. -/
def openZ (L : List O1) (z : Int) : Option O1 := L.find? fun o => decide ((o.num : Int) = z) && !o.ended
theorem KIn.opn (h : KIn m d L) (z : Int) : mget d.opn z = (openZ L z).map fun o => (o.wt.length : Int) := by
  obtain ⟨rs, E, h1, h2, -, -⟩ := h
  rw [h1.opn]
  cases ho : openZ L z with
  | none =>
    rw [Option.map_none, if_neg]
    rintro ⟨z1, z2, z3⟩
    unfold openZ at ho
    rw [List.find?_eq_none] at ho
    by_cases hx : ∃ o ∈ L, o.num = z.toNat
    · obtain ⟨o, hoL, e⟩ := hx
      have := ho o hoL
      obtain ⟨a1, a2, a3, a4, a5⟩ := h2.at_ o hoL
      rw [a5, e, z3] at this
      simp at this; omega
    · have := (h2.rest z.toNat (by omega) (by omega) fun o hoL e => hx ⟨o, hoL, e⟩).2
      rw [z3] at this; cases this
  | some o =>
    unfold openZ at ho
    have hm := List.mem_of_find?_eq_some ho
    have hp := List.find?_some ho
    simp only [Bool.and_eq_true, decide_eq_true_eq, Bool.not_eq_true'] at hp
    obtain ⟨a1, a2, a3, a4, a5⟩ := h2.at_ o hm
    have hz : z.toNat = o.num := by omega
    rw [Option.map_some, hz, if_pos ⟨by omega, by omega, by rw [← a5]; exact hp.2⟩, a4]
theorem openZ_some {z : Int} {o : O1} (h : openZ L z = some o) : o ∈ L ∧ (o.num : Int) = z ∧ o.ended = false := by
  unfold openZ at h
  have hm := List.mem_of_find?_eq_some h
  have hp := List.find?_some h
  simp only [Bool.and_eq_true, decide_eq_true_eq, Bool.not_eq_true'] at hp
  exact ⟨hm, hp⟩
theorem KIn.wts (h : KIn m d L) {z : Int} {o : O1} (ho : openZ L z = some o) : sortI (waitL d.wts z) = ints o.wt ∧ (waitL d.wts z).length = o.wt.length ∧ d.wts.length ≤ 1099511627776 := by
  obtain ⟨rs, E, h1, h2, h3, -⟩ := h
  obtain ⟨hm, hz, he⟩ := openZ_some ho
  obtain ⟨a1, a2, a3, a4, a5⟩ := h2.at_ o hm
  subst hz
  refine ⟨by rw [h1.waits h3 a1 a2, a4], by rw [h1.waits_len h3 a1 a2, a4], ?_⟩
  have := h1.wts_len h3
  have h4 : (m + 1) * (m + 1) ≤ 65537 * 65537 := Nat.mul_le_mul (by omega) (by omega)
  omega
def openO (L : List O1) : List Nat := (L.filter fun o => !o.ended).map O1.num
theorem KIn.open_ (h : KIn m d L) : sortI (d.opn.map (·.1)) = ints (openO L) ∧ d.opn.length = (openO L).length ∧ ∀ p ∈ d.opn, 1 ≤ p.1 ∧ p.1 ≤ 65536 := by
  obtain ⟨rs, E, h1, h2, h3, -⟩ := h
  have e : openO L = openL m E := by
    refine rise_ext ?_ (openL_rises m E) fun a => ?_
    · unfold openO
      rw [List.pairwise_map]
      have := h2.rise
      rw [List.pairwise_map] at this
      exact this.filter _
    · rw [mem_openL]
      unfold openO
      simp only [List.mem_map, List.mem_filter, Bool.not_eq_true']
      constructor
      · rintro ⟨o, ⟨ho, he⟩, rfl⟩
        obtain ⟨a1, a2, a3, a4, a5⟩ := h2.at_ o ho
        exact ⟨a1, a2, by rw [← a5]; exact he⟩
      · rintro ⟨z1, z2, z3⟩
        by_cases hx : ∃ o ∈ L, o.num = a
        · obtain ⟨o, ho, rfl⟩ := hx
          exact ⟨o, ⟨ho, by rw [(h2.at_ o ho).2.2.2.2]; exact z3⟩, rfl⟩
        · have := (h2.rest a z1 z2 fun o ho e => hx ⟨o, ho, e⟩).2
          rw [z3] at this; cases this
  refine ⟨by rw [e]; exact h1.opn_sort, ?_, fun p hp => ?_⟩
  · have := h1.opn_perm.length_eq
    rw [List.length_map] at this
    rw [this, e]; simp [ints]
  · have := (h1.mem_opn p.1).1 (List.mem_map.2 ⟨p, hp, rfl⟩)
    omega
/-- One that waits for none ends. -/
theorem KIn.done (h : KIn m d L) {z : Int} {o : O1} (ho : openZ L z = some o) (hw : o.wt = []) :
    mget d.opn z = some 0 ∧ d.wts.length ≤ 1099511627776 ∧ (∀ a ∈ tellL d.wts z, ∃ c : Int, mget (mdel d.opn z) a = some c ∧ 1 ≤ c ∧ c ≤ 1099511627776) ∧ sortI ((tellL d.wts z).filter fun a => decide (mget (mdel d.opn z) a = some 1)) = ints (outO L o.num) ∧
    ∀ {m2 : List (Int × Int)} {m3 : List ((I64 × I64) × Bool)}, (∀ a, mget m2 a = if a ∈ tellL d.wts z then (mget (mdel d.opn z) a).map (· - 1) else mget (mdel d.opn z) a) → (∀ k, mget m3 k = if k.2.1 = z then none else mget d.wts k) → (m2.map (·.1)).Nodup → (m3.map (·.1)).Nodup → KIn m ⟨d.last, m2, m3, d.top⟩ (doneO L o.num) := by
  obtain ⟨rs, E, h1, h2, h3, h4⟩ := h
  obtain ⟨hm, hz, he⟩ := openZ_some ho
  obtain ⟨a1, a2, a3, a4, a5⟩ := h2.at_ o hm
  subst hz
  have hE : E o.num = false := by rw [← a5]; exact he
  have hd : depL rs E o.num = [] := by rw [← a4]; exact hw
  have ht : TIG rs m E d := ⟨by
    have ht := h1.top
    have e : ({ d with top := (m : Int) } : DT) = d := by cases d; simp at ht; subst ht; rfl
    rw [e]; exact h1, by have := h1.top; omega⟩
  obtain ⟨f1, f2, f3, f4⟩ := ht.free h3 a1 a2 hE hd
  have hcl : ∀ a, 1 ≤ a → a ≤ m → E a = true → depL rs E a = [] := fun a b1 b2 b3 => List.eq_nil_iff_forall_not_mem.2 fun b hb => by
    obtain ⟨hb1, hb2⟩ := mem_depL.1 hb
    have := h1.closed a b1 b2 b3 b hb1
    rw [hb2] at this; cases this
  refine ⟨f1, f2, f3, by rw [f4, h2.out hcl], fun {m2 m3} k1 k2 k3 k4 => ⟨rs, E1 E o.num, h1.done h3 a1 a2 hE hd k1 k2 k3 k4, h2.done o.num, h3, ?_⟩⟩
  rw [h4]
  unfold doneO
  rw [List.getLast?_map]
  cases L.getLast? <;> rfl
end
end Go.Proofs.YtfafhfjmoijaeaaGreatDoor

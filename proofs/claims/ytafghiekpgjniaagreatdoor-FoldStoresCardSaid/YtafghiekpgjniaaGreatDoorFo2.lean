/- XFo2: out of XFold1 XFold2 XFold3 XFold4 XFold5 XFold6 XFp XFlp XFq XFr0 XFr1 XFr2 XFr3 XPb0 XKey XFr4 XApp XFr5 XFr6 XFr7 (pick.py). -/
import Derived.Test.YtafghiekpgjniaaGreatDoorFo1
import Derived.DeepKeys4
import Derived.Laws.AppendOwnNone
namespace Go.Proofs.YtafghiekpgjniaaGreatDoor
open Go.RowKit
set_option linter.unusedVariables false
set_option linter.unusedSimpArgs false

abbrev EntsAt := RowAt Ent.cells 2
theorem len_ent (xs : List Ent) : ∀ x ∈ xs, (Ent.cells x).length = 2 := fun _ _ => rfl
theorem foldE_succ {rs : List RTx} {n : Nat} {r : RTx} (h : rs[n]? = some r) : foldE rs (n + 1) = playE (foldE rs n) r.ws := by
  unfold foldE; rw [allW_succ h]; simp [playE]
theorem playE_snoc {st : List Ent} {ws : List Wr} {k : Nat} {x : Wr} (h : ws[k]? = some x) : playE st (ws.take (k + 1)) = stepE (playE st (ws.take k)) x := by
  unfold playE; rw [List.take_add_one, h]; simp [List.foldl_append]

/-! ### where a key stands -/
/-- p is the place of a key among entries; hit: is it there? -/
def PlaceOf (st : List Ent) (k : ByteArray) (p : Nat) (hit : Bool) : Prop :=
  p ≤ st.length ∧ (∀ (i : Nat) (x : Ent), st[i]? = some x → (i < p ↔ ltB x.key k = true)) ∧ hit = (((st[p]?).map fun x => x.key.toList == k.toList).getD false)
theorem toL_eq (a b : ByteArray) : (a.toList == b.toList) = decide (a = b) := by
  rw [ByteArray.toList_eq, ByteArray.toList_eq]
  by_cases h : a = b
  · simp [h]
  · simp only [h, decide_false, beq_eq_false_iff_ne]
    exact fun e => h (kL_inj e)
theorem PlaceOf.take {st : List Ent} {k : ByteArray} {p : Nat} {hit : Bool} (h : PlaceOf st k p hit) : st.take p = st.filter fun e => ltB e.key k := by
  conv => rhs; rw [← List.take_append_drop p st]
  rw [List.filter_append, List.filter_eq_self.2, List.filter_eq_nil_iff.2, List.append_nil]
  · intro x hx
    obtain ⟨i, hi⟩ := List.getElem?_of_mem hx
    rw [List.getElem?_drop] at hi
    intro hc
    have := (h.2.1 _ x hi).2 hc
    omega
  · intro x hx
    obtain ⟨i, hi⟩ := List.getElem?_of_mem hx
    have hl := (List.getElem?_eq_some_iff.1 hi).1
    have hl := Nat.lt_min.1 (by rw [List.length_take] at hl; exact hl)
    rw [List.getElem?_take_of_lt hl.1] at hi
    exact (h.2.1 _ x hi).1 hl.1
theorem rises_lt {st : List Ent} (h : RisesE st) {i j : Nat} {x y : Ent} (hi : st[i]? = some x) (hj : st[j]? = some y) (hij : i < j) : ltB x.key y.key = true := by
  obtain ⟨h1, rfl⟩ := List.getElem?_eq_some_iff.1 hi
  obtain ⟨h2, rfl⟩ := List.getElem?_eq_some_iff.1 hj
  exact List.pairwise_iff_getElem.1 h i j h1 h2 hij
theorem PlaceOf.drop {st : List Ent} {k : ByteArray} {p : Nat} {hit : Bool} (hr : RisesE st) (h : PlaceOf st k p hit) : st.drop (p + if hit then 1 else 0) = st.filter fun e => ltB k e.key := by
  conv => rhs; rw [← List.take_append_drop (p + if hit then 1 else 0) st]
  rw [List.filter_append, List.filter_eq_nil_iff.2, List.nil_append, List.filter_eq_self.2]
  · intro x hx
    obtain ⟨i, hi⟩ := List.getElem?_of_mem hx
    rw [List.getElem?_drop] at hi
    have hn : ltB x.key k = false := by
      cases hc : ltB x.key k
      · rfl
      · have := (h.2.1 _ x hi).2 hc; omega
    rcases ltB_or x.key k with h1 | h1 | h1
    · rw [hn] at h1; cases h1
    · exfalso
      have hpl : p < st.length := by have := (List.getElem?_eq_some_iff.1 hi).1; omega
      have hp : st[p]? = some st[p] := List.getElem?_eq_getElem hpl
      have hh := h.2.2
      rw [hp] at hh
      simp only [Option.map_some, Option.getD_some, toL_eq] at hh
      by_cases hip : p < p + (if hit then 1 else 0) + i
      · have h2 := rises_lt hr hp hi hip
        rw [h1] at h2
        have := (h.2.1 p _ hp).2 h2
        omega
      · have e0 : (p + (if hit then 1 else 0) + i) = p := by omega
        rw [e0, hp] at hi
        injection hi with hi
        rw [hi, h1] at hh
        simp only [decide_true] at hh
        rw [hh] at e0; simp only [if_true] at e0; omega
    · exact h1
  · intro x hx hc
    obtain ⟨i, hi⟩ := List.getElem?_of_mem hx
    have hl := (List.getElem?_eq_some_iff.1 hi).1
    have hl := Nat.lt_min.1 (by rw [List.length_take] at hl; exact hl)
    rw [List.getElem?_take_of_lt hl.1] at hi
    by_cases hip : i < p
    · have := (h.2.1 _ x hi).1 hip
      rw [ltB_asymm this] at hc; cases hc
    · have hih : hit = true := by cases hit <;> simp_all <;> omega
      have e0 : i = p := by have := hl.1; rw [hih] at this; simp at this; omega
      subst e0
      have hh := h.2.2
      rw [hi, hih] at hh
      simp only [Option.map_some, Option.getD_some, toL_eq] at hh
      have := of_decide_eq_true hh.symm
      rw [this, ltB_irr] at hc; cases hc
/-- What a write makes of the entries, by the place. -/
theorem PlaceOf.write {st : List Ent} {x : Wr} {p : Nat} {hit : Bool} (hr : RisesE st) (h : PlaceOf st x.key p hit) :
    st.take p ++ (if x.drop then [] else [⟨x.key, x.val⟩]) ++ st.drop (p + if hit then 1 else 0) = stepE st x := by
  rw [h.take, h.drop hr]; rfl
section
open Go.Maps
abbrev I64 := {n : Int // (Lit.int .i64 n).wf = true}
def i64 (n : Int) (h : -9223372036854775808 ≤ n ∧ n ≤ 9223372036854775807) : I64 := ⟨n, WalkArith.wf_i64 h⟩
end
theorem flat_idx {α : Type} {cells : α → List Value} {size : Nat} : ∀ (xs : List α) (hs : ∀ x ∈ xs, (cells x).length = size) (j : Nat) (u : Value), (xs.flatMap cells)[j]? = some u → ∃ i x r, xs[i]? = some x ∧ (cells x)[r]? = some u ∧ j = i * size + r
  | [], _, _, _, h => by simp at h
  | y :: r, hs, j, u, h => by
    have hy := hs y (by simp)
    rw [List.flatMap_cons] at h
    by_cases hj : j < size
    · rw [List.getElem?_append_left (by omega)] at h
      exact ⟨0, y, j, rfl, h, by omega⟩
    · rw [List.getElem?_append_right (by omega), hy] at h
      obtain ⟨i, x, q, h1, h2, h3⟩ := flat_idx r (fun z hz => hs z (by simp [hz])) _ u h
      exact ⟨i + 1, x, q, by simpa using h1, h2, by rw [Nat.add_mul]; omega⟩
theorem grownBy_refl (w : World) (row : Option Nat) : w.grownBy w row := ⟨rfl, rfl, rfl, Nat.le_refl _, fun _ _ _ => rfl⟩
theorem below_grown_own {w w' : World} {v : Value} {base n size : Nat} {e : TypeId} {xs : List Value} (h : w.ownsRow base e size v n xs) (hg : w.grownBy w' v.ownBlock) (hb : base ≤ w.heap.size) : Below base w w' :=
  (Below.refl _ _).grown hg hb (fun k hk => (h.lt k hk).1)
theorem wpList_append_row {α : Type} {cells : α → List Value} {P : Program} {w : World} {ops : Array Oper} {rest : List Oper} {o : Oper} {a : Act} {Q : Exit → Act → World → Prop} (hgd : o.guard = none) (s x : Operand) (t : TypeId)
    (ho : o.op = .call { callee := .builtin .append, args := #[s, x], argTypes := #[t, t] })
    (base : Nat) (e : TypeId) (i : TypeInfo) (z : Value) (size bytes : Nat) (ht : P.underlying t = some (.slice e)) (hi : P.info? e = some i) (hz : i.zero = some z)
    (hsize : i.size = size) (hby : i.bytes = bytes) (hzs : z.cells.size = size) (hsz : 0 < size)
    (v : Value) (n : Nat) (xs : List Value) (hs : a.eval s = v) (hown : w.ownsRow base e size v n xs)
    (Ax : Option Addr) (m c B : Nat) (ys : List α) (hx : a.eval x = .slice Ax m c) (hrow : RowAt cells size w B Ax m ys) (hnil : Ax = none → c = 0) (hys : ∀ y ∈ ys, (cells y).length = size) (h1 : ∀ y, ∀ u ∈ cells y, u.oneCell' = true)
    (h63 : n + m ≤ maxLen) (hbytes : (n + m) * bytes ≤ 140737488355328) (hbase : base ≤ w.heap.size)
    (h : ∀ v' w', w'.ownsRow base e size v' (n + m) (xs ++ ys.flatMap cells) → w.grownBy w' v.ownBlock → wpList P ops Q rest (a.put o.dst v') w') : wpList P ops Q (o :: rest) a w := by
  cases Ax with
  | none =>
    have hm : m = 0 := by
      rcases Nat.eq_zero_or_pos m with h0 | h0
      · exact h0
      · obtain ⟨b, off, hh, -⟩ := hrow.2 h0; cases hh
    subst hm
    have hc := hnil rfl
    subst hc
    have hy : ys = [] := List.eq_nil_of_length_eq_zero hrow.1
    subst hy
    exact wpList_append_own_none hgd s x t ho base e i size ht hi v n xs hs hown hx (h v w (by simpa using hown) (grownBy_refl _ _))
  | some ad =>
    refine wpList_append_own w hgd s x t ho base e i z size bytes ht hi hz hsize hby hzs hsz v n xs hs hown ad m c (ys.flatMap cells) hx (by rw [flat_len ys hys, hrow.1]) (fun j u hu => ?_) (fun u hu => ?_) h63 hbytes hbase (fun v' w' h2 h3 _ => h v' w' h2 h3)
    · obtain ⟨q, y, r, hq, hr, hj⟩ := flat_idx ys hys j u hu
      have hm : 0 < m := by
        have := (List.getElem?_eq_some_iff.1 hq).1
        have := hrow.1
        omega
      obtain ⟨b, off, he, -, hc⟩ := hrow.2 hm
      injection he with he
      subst he
      rw [Addr.add_lit, hj, ← Nat.add_assoc]
      exact hc q y hq r u hr
    · obtain ⟨y, -, hu2⟩ := List.mem_flatMap.1 hu
      exact h1 y u hu2
section
open Go.Maps
def PlacePost (w : World) (st : List Ent) (k : ByteArray) (e : Ending) (w' : World) : Prop := ∃ (p : Nat) (hit : Bool), e = .returned (.tuple #[.int .i64 p, .bool hit]) ∧ PlaceOf st k p hit ∧ Below w.heap.size w w'
theorem ent_cell2 {w : World} {B n i : Nat} {A : Option Addr} {st : List Ent} (h : EntsAt w B A n st) (hi : i < n) :
    ∃ b off x, A = some ⟨b, off, none⟩ ∧ b < B ∧ st[i]? = some x ∧ w.cell? ⟨b, off + i * 2, none⟩ = some (.string x.key) ∧ w.cell? ⟨b, off + i * 2 + 1, none⟩ = some (.string x.val) := by
  obtain ⟨b, off, x, e, hb, hx, hc⟩ := h.at_ hi
  exact ⟨b, off, x, e, hb, hx, hc 0 _ rfl, hc 1 _ rfl⟩
theorem rises_mono {st : List Ent} {k : ByteArray} (hr : RisesE st) {i j : Nat} {x y : Ent} (hi : st[i]? = some x) (hj : st[j]? = some y) (hij : i ≤ j) (h : ltB y.key k = true) : ltB x.key k = true := by
  rcases Nat.lt_or_eq_of_le hij with h1 | h1
  · exact ltB_trans (rises_lt hr hi hj h1) h
  · subst h1; rw [hi] at hj; injection hj with e; rw [e]; exact h
set_option maxHeartbeats 1000000 in
theorem rplace_any (A : Option Addr) (len cap : Nat) (st : List Ent) (k : ByteArray) (w : World) (hw : EntsAt w w.heap.size A len st) (hl : len ≤ 4398046511104) (hr : RisesE st) :
    Calls Tryz.prog 204 #[.slice A len cap, .string k] w (PlacePost w st k) := by
  have hlen := Lib.hid hw.len
  have Hr := Lib.hid hr
  clear hr
  go_enter Tryz.func204, Tryz.ntmps204
  go_wp2_with fail
  go_loop [6, 7] (fun a b => ∃ lo hi : Nat, lo ≤ hi ∧ hi ≤ len ∧ a = .int .i64 lo ∧ b = .int .i64 hi ∧ Hid (∀ (i : Nat) (x : Ent), st[i]? = some x → i < lo → ltB x.key k = true) ∧ Hid (∀ (i : Nat) (x : Ent), st[i]? = some x → hi ≤ i → ltB x.key k = false)) (fun a b => (RowKit.intOf b).toNat - (RowKit.intOf a).toNat)
  case atStart => exact ⟨0, len, by omega, Nat.le_refl _, rfl, rfl, Lib.hid (fun i x _ h => by omega), Lib.hid (fun i x h1 h2 => by have := (List.getElem?_eq_some_iff.1 h1).1; have := hlen.out; omega)⟩
  case round =>
    obtain ⟨lo, hi, h1, h2, rfl, rfl, Hlo, Hhi⟩ := hrel
    by_cases hlt : lo < hi
    · obtain ⟨b, off, x, rfl, hbl, hx, x0, x1⟩ := ent_cell2 hw (show (lo + hi) / 2 < len by omega)
      have Hx := Lib.hid hx
      clear hx
      cases hc : ltB x.key k
      · have hc2 : Op.bytesLess x.key.toList k.toList = false := by rw [less_eq, hc]
        have Hc := Lib.hid hc
        clear hc
        go_wp2_with fail
        refine ⟨⟨lo, (lo + hi) / 2, by omega, by omega, rfl, by congr 1, Hlo, Lib.hid (fun i y hy hi2 => ?_)⟩, by simp [RowKit.intOf]; omega⟩
        cases hcy : ltB y.key k
        · rfl
        · rw [rises_mono Hr.out Hx.out hy hi2 hcy] at Hc
          exact absurd Hc.out (by simp)
      · have hc2 : Op.bytesLess x.key.toList k.toList = true := by rw [less_eq, hc]
        have Hc := Lib.hid hc
        clear hc
        go_wp2_with fail
        exact ⟨⟨(lo + hi) / 2 + 1, hi, by omega, by omega, by congr 1, rfl, Lib.hid (fun i y hy hi2 => rises_mono Hr.out hy Hx.out (by omega) Hc.out), Hhi⟩, by simp [RowKit.intOf]; omega⟩
    · obtain rfl : lo = hi := by omega
      by_cases hll : lo < len
      · obtain ⟨b, off, x, rfl, hbl, hx, x0, x1⟩ := ent_cell2 hw hll
        have hpl : PlaceOf st k lo (x.key.toList == k.toList) := ⟨by have := hlen.out; omega, fun i y hy => ⟨fun hi => Hlo.out i y hy hi, fun h => Classical.byContradiction fun hc => by rw [Hhi.out i y hy (by omega)] at h; cases h⟩, by rw [hx]; rfl⟩
        have Hpl := Lib.hid hpl
        clear hx hpl
        go_wp2_with fail
        go_quiet (fail)
        go_wp2_with fail
        go_ret2
        exact ⟨lo, _, rfl, Hpl.out, below_drewN (Below.refl _ _) _⟩
      · have hpl : PlaceOf st k lo false := ⟨by have := hlen.out; omega, fun i y hy => ⟨fun hi => Hlo.out i y hy hi, fun h => Classical.byContradiction fun hc => by rw [Hhi.out i y hy (by omega)] at h; cases h⟩, by rw [List.getElem?_eq_none (by have := hlen.out; omega)]; rfl⟩
        have Hpl := Lib.hid hpl
        have hdl : decide (lo < len) = false := by rw [decide_eq_false_iff_not]; exact hll
        clear hpl
        go_wp2_with fail
        go_quiet (fail)
        go_wp2_with fail
        go_ret2
        exact ⟨lo, _, rfl, Hpl.out, below_drewN (Below.refl _ _) _⟩
def WritePost (w : World) (st : List Ent) (e : Ending) (w' : World) : Prop := ∃ v, e = .returned v ∧ EntsOwn w' w.heap.size v st ∧ Below w.heap.size w w'
set_option maxHeartbeats 2000000 in
set_option maxRecDepth 8000 in
theorem rwrite_any (A : Option Addr) (len cap : Nat) (st : List Ent) (x : Wr) (w : World) (hw : EntsAt w w.heap.size A len st) (hl : len ≤ 2199023255552) (hc : len ≤ cap) (hn : A = none → cap = 0) (hr : RisesE st) :
    Calls Tryz.prog 137 #[.slice A len cap, .agg #[.string x.key, .string x.val, .bool x.drop]] w (WritePost w (stepE st x)) := by
  have hlen := Lib.hid hw.len
  have Hr := Lib.hid hr
  have Hn := Lib.hid hn
  have hw2 : ∀ o, EntsAt (w.alloc o) (w.alloc o).heap.size A len st := fun o => (hw.below ((Below.refl _ _).alloc (Nat.le_refl _) _)).more (by simp)
  have Hw2 := Lib.hid hw2
  have hnil : ∀ (X : World) (B : Nat), X.ownsRow B 116 2 (.slice none 0 0) 0 [] := fun X B => ⟨rfl, Or.inl ⟨rfl, rfl⟩⟩
  have Hnil := Lib.hid hnil
  obtain ⟨i0, hi, hz0, hz1, hz2⟩ := info_parts info_ent
  obtain ⟨xk, xv, xd⟩ := x
  clear hr hw2 hn hnil
  cases xd
  · go_enter Tryz.func137, Tryz.ntmps137
    go_wp2_with fail
    refine (rplace_any A len cap st xk _ (Hw2.out _) (by omega) Hr.out).mono ?_
    rintro e w1 ⟨p, hit, rfl, hp, hb1⟩
    have hpl : p ≤ len := by have := hp.1; have := hlen.out; omega
    have hph : hit = true → p + 1 ≤ len := fun h => by
      have h2 := hp.2.2
      rw [h] at h2
      cases hg : st[p]? with
      | none => rw [hg] at h2; cases h2
      | some y => have := (List.getElem?_eq_some_iff.1 hg).1; have := hlen.out; omega
    have c0 : w1.cell? ⟨w.heap.size, 0, none⟩ = some (.string xk) := cell_box (hb1.mono (by simp)) 0 rfl
    have c1 : w1.cell? ⟨w.heap.size, 1, none⟩ = some (.string xv) := cell_box (hb1.mono (by simp)) 1 rfl
    have c2 : w1.cell? ⟨w.heap.size, 2, none⟩ = some (.bool false) := cell_box (hb1.mono (by simp)) 2 rfl
    have hs1 : w.heap.size < w1.heap.size := size_box (hb1.mono (by simp))
    have hbw1 := below_box (hb1.mono (by simp))
    have hrow := hw.below hbw1
    have hsrc := hrow.take_ hpl
    have Hbw1 := Lib.hid hbw1
    have Hp := Lib.hid hp
    have Hsrc := Lib.hid hsrc
    have Hph := Lib.hid hph
    clear hp hb1 hbw1 hsrc hrow hph
    cases hit
    · have hq : p ≤ len := by omega
      have hfin := Hp.out.write (x := ⟨xk, xv, false⟩) Hr.out
      have Hfin := Lib.hid hfin
      have hnn : (if cap = p then A else A.map (·.add (p * 2))) = none → cap - p = 0 := fun h => by
        split at h
        · omega
        · cases A with
          | none => have := Hn.out rfl; omega
          | some a => cases h
      have Hnn := Lib.hid hnn
      clear hfin hnn
      go_wp2_with (first | (at_builtin; refine wpList_append_row (cells := Ent.cells) rfl (.tmp 15) (.tmp 18) 26 rfl w1.heap.size 116 i0 _ 2 32 Tryz.underlying26 hi hz0 hz1 hz2 rfl (by decide) (.slice none 0 0) 0 [] rfl (Hnil.out _ _) A p cap w.heap.size (st.take p) rfl Hsrc.out Hn.out (len_ent _) one_ent (by simp only [maxLen]; omega) (by omega) (by omega) ?_; intro v1 w2 hown1 hg1; have hb2 := below_grown_own (Hnil.out w1 w1.heap.size) hg1 (Nat.le_refl _); have hs2 := hb2.size; have d0 := (hb2.cell (p := ⟨w.heap.size, 0, none⟩) hs1).trans c0; have d1 := (hb2.cell (p := ⟨w.heap.size, 1, none⟩) hs1).trans c1; have d2 := (hb2.cell (p := ⟨w.heap.size, 2, none⟩) hs1).trans c2; have Hb2 := Lib.hid hb2; have Hown1 := Lib.hid hown1; clear hb2 hown1 hg1) | (at_builtin; refine wpList_append_own _ rfl (.tmp 23) (.tmp 29) 26 rfl w1.heap.size 116 i0 _ 2 32 Tryz.underlying26 hi hz0 hz1 hz2 rfl (by decide) v1 (0 + p) ([] ++ (st.take p).flatMap Ent.cells) rfl (Hown1.out.alloc _) ⟨w2.heap.size, 0, none⟩ 1 1 (Ent.cells ⟨xk, xv⟩) rfl rfl (cells_new _ _ _) (one_ent _) (by simp only [maxLen]; omega) (by omega) (by simp; omega) ?_; intro v2 w3 hown2 hg2 _; have hb3 := Hb2.out.trans (below_grown_new Hown1.out hg2 (by omega)); have hs3 := hb3.size; have Hb3 := Lib.hid hb3; have Hown2 := Lib.hid hown2; clear hb3 hown2 hg2) | (at_builtin; refine wpList_append_row (cells := Ent.cells) rfl (.tmp 34) (.tmp 37) 26 rfl w1.heap.size 116 i0 _ 2 32 Tryz.underlying26 hi hz0 hz1 hz2 rfl (by decide) v2 (0 + p + 1) ([] ++ (st.take p).flatMap Ent.cells ++ Ent.cells ⟨xk, xv⟩) rfl Hown2.out _ (len - p) _ w.heap.size (st.drop (p)) rfl ((hw.below (Hbw1.out.trans (Hb3.out.mono (by omega)))).cut (by omega) hc) (Hnn.out) (len_ent _) one_ent (by simp only [maxLen]; omega) (by omega) (by omega) ?_; intro v4 w4 hown4 hg4; have hb4 := Hb3.out.trans (below_grown_own Hown2.out hg4 (by omega)); have Hb4 := Lib.hid hb4; have Hown4 := Lib.hid hown4; clear hb4 hown4 hg4))
      all_goals
        go_ret
        refine ⟨v4, rfl, ?_, Hbw1.out.trans (Hb4.out.mono (by omega))⟩
        rw [← Hfin.out]
        have h4 := ownsRow_base_a Hown4.out (show w.heap.size ≤ w1.heap.size by omega)
        have hl : ((st.take p ++ [(⟨xk, xv⟩ : Ent)] ++ st.drop p).length : Nat) = 0 + p + 1 + (len - p) := by simp only [List.length_append, List.length_take, List.length_drop, List.length_cons, List.length_nil, hlen.out]; omega
        unfold EntsOwn
        simp only [if_true, Nat.add_zero, Bool.false_eq_true, if_false]
        rw [hl]
        simp only [List.append_nil, List.flatMap_append, List.flatMap_cons, List.flatMap_nil, List.nil_append, Nat.zero_add] at h4 ⊢
        exact h4
    · have hq : (p + 1) ≤ len := Hph.out rfl
      have hfin := Hp.out.write (x := ⟨xk, xv, false⟩) Hr.out
      have Hfin := Lib.hid hfin
      have hnn : (if cap = (p + 1) then A else A.map (·.add ((p + 1) * 2))) = none → cap - (p + 1) = 0 := fun h => by
        split at h
        · omega
        · cases A with
          | none => have := Hn.out rfl; omega
          | some a => cases h
      have Hnn := Lib.hid hnn
      clear hfin hnn
      go_wp2_with (first | (at_builtin; refine wpList_append_row (cells := Ent.cells) rfl (.tmp 15) (.tmp 18) 26 rfl w1.heap.size 116 i0 _ 2 32 Tryz.underlying26 hi hz0 hz1 hz2 rfl (by decide) (.slice none 0 0) 0 [] rfl (Hnil.out _ _) A p cap w.heap.size (st.take p) rfl Hsrc.out Hn.out (len_ent _) one_ent (by simp only [maxLen]; omega) (by omega) (by omega) ?_; intro v1 w2 hown1 hg1; have hb2 := below_grown_own (Hnil.out w1 w1.heap.size) hg1 (Nat.le_refl _); have hs2 := hb2.size; have d0 := (hb2.cell (p := ⟨w.heap.size, 0, none⟩) hs1).trans c0; have d1 := (hb2.cell (p := ⟨w.heap.size, 1, none⟩) hs1).trans c1; have d2 := (hb2.cell (p := ⟨w.heap.size, 2, none⟩) hs1).trans c2; have Hb2 := Lib.hid hb2; have Hown1 := Lib.hid hown1; clear hb2 hown1 hg1) | (at_builtin; refine wpList_append_own _ rfl (.tmp 23) (.tmp 29) 26 rfl w1.heap.size 116 i0 _ 2 32 Tryz.underlying26 hi hz0 hz1 hz2 rfl (by decide) v1 (0 + p) ([] ++ (st.take p).flatMap Ent.cells) rfl (Hown1.out.alloc _) ⟨w2.heap.size, 0, none⟩ 1 1 (Ent.cells ⟨xk, xv⟩) rfl rfl (cells_new _ _ _) (one_ent _) (by simp only [maxLen]; omega) (by omega) (by simp; omega) ?_; intro v2 w3 hown2 hg2 _; have hb3 := Hb2.out.trans (below_grown_new Hown1.out hg2 (by omega)); have hs3 := hb3.size; have Hb3 := Lib.hid hb3; have Hown2 := Lib.hid hown2; clear hb3 hown2 hg2) | (at_builtin; refine wpList_append_row (cells := Ent.cells) rfl (.tmp 34) (.tmp 37) 26 rfl w1.heap.size 116 i0 _ 2 32 Tryz.underlying26 hi hz0 hz1 hz2 rfl (by decide) v2 (0 + p + 1) ([] ++ (st.take p).flatMap Ent.cells ++ Ent.cells ⟨xk, xv⟩) rfl Hown2.out _ (len - (p + 1)) _ w.heap.size (st.drop ((p + 1))) rfl ((hw.below (Hbw1.out.trans (Hb3.out.mono (by omega)))).cut (by omega) hc) (Hnn.out) (len_ent _) one_ent (by simp only [maxLen]; omega) (by omega) (by omega) ?_; intro v4 w4 hown4 hg4; have hb4 := Hb3.out.trans (below_grown_own Hown2.out hg4 (by omega)); have Hb4 := Lib.hid hb4; have Hown4 := Lib.hid hown4; clear hb4 hown4 hg4))
      all_goals
        go_ret
        refine ⟨v4, rfl, ?_, Hbw1.out.trans (Hb4.out.mono (by omega))⟩
        rw [← Hfin.out]
        have h4 := ownsRow_base_a Hown4.out (show w.heap.size ≤ w1.heap.size by omega)
        have hl : ((st.take p ++ [(⟨xk, xv⟩ : Ent)] ++ st.drop (p + 1)).length : Nat) = 0 + p + 1 + (len - (p + 1)) := by simp only [List.length_append, List.length_take, List.length_drop, List.length_cons, List.length_nil, hlen.out]; omega
        unfold EntsOwn
        simp only [if_true, Nat.add_zero, Bool.false_eq_true, if_false]
        rw [hl]
        simp only [List.append_nil, List.flatMap_append, List.flatMap_cons, List.flatMap_nil, List.nil_append, Nat.zero_add] at h4 ⊢
        exact h4
  · go_enter Tryz.func137, Tryz.ntmps137
    go_wp2_with fail
    refine (rplace_any A len cap st xk _ (Hw2.out _) (by omega) Hr.out).mono ?_
    rintro e w1 ⟨p, hit, rfl, hp, hb1⟩
    have hpl : p ≤ len := by have := hp.1; have := hlen.out; omega
    have hph : hit = true → p + 1 ≤ len := fun h => by
      have h2 := hp.2.2
      rw [h] at h2
      cases hg : st[p]? with
      | none => rw [hg] at h2; cases h2
      | some y => have := (List.getElem?_eq_some_iff.1 hg).1; have := hlen.out; omega
    have c0 : w1.cell? ⟨w.heap.size, 0, none⟩ = some (.string xk) := cell_box (hb1.mono (by simp)) 0 rfl
    have c1 : w1.cell? ⟨w.heap.size, 1, none⟩ = some (.string xv) := cell_box (hb1.mono (by simp)) 1 rfl
    have c2 : w1.cell? ⟨w.heap.size, 2, none⟩ = some (.bool true) := cell_box (hb1.mono (by simp)) 2 rfl
    have hs1 : w.heap.size < w1.heap.size := size_box (hb1.mono (by simp))
    have hbw1 := below_box (hb1.mono (by simp))
    have hrow := hw.below hbw1
    have hsrc := hrow.take_ hpl
    have Hbw1 := Lib.hid hbw1
    have Hp := Lib.hid hp
    have Hsrc := Lib.hid hsrc
    have Hph := Lib.hid hph
    clear hp hb1 hbw1 hsrc hrow hph
    cases hit
    · have hq : p ≤ len := by omega
      have hfin := Hp.out.write (x := ⟨xk, xv, true⟩) Hr.out
      have Hfin := Lib.hid hfin
      have hnn : (if cap = p then A else A.map (·.add (p * 2))) = none → cap - p = 0 := fun h => by
        split at h
        · omega
        · cases A with
          | none => have := Hn.out rfl; omega
          | some a => cases h
      have Hnn := Lib.hid hnn
      clear hfin hnn
      go_wp2_with (first | (at_builtin; refine wpList_append_row (cells := Ent.cells) rfl (.tmp 15) (.tmp 18) 26 rfl w1.heap.size 116 i0 _ 2 32 Tryz.underlying26 hi hz0 hz1 hz2 rfl (by decide) (.slice none 0 0) 0 [] rfl (Hnil.out _ _) A p cap w.heap.size (st.take p) rfl Hsrc.out Hn.out (len_ent _) one_ent (by simp only [maxLen]; omega) (by omega) (by omega) ?_; intro v1 w2 hown1 hg1; have hb2 := below_grown_own (Hnil.out w1 w1.heap.size) hg1 (Nat.le_refl _); have hs2 := hb2.size; have d0 := (hb2.cell (p := ⟨w.heap.size, 0, none⟩) hs1).trans c0; have d1 := (hb2.cell (p := ⟨w.heap.size, 1, none⟩) hs1).trans c1; have d2 := (hb2.cell (p := ⟨w.heap.size, 2, none⟩) hs1).trans c2; have Hb2 := Lib.hid hb2; have Hown1 := Lib.hid hown1; clear hb2 hown1 hg1) | (at_builtin; refine wpList_append_row (cells := Ent.cells) rfl (.tmp 34) (.tmp 37) 26 rfl w1.heap.size 116 i0 _ 2 32 Tryz.underlying26 hi hz0 hz1 hz2 rfl (by decide) v1 (0 + p) ([] ++ (st.take p).flatMap Ent.cells) rfl Hown1.out _ (len - p) _ w.heap.size (st.drop (p)) rfl ((hw.below (Hbw1.out.trans (Hb2.out.mono (by omega)))).cut (by omega) hc) (Hnn.out) (len_ent _) one_ent (by simp only [maxLen]; omega) (by omega) (by omega) ?_; intro v4 w4 hown4 hg4; have hb4 := Hb2.out.trans (below_grown_own Hown1.out hg4 (by omega)); have Hb4 := Lib.hid hb4; have Hown4 := Lib.hid hown4; clear hb4 hown4 hg4))
      all_goals
        go_ret
        refine ⟨v4, rfl, ?_, Hbw1.out.trans (Hb4.out.mono (by omega))⟩
        rw [← Hfin.out]
        have h4 := ownsRow_base_a Hown4.out (show w.heap.size ≤ w1.heap.size by omega)
        have hl : ((st.take p ++ ([] : List Ent) ++ st.drop p).length : Nat) = 0 + p + (len - p) := by simp only [List.length_append, List.length_take, List.length_drop, List.length_cons, List.length_nil, hlen.out]; omega
        unfold EntsOwn
        simp only [if_true, Nat.add_zero, Bool.false_eq_true, if_false]
        rw [hl]
        simp only [List.append_nil, List.flatMap_append, List.flatMap_cons, List.flatMap_nil, List.nil_append, Nat.zero_add] at h4 ⊢
        exact h4
    · have hq : (p + 1) ≤ len := Hph.out rfl
      have hfin := Hp.out.write (x := ⟨xk, xv, true⟩) Hr.out
      have Hfin := Lib.hid hfin
      have hnn : (if cap = (p + 1) then A else A.map (·.add ((p + 1) * 2))) = none → cap - (p + 1) = 0 := fun h => by
        split at h
        · omega
        · cases A with
          | none => have := Hn.out rfl; omega
          | some a => cases h
      have Hnn := Lib.hid hnn
      clear hfin hnn
      go_wp2_with (first | (at_builtin; refine wpList_append_row (cells := Ent.cells) rfl (.tmp 15) (.tmp 18) 26 rfl w1.heap.size 116 i0 _ 2 32 Tryz.underlying26 hi hz0 hz1 hz2 rfl (by decide) (.slice none 0 0) 0 [] rfl (Hnil.out _ _) A p cap w.heap.size (st.take p) rfl Hsrc.out Hn.out (len_ent _) one_ent (by simp only [maxLen]; omega) (by omega) (by omega) ?_; intro v1 w2 hown1 hg1; have hb2 := below_grown_own (Hnil.out w1 w1.heap.size) hg1 (Nat.le_refl _); have hs2 := hb2.size; have d0 := (hb2.cell (p := ⟨w.heap.size, 0, none⟩) hs1).trans c0; have d1 := (hb2.cell (p := ⟨w.heap.size, 1, none⟩) hs1).trans c1; have d2 := (hb2.cell (p := ⟨w.heap.size, 2, none⟩) hs1).trans c2; have Hb2 := Lib.hid hb2; have Hown1 := Lib.hid hown1; clear hb2 hown1 hg1) | (at_builtin; refine wpList_append_row (cells := Ent.cells) rfl (.tmp 34) (.tmp 37) 26 rfl w1.heap.size 116 i0 _ 2 32 Tryz.underlying26 hi hz0 hz1 hz2 rfl (by decide) v1 (0 + p) ([] ++ (st.take p).flatMap Ent.cells) rfl Hown1.out _ (len - (p + 1)) _ w.heap.size (st.drop ((p + 1))) rfl ((hw.below (Hbw1.out.trans (Hb2.out.mono (by omega)))).cut (by omega) hc) (Hnn.out) (len_ent _) one_ent (by simp only [maxLen]; omega) (by omega) (by omega) ?_; intro v4 w4 hown4 hg4; have hb4 := Hb2.out.trans (below_grown_own Hown1.out hg4 (by omega)); have Hb4 := Lib.hid hb4; have Hown4 := Lib.hid hown4; clear hb4 hown4 hg4))
      all_goals
        go_ret
        refine ⟨v4, rfl, ?_, Hbw1.out.trans (Hb4.out.mono (by omega))⟩
        rw [← Hfin.out]
        have h4 := ownsRow_base_a Hown4.out (show w.heap.size ≤ w1.heap.size by omega)
        have hl : ((st.take p ++ ([] : List Ent) ++ st.drop (p + 1)).length : Nat) = 0 + p + (len - (p + 1)) := by simp only [List.length_append, List.length_take, List.length_drop, List.length_cons, List.length_nil, hlen.out]; omega
        unfold EntsOwn
        simp only [if_true, Nat.add_zero, Bool.false_eq_true, if_false]
        rw [hl]
        simp only [List.append_nil, List.flatMap_append, List.flatMap_cons, List.flatMap_nil, List.nil_append, Nat.zero_add] at h4 ⊢
        exact h4
theorem filter_two {α : Type} (p q : α → Bool) (h : ∀ x, p x = true → q x = true → False) (l : List α) : (l.filter p).length + (l.filter q).length ≤ l.length := by
  induction l with
  | nil => simp
  | cons x r ih =>
    cases hp : p x <;> cases hq : q x
    · simp [hp, hq]; omega
    · simp [hp, hq]; omega
    · simp [hp, hq]; omega
    · exact absurd hq (fun hq => h x hp hq)
theorem len_stepE (st : List Ent) (x : Wr) : (stepE st x).length ≤ st.length + 1 := by
  have := filter_two (fun e : Ent => ltB e.key x.key) (fun e => ltB x.key e.key) (fun e h1 h2 => by rw [ltB_asymm h1] at h2; cases h2) st
  unfold stepE
  rw [List.length_append, List.length_append]
  split <;> simp <;> omega
theorem len_playE (st : List Ent) (ws : List Wr) : (playE st ws).length ≤ st.length + ws.length := by
  induction ws generalizing st with
  | nil => simp [playE]
  | cons x r ih => have h1 := ih (stepE st x); have h2 := len_stepE st x; rw [show playE st (x :: r) = playE (stepE st x) r from rfl, List.length_cons]; omega
theorem rises_play {st : List Ent} (h : RisesE st) (ws : List Wr) : RisesE (playE st ws) := by
  induction ws generalizing st with
  | nil => exact h
  | cons x r ih => exact ih (rises_step h x)
theorem EntsOwn.row {w : World} {base : Nat} {v : Value} {xs : List Ent} (h : EntsOwn w base v xs) : ∃ A cap, v = .slice A xs.length cap ∧ EntsAt w w.heap.size A xs.length xs ∧ (A = none → cap = 0) ∧ xs.length ≤ cap := by
  obtain ⟨A, cap, h1, h2, h3, h4⟩ := rowAt_own (len_ent _) h
  exact ⟨A, cap, h1, h2, fun e => (h3 e).2, h4⟩
theorem EntsOwn.below {w w' : World} {base : Nat} {v : Value} {xs : List Ent} (h : EntsOwn w base v xs) (hb : Below w.heap.size w w') : EntsOwn w' base v xs := ownsRow_below h hb
set_option maxHeartbeats 2000000 in
set_option maxRecDepth 8000 in
theorem rfold_any (A : Option Addr) (len cap : Nat) (rs : List RTx) (n : Nat) (w : World) (hw : TxsAt w w.heap.size A len rs) (hl : len ≤ 4398046511104) (he : logErr rs 1 = 0) (hn : n ≤ len) :
    Calls Tryz.prog 46 #[.slice A len cap, .int .i64 n] w (WritePost w (foldE rs n)) := by
  have hlen := Lib.hid hw.1.len
  have He := Lib.hid he
  clear he
  go_enter Tryz.func46, Tryz.ntmps46
  go_wp2_with fail
  go_loopw [5, 6] (fun v i wr => ∃ t : Nat, t ≤ n ∧ i = .int .i64 t ∧ EntsOwn wr w.heap.size v (foldE rs t) ∧ Below w.heap.size w wr) (fun _ i _ => n - (RowKit.intOf i).toNat)
  case atStart => exact ⟨0, by omega, rfl, EntsOwn.nil _ _, Below.refl _ _⟩
  case round =>
    obtain ⟨t, ht, rfl, how, hb⟩ := hrel
    have hr := hw.below hb
    have How := Lib.hid how
    have Hb := Lib.hid hb
    clear how hb
    by_cases hlt : t < n
    · obtain ⟨bb, off, r, rfl, hbl2, hx, x0, x1, hws, hrl⟩ := hr.cell2 (show t < len by omega)
      have hr32 : r.ws.length ≤ 32 ∧ r.ws.length = r.len := by
        have h1 := (logErr_ok He.out hx).1
        simp only [txB, Bool.and_eq_true, decide_eq_true_eq] at h1
        exact ⟨h1.1.2, hws.len⟩
      have hfl : (foldE rs t).length ≤ 2097152 := len_foldE_le He.out (by have := hlen.out; omega)
      have Hr32 := Lib.hid hr32
      have Hx := Lib.hid hx
      clear hx hr hws hr32
      go_wp2_with fail
      go_loopw [5, 7] (fun v q wi => ∃ qn : Nat, qn ≤ r.len ∧ q = .int .i64 qn ∧ EntsOwn wi w.heap.size v (playE (foldE rs t) (r.ws.take qn)) ∧ Below w.heap.size w wi) (fun _ q _ => r.len - (RowKit.intOf q).toNat)
      case atStart => exact ⟨0, by omega, rfl, How.out, Hb.out⟩
      case round =>
        obtain ⟨qn, hq, rfl, hoi, hbi⟩ := hrel
        have hri := hw.below hbi
        have hrx := (hri.2 r (List.mem_of_getElem? Hx.out)).1
        have z1 := (hbi.cell (p := ⟨bb, off + t * 2 + 1, none⟩) hbl2).trans (((Hb.out.cell (p := ⟨bb, off + t * 2 + 1, none⟩) hbl2).symm).trans x1)
        have hpl := len_playE (foldE rs t) (r.ws.take qn)
        have htk : (r.ws.take qn).length ≤ 32 := Nat.le_trans (List.length_take_le _ _) (by have := Hr32.out; omega)
        have hsi := hbi.size
        have Hbi := Lib.hid hbi
        clear hbi
        by_cases hq2 : qn < r.len
        · obtain ⟨b2, off2, x, hA2, hbl3, hx2, y0, y1, y2⟩ := WsAt.cell3 hrx hq2
          have Hx2 := Lib.hid hx2
          obtain ⟨Ao, co, rfl, hrow, hnil, hcap⟩ := hoi.row
          have Hnil := Lib.hid hnil
          have hris := rises_play (agree_fold rs t).1 (r.ws.take qn)
          have Hris := Lib.hid hris
          clear hx2 hrx hoi hri hnil hris
          rw [hA2] at z1
          have y0' := y0
          go_wp2_with fail
          refine (rwrite_any Ao _ co _ x _ hrow (by omega) hcap Hnil.out Hris.out).mono ?_
          rintro e w1 ⟨v, rfl, hv, hb1⟩
          have hv2 := hv.more hsi
          have Hv2 := Lib.hid hv2
          have Hb1 := Lib.hid (Hbi.out.trans (hb1.mono hsi))
          clear hv hv2 hb1
          go_wp2_with fail
          exact ⟨⟨qn + 1, by omega, by go_num, by rw [playE_snoc Hx2.out]; exact Hv2.out, Hb1.out⟩, by simp [RowKit.intOf]; omega⟩
        · have hfull : r.ws.take qn = r.ws := List.take_of_length_le (by have := Hr32.out; omega)
          rw [hfull, ← foldE_succ Hx.out] at hoi
          have Hoi := Lib.hid hoi
          clear hoi hri hrx hfull
          go_wp2_with fail
          exact ⟨⟨t + 1, by omega, by go_num, Hoi.out, Hbi.out⟩, by simp [RowKit.intOf]; omega⟩
    · obtain rfl : t = n := by omega
      clear hr
      go_wp2_with fail
      go_ret
      exact ⟨_, rfl, How.out, Hb.out⟩
theorem rstore_any (A : Option Addr) (len cap : Nat) (rs : List RTx) (i : Int) (w : World) (hw : TxsAt w w.heap.size A len rs) (hl : len ≤ 4398046511104) :
    Calls Tryz.prog 11 #[.slice A len cap, .int .i64 i] w (ScanPost w rs i ⟨#[]⟩ ⟨#[]⟩) := by
  have hlen := hw.1.len
  have hall : ∀ n, (foldE rs n).filter (fun e => inB ⟨#[]⟩ ⟨#[]⟩ e.key) = foldE rs n := fun n => cut_all rfl rfl
  unfold ScanPost scanL
  by_cases he : logErr rs 1 = 0
  · by_cases ha : i < 0 ∨ (len : Int) < i
    · have h1 : scanErr rs i = 1 := by unfold scanErr; rw [if_neg (by simpa using he), if_neg (by simp only [argB, Bool.and_eq_true, decide_eq_true_eq]; omega)]
      rw [h1, if_neg (by decide)]
      have He := Lib.hid he
      clear he h1 hall
      by_cases h1 : i < 0 <;> by_cases h3 : (len : Int) < i
      all_goals first
        | (exfalso; omega)
        | (go_enter Tryz.func11, Tryz.ntmps11
           go_wp2_with fail
           refine (ref07check_any A len cap rs _ hw hl).mono ?_
           rintro e w1 ⟨rfl, hb1⟩
           rw [He.out]
           have Hb1 := Lib.hid hb1
           clear hb1
           go_wp2_with fail
           go_ret2
           exact ⟨_, rfl, EntsOwn.nil _ _, Hb1.out⟩)
    · have h1 : scanErr rs i = 0 := by unfold scanErr; rw [if_neg (by simpa using he), if_pos (by simp only [argB, Bool.and_eq_true, decide_eq_true_eq]; omega)]
      rw [h1, if_pos rfl, hall]
      obtain ⟨n, rfl⟩ : ∃ n : Nat, i = n := ⟨i.toNat, by omega⟩
      rw [show ((n : Int)).toNat = n from by omega]
      have He := Lib.hid he
      have hd : decide (len < n) = false := by rw [decide_eq_false_iff_not]; omega
      clear he h1 hall
      go_enter Tryz.func11, Tryz.ntmps11
      go_wp2_with fail
      refine (ref07check_any A len cap rs _ hw hl).mono ?_
      rintro e w1 ⟨rfl, hb1⟩
      rw [He.out]
      have hw1 := (hw.below hb1).more hb1.size
      have Hb1 := Lib.hid hb1
      clear hb1
      go_wp2_with fail
      refine (rfold_any A len cap rs n _ hw1 hl He.out (by omega)).mono ?_
      rintro e w2 ⟨v, rfl, hv, hb2⟩
      have Hv := Lib.hid (hv.more Hb1.out.size)
      have Hb2 := Lib.hid (Hb1.out.trans (hb2.mono Hb1.out.size))
      clear hv hb2
      go_wp2_with fail
      go_ret2
      exact ⟨_, rfl, Hv.out, Hb2.out⟩
  · have h1 : scanErr rs i = logErr rs 1 := by unfold scanErr; rw [if_pos he]
    rw [h1, if_neg he]
    have hne : (logErr rs 1 != 0) = true := by simpa using he
    clear h1 hall he
    go_enter Tryz.func11, Tryz.ntmps11
    go_wp2_with fail
    refine (ref07check_any A len cap rs _ hw hl).mono ?_
    rintro e w1 ⟨rfl, hb1⟩
    have Hb1 := Lib.hid hb1
    clear hb1
    go_wp2_with fail
    go_ret2
    exact ⟨_, rfl, EntsOwn.nil _ _, Hb1.out⟩
end
end Go.Proofs.YtafghiekpgjniaaGreatDoor

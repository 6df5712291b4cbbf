/- Lemmas and contracts of functions that statements of this seat stand on, many texts in one; each holds under the premises typed in its head. -/
import Derived.Test.YtdcnaieieggclaaMD
import Derived.Deep.RegionLaw
import Derived.Deep.AppendLies
import Derived.Sort.OwnSortedInts
import Derived.Maps.RangeWalk
import Derived.Deep.QuietTactic
import Derived.Deep.RegionHeld3
import Derived.Test.YtdcnaieieggclaaMC
/- deps.Table: its memory, and the functions that read it. -/
namespace Go.Proofs.Ytdcnaieieggclaa
open Go.RowKit
set_option linter.unusedVariables false
set_option linter.unusedSimpArgs false

open Go.Maps
set_option linter.unusedSectionVars false
theorem wf0 : (Lit.int .i64 0).wf = true := by decide
def toI (z : Int) : I64 := if h : (Lit.int .i64 z).wf = true then ⟨z, h⟩ else ⟨0, wf0⟩
theorem toI_val {z : Int} (h : (Lit.int .i64 z).wf = true) : (toI z).1 = z := by unfold toI; rw [dif_pos h]
theorem toI_inj {a b : Int} (ha : (Lit.int .i64 a).wf = true) (hb : (Lit.int .i64 b).wf = true) (h : toI a = toI b) : a = b := by
  rw [← toI_val ha, ← toI_val hb, h]
theorem toI_of (x : I64) : toI x.1 = x := Subtype.ext (toI_val x.2)
structure TB where
  g : Nat
  p : Nat
  q : Nat
  r : Nat
structure DT where
  last : List (ByteArray × Int)
  opn : List (Int × Int)
  wts : List ((I64 × I64) × Bool)
  top : Int
def TB.has (t : TB) (k : Nat) : Prop := k = t.g ∨ k = t.p ∨ k = t.q ∨ k = t.r
structure TabAt (w : World) (t : TB) (d : DT) : Prop where
  cell : w.heap[t.g]? = some (.cells #[.map (some t.p), .map (some t.q), .map (some t.r), .int .i64 d.top] 103 (0, 0))
  last : OwnM Value.string (Value.int .i64) w t.p d.last
  opn : OwnM (Value.int .i64) (Value.int .i64) w t.q d.opn
  wts : OwnM pairK Value.bool w t.r d.wts
  pq : t.p ≠ t.q
  pr : t.p ≠ t.r
  qr : t.q ≠ t.r
section
variable {w w' : World} {t : TB} {d : DT}
theorem ownM_ne {K V : Type} {κ : K → Value} {ν : V → Value} {b g : Nat} {m : List (K × V)} {cs : Array Value} {ty : TypeId} {fr : Nat × Nat} (h : OwnM κ ν w b m) (hg : w.heap[g]? = some (.cells cs ty fr)) : g ≠ b := by
  obtain ⟨es, clock, hb, -⟩ := h
  rintro rfl
  rw [hg] at hb; cases hb
theorem TabAt.gp (h : TabAt w t d) : t.g ≠ t.p := ownM_ne h.last h.cell
theorem TabAt.gq (h : TabAt w t d) : t.g ≠ t.q := ownM_ne h.opn h.cell
theorem TabAt.gr (h : TabAt w t d) : t.g ≠ t.r := ownM_ne h.wts h.cell
theorem TabAt.lt (h : TabAt w t d) : t.g < w.heap.size ∧ t.p < w.heap.size ∧ t.q < w.heap.size ∧ t.r < w.heap.size :=
  ⟨blk_lt h.cell, h.last.lt, h.opn.lt, h.wts.lt⟩
theorem TabAt.of_blocks (h : TabAt w t d) (hb : ∀ k, t.has k → w'.heap[k]? = w.heap[k]?) : TabAt w' t d :=
  ⟨(hb _ (Or.inl rfl)).trans h.cell, h.last.of_block (hb _ (Or.inr (Or.inl rfl))), h.opn.of_block (hb _ (Or.inr (Or.inr (Or.inl rfl)))), h.wts.of_block (hb _ (Or.inr (Or.inr (Or.inr rfl)))), h.pq, h.pr, h.qr⟩
theorem TabAt.has_lt (h : TabAt w t d) {k : Nat} (hk : t.has k) : k < w.heap.size := by
  obtain ⟨h1, h2, h3, h4⟩ := h.lt
  rcases hk with rfl | rfl | rfl | rfl <;> assumption
theorem TabAt.below (h : TabAt w t d) (hb : Below w.heap.size w w') : TabAt w' t d := h.of_blocks fun k hk => hb.block k (h.has_lt hk)
theorem TabAt.below2 {B : Nat} (h : TabAt w t d) (hb : Below B w w') (hB : ∀ k, t.has k → k < B) : TabAt w' t d := h.of_blocks fun k hk => hb.block k (hB k hk)
theorem TabAt.kept {X : Nat → Prop} (h : TabAt w t d) (hb : Kept w w' X) (hB : ∀ k, t.has k → ¬ X k) : TabAt w' t d := h.of_blocks fun k hk => hb.block k (h.has_lt hk) (hB k hk)
theorem TabAt.cells (h : TabAt w t d) : w.cell? ⟨t.g, 0, none⟩ = some (.map (some t.p)) ∧ w.cell? ⟨t.g, 1, none⟩ = some (.map (some t.q)) ∧ w.cell? ⟨t.g, 2, none⟩ = some (.map (some t.r)) ∧ w.cell? ⟨t.g, 3, none⟩ = some (.int .i64 d.top) := by
  have c0 := blk_cell h.cell 0
  have c1 := blk_cell h.cell 1
  have c2 := blk_cell h.cell 2
  have c3 := blk_cell h.cell 3
  simp only [List.getElem?_toArray, List.getElem?_cons_zero, List.getElem?_cons_succ] at c0 c1 c2 c3
  exact ⟨c0, c1, c2, c3⟩
end
theorem int_or (m : List (Int × Int)) (k : Int) : (((mget m k).map (Value.int .i64)).getD (.int .i64 0)) = .int .i64 ((mget m k).getD 0) := by cases mget m k <;> rfl
theorem last_or (m : List (ByteArray × Int)) (k : ByteArray) : (((mget m k).map (Value.int .i64)).getD (.int .i64 0)) = .int .i64 ((mget m k).getD 0) := by cases mget m k <;> rfl
theorem wait_or (m : List ((I64 × I64) × Bool)) (k : I64 × I64) : (((mget m k).map Value.bool).getD (.bool false)) = .bool ((mget m k).getD false) := by cases mget m k <;> rfl
/-! ### the functions that read -/
set_option maxRecDepth 100000
set_option maxHeartbeats 2000000
theorem new_any (w : World) : Calls Try.prog 31 #[] w fun e w' => e = .returned (.pointer (some ⟨w.heap.size + 3, 0, none⟩)) ∧ TabAt w' ⟨w.heap.size + 3, w.heap.size, w.heap.size + 1, w.heap.size + 2⟩ ⟨[], [], [], 0⟩ ∧ Below w.heap.size w w' := by
  have hmm := @run_makeMap Try.prog
  go_enter Try.func31, Try.ntmps31
  go_wp2_with fail
  go_ret
  have h1 := OwnM.made w Value.string (Value.int .i64)
  have h2 := OwnM.made (w.alloc (.map #[] 0)) (Value.int .i64) (Value.int .i64)
  have h3 := OwnM.made ((w.alloc (.map #[] 0)).alloc (.map #[] 0)) pairK Value.bool
  simp only [World.size_alloc] at h2 h3
  refine ⟨rfl, ⟨by simpa [Nat.add_assoc] using blk_new (((w.alloc (.map #[] 0)).alloc (.map #[] 0)).alloc (.map #[] 0)) _, ((h1.alloc _).alloc _).alloc _, (h2.alloc _).alloc _, h3.alloc _, by simp, by simp, by simp⟩, bel_alloc (bel_alloc (bel_alloc (bel_alloc (Below.refl _ _) _) _) _) _⟩
theorem eqmap_some (b : Nat) (w : World) : (binOp .eql 99 (.map (some b)) (.map none)).run Try.prog w = .ok (.bool false) w := by kernel_rfl
theorem eqmap_none (w : World) : (binOp .eql 99 (.map none) (.map none)).run Try.prog w = .ok (.bool true) w := by kernel_rfl
theorem gone_any (t : TB) (d : DT) (w : World) (h : TabAt w t d) : Calls Try.prog 63 #[.pointer (some ⟨t.g, 0, none⟩)] w fun e w' => e = .returned (.bool false) ∧ w' = w := by
  obtain ⟨c0, -⟩ := h.cells
  have he := eqmap_some t.p
  go_enter Try.func63, Try.ntmps63
  go_wp2_with fail
  go_ret
  exact ⟨rfl, rfl⟩
theorem tlast_any (t : TB) (d : DT) (k : ByteArray) (w : World) (h : TabAt w t d) : Calls Try.prog 37 #[.pointer (some ⟨t.g, 0, none⟩), .string k] w fun e w' => e = .returned (.int .i64 ((mget d.last k).getD 0)) ∧ w' = w := by
  obtain ⟨c0, -⟩ := h.cells
  have hm := h.last
  go_enter Try.func37, Try.ntmps37
  go_wp2_with fail
  refine (gone_any t d _ h).mono ?_
  rintro e w1 ⟨rfl, rfl⟩
  go_wp2_with (at_lookup; refine wpList_lookup_M (κ := Value.string) (ν := Value.int .i64) (b := t.p) (m := d.last) rfl _ _ rfl hm kstr Try.underlying99 zint k rfl rfl ?_; rw [last_or])
  go_ret
  exact ⟨rfl, rfl⟩
def OpenPost (w : World) (d : DT) (e : Ending) (w' : World) : Prop := ∃ v, e = .returned v ∧ w'.ownsRow w.heap.size 3 1 v d.opn.length ((sortI (d.opn.map (·.1))).flatMap Icell) ∧ Below w.heap.size w w'
theorem flat_i (l : List Int) : l.flatMap Icell = l.map (Value.int .i64) := by induction l with
  | nil => rfl
  | cons x r ih => simp [Icell, ih]
theorem topen_any (t : TB) (d : DT) (w : World) (h : TabAt w t d) (hn : d.opn.length ≤ 8796093022207) (hs : ∀ p ∈ d.opn, (Lit.int .i64 p.1).wf = true) : Calls Try.prog 32 #[.pointer (some ⟨t.g, 0, none⟩)] w (OpenPost w d) := by
  obtain ⟨-, c1, -⟩ := h.cells
  have Hs := Lib.hid hs
  have hm := h.opn
  clear hs
  go_enter Try.func32, Try.ntmps32
  go_wp2_with fail
  refine (gone_any t d _ h).mono ?_
  rintro e w1 ⟨rfl, rfl⟩
  go_wp2_with fail
  refine (keysI_any (some t.q) w1).mono ?_
  rintro e w2 ⟨rfl, rfl⟩
  go_wp2_with fail
  refine (sortedI_any t.q d.opn w1 hm hn Hs.out).mono ?_
  rintro e w2 ⟨v, rfl, hown, hb2⟩
  rw [← flat_i] at hown
  have Hown := Lib.hid hown
  clear hown
  go_wp2_with fail
  go_ret
  exact ⟨_, rfl, Hown.out, hb2⟩
end Go.Proofs.Ytdcnaieieggclaa

/- deps.Table.Waits: those that one waits for, rising. -/
namespace Go.Proofs.Ytdcnaieieggclaa
open Go.RowKit
set_option linter.unusedVariables false
set_option linter.unusedSimpArgs false

open Go.Maps Go.Sort
theorem length_sortI (l : List Int) : (sortI l).length = l.length := List.length_mergeSort l
theorem sortRow_any (base : Nat) (v : Value) (xs : List Int) (w : World) (h : w.ownsRow base 3 1 v xs.length (xs.flatMap Icell)) (hl : xs.length < 4611686018427387904) :
    Calls Try.prog 66 #[v] w fun e w' => e = .returned (.tuple #[]) ∧ w'.ownsRow base 3 1 v xs.length ((sortI xs).flatMap Icell) ∧ w.grownBy w' v.ownBlock := by
  rcases h.2 with ⟨rfl, h0⟩ | ⟨g, cap, cur, rfl, hb, hg, h1, h2, h3, h4⟩
  · refine (AnyM.slices_Sort_int_none layT_int none 0 w).mono ?_
    rintro e w' ⟨rfl, rfl⟩
    obtain rfl : xs = [] := List.eq_nil_of_length_eq_zero h0
    exact ⟨rfl, by simpa [sortI] using h, grownBy_refl _ _⟩
  · have hH : Holds (Value.int .i64) w g 0 xs.toArray := holds_of_blockI hg (by simpa [flat_i] using h4)
    refine (AnyM.slices_Sort_int layT_int g 0 cap xs w hH (blk_lt hg) hl).mono ?_
    rintro e w' ⟨rfl, nn, os, rfl⟩
    rw [flat_i]
    exact ⟨rfl, ownsRow_sortedI (n := nn) (os := os) (ts := sortI xs) (length_sortI xs) hb hg h1 h2 h3, grownBy_sortedI (w := w) (g := g) (n := nn) (os := os) (sortI xs).toArray⟩
/-- Those that n waits for. -/
def waitL (W : List ((I64 × I64) × Bool)) (n : Int) : List Int := (W.filter fun p => decide (p.1.1.1 = n)).map fun p => p.1.2.1
theorem waitL_nil (n : Int) : waitL [] n = [] := rfl
theorem waitL_len (W : List ((I64 × I64) × Bool)) (n : Int) : (waitL W n).length ≤ W.length := by
  unfold waitL; rw [List.length_map]; exact List.length_filter_le _ _
theorem waitL_perm {W W' : List ((I64 × I64) × Bool)} (n : Int) (h : W.Perm W') : (waitL W n).Perm (waitL W' n) := (h.filter _).map _
theorem waitL_cons (p : (I64 × I64) × Bool) (W : List ((I64 × I64) × Bool)) (n : Int) : waitL (p :: W) n = if p.1.1.1 = n then p.1.2.1 :: waitL W n else waitL W n := by
  unfold waitL; rw [List.filter_cons]; simp only [decide_eq_true_eq]; split <;> rfl
/-- What is to come behind a key. -/
def restM {K V : Type} [DecidableEq K] (todo : List (K × V)) (k : K) : List (K × V) := todo.filter fun p => decide (p.1 ≠ k)
theorem restM_perm {K V : Type} [DecidableEq K] {todo : List (K × V)} {k : K} {v : V} (hn : (todo.map (·.1)).Nodup) (h : (k, v) ∈ todo) : todo.Perm ((k, v) :: restM todo k) := rest_perm hn h
/-- What a step of a range brings, in one piece. -/
structure Came (K V : Type) where
  k : K
  v : V
  w : World
theorem wpList_next_C {K V : Type} [DecidableEq K] {κ : K → Value} {ν : V → Value} {w : World} {b r : Nat} {m todo : List (K × V)} {P : Program} {ops : Array Oper} {rest : List Oper} {o : Oper} {a : Act} {Q : Exit → Act → World → Prop}
    (hg : o.guard = none) (it : Operand) (hop : o.op = Op.next it false) (hit : a.eval it = .pointer (some ⟨r, 0, none⟩)) (hi : ∀ a b, κ a = κ b → a = b) (h : RngM κ ν w b r m todo)
    (hDone : todo = [] → wpList P ops Q rest (a.put o.dst (.tuple #[.bool false])) w)
    (hMore : ∀ s : Came K V, Hid ((s.k, s.v) ∈ todo) → Hid (RngM κ ν s.w b r m (restM todo s.k)) → Hid (w.grownBy s.w (some r)) → Hid (s.w.heap.size = w.heap.size) →
      Hid ((Instr.entry (.pointer (some ⟨r, 0, none⟩))).run P s.w = .ok (.tuple #[κ s.k, ν s.v]) s.w) → wpList P ops Q rest (a.put o.dst (.tuple #[.bool true, κ s.k, ν s.v])) s.w) : wpList P ops Q (o :: rest) a w :=
  wpList_next_M hg it hop hit hi h hDone fun k v w' h1 h2 h3 h4 h5 => hMore ⟨k, v, w'⟩ (Lib.hid h1) (Lib.hid h2) (Lib.hid h3) (Lib.hid h4) (Lib.hid h5)
def WaitsPost (w : World) (L : List Int) (e : Ending) (w' : World) : Prop := ∃ v, e = .returned (.tuple #[v, .int .i64 0]) ∧ w'.ownsRow w.heap.size 3 1 v L.length ((sortI L).flatMap Icell) ∧ Below w.heap.size w w'
theorem perm_next {a b c d : List Int} (x : Int) (h : (a ++ b).Perm d) (hb : b.Perm (x :: c)) : (a ++ [x] ++ c).Perm d := by
  refine (List.Perm.trans ?_ h)
  rw [List.append_assoc]
  exact hb.symm.append_left a
set_option maxRecDepth 100000
set_option maxHeartbeats 4000000
theorem twaits_any (t : TB) (d : DT) (n : Int) (w : World) (h : TabAt w t d) (ho : (mget d.opn n).isSome = true) (hl : d.wts.length ≤ 1099511627776) :
    Calls Try.prog 34 #[.pointer (some ⟨t.g, 0, none⟩), .int .i64 n] w (WaitsPost w (waitL d.wts n)) := by
  obtain ⟨-, c1, c2, -⟩ := h.cells
  have hm := h.opn
  have hw3 := h.wts
  obtain ⟨i0, hi, hz0, hz1, hz2⟩ := info_parts info_int
  obtain ⟨-, -, -, hrl⟩ := h.lt
  have Hl := Lib.hid hl
  clear hl
  go_enter Try.func34, Try.ntmps34
  go_wp2_with fail
  refine (gone_any t d _ h).mono ?_
  rintro e w1 ⟨rfl, rfl⟩
  go_wp2_with (first
    | (at_lookup; refine wpList_lookup_ok_M (κ := Value.int .i64) (ν := Value.int .i64) (b := t.q) (m := d.opn) rfl _ _ rfl hm kint Try.underlying100 zint n rfl rfl ?_; rw [int_or, ho])
    | (at_range; refine wpList_range_M (κ := pairK) (ν := Value.bool) (b := t.r) (m := d.wts) rfl _ rfl Try.underlying101 rfl hw3 ?_; intro w0 hr0 hg0 hs0))
  go_frame
  have hb0 : Below w1.heap.size w1 w0 := ⟨hg0.os, hg0.tape, hg0.output, hg0.size, fun k hk => hg0.block k hk (by simp)⟩
  go_loopw [8] (fun v wr => ∃ (todo : List ((I64 × I64) × Bool)) (out : List Int), Hid (RngM pairK Value.bool wr t.r w1.heap.size d.wts todo) ∧ Hid ((out ++ waitL todo n).Perm (waitL d.wts n)) ∧ Hid (wr.ownsRow (w1.heap.size + 1) 3 1 v out.length (out.flatMap Icell)) ∧ Hid (Below w1.heap.size w1 wr)) (fun _ wr => wr.rangeLeft t.r w1.heap.size)
  case atStart => exact ⟨d.wts, [], Lib.hid hr0, Lib.hid (List.Perm.refl _), Lib.hid (World.ownsRow_nil _ _ _ _), Lib.hid hb0⟩
  case round =>
    obtain ⟨todo, out, HR, HP, HO, HB⟩ := hrel
    have hm0 := HR.out.left_eq
    have hit := HR.out.lt
    go_wp2_with (at_next; refine wpList_next_C (κ := pairK) (ν := Value.bool) rfl _ rfl rfl kpair.inj HR.out ?_ ?_)
    · intro hnil
      subst hnil
      have hP := HP.out
      rw [waitL_nil, List.append_nil] at hP
      have HP2 := Lib.hid hP
      clear hP hm0
      have hol : out.length ≤ 1099511627776 := by rw [HP2.out.length_eq]; exact Nat.le_trans (waitL_len _ _) Hl.out
      go_wp2_with fail
      refine (sortRow_any _ _ out _ HO.out (by omega)).mono ?_
      rintro e w2 ⟨rfl, ho2, hg2⟩
      have Ho2 := Lib.hid ho2
      have Hg2 := Lib.hid hg2
      clear ho2 hg2
      go_wp2_with fail
      go_ret2
      refine ⟨_, rfl, ?_, HB.out.trans ?_⟩
      · rw [← HP2.out.length_eq, ← sortI_perm HP2.out]
        exact ownsRow_base_a Ho2.out (by omega)
      · exact (below_grown_own HO.out Hg2.out (by omega)).mono (by omega)
    · rintro ⟨⟨⟨ka, hka⟩, ⟨kb, hkb⟩⟩, v, w2⟩ Hk Hr2 Hg2 Hs2 Hen
      have hk := Hk.out
      have hr2 := Hr2.out
      have hg2 := Hg2.out
      have hs2 := Hs2.out
      have hen := Hen.out
      clear Hk Hr2 Hg2 Hs2 Hen
      simp only at hk hr2 hg2 hs2 hen
      have hpm := restM_perm (HR.out.sub kpair.inj) hk
      have hlen : (restM todo (⟨ka, hka⟩, ⟨kb, hkb⟩)).length < todo.length := by rw [hpm.length_eq]; simp
      have hb2 : Below w1.heap.size w1 w2 := HB.out.trans ⟨hg2.os, hg2.tape, hg2.output, hg2.size, fun j hj => hg2.block j (by omega) (by simp; omega)⟩
      have ho2 : w2.ownsRow (w1.heap.size + 1) 3 1 u8 out.length (out.flatMap Icell) := HO.out.kept hg2 (by
        cases hob : u8.ownBlock with
        | none => exact Or.inl rfl
        | some g => exact Or.inr (fun e => by have := (HO.out.lt g hob).1; simp at e; omega))
      have Hr2 := Lib.hid hr2
      have Hb2 := Lib.hid hb2
      have Ho2 := Lib.hid ho2
      have Hpm := Lib.hid (waitL_perm n hpm)
      have hlt2 : w1.heap.size < w2.heap.size := by omega
      have Hs2 := Lib.hid hs2
      have Hlen := Lib.hid hlen
      clear hr2 hg2 hpm hb2 ho2 hs2 hlen hk
      simp only [pairK] at hen ⊢
      by_cases hkn : ka = n
      · have hcons := waitL_cons ((⟨ka, hka⟩, ⟨kb, hkb⟩), v) (restM todo (⟨ka, hka⟩, ⟨kb, hkb⟩)) n
        rw [if_pos hkn] at hcons
        have Hpm2 := Lib.hid (hcons ▸ Hpm.out)
        have hol : out.length ≤ 1099511627776 := by
          have h1 := HP.out.length_eq
          rw [List.length_append] at h1
          have := waitL_len d.wts n
          have := Hl.out
          omega
        clear hcons
        subst hkn
        have How2 : w2.ownsRow (w1.heap.size + 1) 3 1 u8 out.length _ := Ho2.out
        go_wp2_with (at_builtin; refine wpList_append_own _ rfl _ _ 62 rfl (w1.heap.size + 1) 3 i0 _ 1 8 Try.underlying62 hi hz0 hz1 hz2 rfl (by decide) _ _ _ rfl ((How2.alloc _).alloc _) ⟨w2.heap.size + 1, 0, none⟩ 1 1 (Icell kb) rfl rfl (World.news_of_block (blk_new2 _ _ _)) (one_int _) (by simp only [maxLen]; omega) (by omega) (by simp; omega) ?_; intro v' w' hown' hg' hn')
        have hr' := ((Hr2.out.alloc _).alloc _).kept hg' (row_ne_low How2 (by omega)) (row_ne_low How2 (by omega))
        refine ⟨⟨_, out ++ [kb], Lib.hid hr', Lib.hid (perm_next kb HP.out Hpm2.out), Lib.hid ?_, Lib.hid ?_⟩, ?_⟩
        · rw [List.length_append, List.flatMap_append]; simpa using hown'
        · exact (bel_alloc (bel_alloc Hb2.out _) _).grown hg' (by simp; omega) (fun q hq => by have := (How2.lt q hq).1; omega)
        · rw [hr'.left_eq, hm0]; exact Hlen.out
      · have hne : (ka == n) = false := by simpa using hkn
        go_wp2_with fail
        have hcons := waitL_cons ((⟨ka, hka⟩, ⟨kb, hkb⟩), v) (restM todo (⟨ka, hka⟩, ⟨kb, hkb⟩)) n
        rw [if_neg hkn] at hcons
        have hr' := Hr2.out.alloc (.cells #[.int .i64 ka, .int .i64 kb] 108)
        refine ⟨⟨_, out, Lib.hid hr', Lib.hid ?_, Lib.hid (Ho2.out.alloc _), Lib.hid (bel_alloc Hb2.out _)⟩, ?_⟩
        · exact ((hcons ▸ Hpm.out).symm.append_left out).trans HP.out
        · rw [hr'.left_eq, hm0]; exact Hlen.out
end Go.Proofs.Ytdcnaieieggclaa

/- deps.Table.Done: one has ended. -/
namespace Go.Proofs.Ytdcnaieieggclaa
open Go.RowKit
set_option linter.unusedVariables false
set_option linter.unusedSimpArgs false

open Go.Maps Go.Sort
theorem TabAt.opnUp {w w' : World} {t : TB} {d : DT} {m : List (Int × Int)} (h : TabAt w t d) (ho : OwnM (Value.int .i64) (Value.int .i64) w' t.q m) (hg : w.grownBy w' (some t.q)) : TabAt w' t ⟨d.last, m, d.wts, d.top⟩ :=
  ⟨(hg.block _ h.lt.1 (by simpa using h.gq)).trans h.cell, h.last.grown hg (by simpa using h.pq), ho, h.wts.grown hg (by simpa using fun e => h.qr e.symm), h.pq, h.pr, h.qr⟩
theorem TabAt.wtsUp {w w' : World} {t : TB} {d : DT} {m : List ((I64 × I64) × Bool)} (h : TabAt w t d) (ho : OwnM pairK Value.bool w' t.r m) (hg : w.grownBy w' (some t.r)) : TabAt w' t ⟨d.last, d.opn, m, d.top⟩ :=
  ⟨(hg.block _ h.lt.1 (by simpa using h.gr)).trans h.cell, h.last.grown hg (by simpa using h.pr), h.opn.grown hg (by simpa using h.qr), ho, h.pq, h.pr, h.qr⟩
theorem TabAt.lastUp {w w' : World} {t : TB} {d : DT} {m : List (ByteArray × Int)} (h : TabAt w t d) (ho : OwnM Value.string (Value.int .i64) w' t.p m) (hg : w.grownBy w' (some t.p)) : TabAt w' t ⟨m, d.opn, d.wts, d.top⟩ :=
  ⟨(hg.block _ h.lt.1 (by simpa using h.gp)).trans h.cell, ho, h.opn.grown hg (by simpa using fun e => h.pq e.symm), h.wts.grown hg (by simpa using fun e => h.pr e.symm), h.pq, h.pr, h.qr⟩
theorem TabAt.alloc {w : World} {t : TB} {d : DT} (h : TabAt w t d) (o : Obj) : TabAt (w.alloc o) t d := h.below (bel_alloc (Below.refl _ _) o)
theorem TabAt.drew {w : World} {t : TB} {d : DT} (h : TabAt w t d) : TabAt w.drew t d := ⟨h.cell, h.last, h.opn, h.wts, h.pq, h.pr, h.qr⟩
theorem Kept.only {a w w' : World} {X : Nat → Prop} {g : Nat} (h : Kept a w X) (hg : w.grownBy w' (some g)) (hx : X g ∨ a.heap.size ≤ g) : Kept a w' X :=
  ⟨hg.os.trans h.os, hg.tape.trans h.tape, hg.output.trans h.output, Nat.le_trans h.size hg.size, fun k hk hn => (hg.block k (Nat.lt_of_lt_of_le hk h.size) (fun e => by injection e with e; subst e; rcases hx with hx | hx; exact hn hx; omega)).trans (h.block k hk hn)⟩
theorem Kept.row {a w w' : World} {X : Nat → Prop} {row : Option Nat} (h : Kept a w X) (hg : w.grownBy w' row) (hx : ∀ g, row = some g → a.heap.size ≤ g) : Kept a w' X :=
  ⟨hg.os.trans h.os, hg.tape.trans h.tape, hg.output.trans h.output, Nat.le_trans h.size hg.size, fun k hk hn => (hg.block k (Nat.lt_of_lt_of_le hk h.size) (fun e => by have := hx k e.symm; omega)).trans (h.block k hk hn)⟩
theorem RngM.drew {K V : Type} [DecidableEq K] {κ : K → Value} {ν : V → Value} {w : World} {b r : Nat} {m todo : List (K × V)} (h : RngM κ ν w b r m todo) : RngM κ ν w.drew b r m todo := h.of_block rfl rfl
theorem Kept.drew {a b : World} {X : Nat → Prop} (h : Kept a b X) : Kept a b.drew X := ⟨h.os, h.tape, h.output, h.size, h.block⟩
/-- 'delete' of the round's key, as a step of a region that draws its order. -/
theorem step_delete_R {K V : Type} [DecidableEq K] {κ : K → Value} {ν : V → Value} {w : World} {b r : Nat} {m todo : List (K × V)} {P : Program} {kt vt t : TypeId} {ops : Array Oper} {o : Oper} {a : Act} {Kc : Act → World → Prop} {Q : Exit → Act → World → Prop} {E : Prop}
    (hgd : o.guard = none) (x y : Operand) (kt' : TypeId) (ho : o.op = .call { callee := .builtin .delete, args := #[x, y], argTypes := #[t, kt'] }) (h : RngM κ ν w b r m todo) (hK : Keying P kt κ) (ht : P.underlying t = some (.map kt vt)) (k : K) (hk : k ∉ todo.map (·.1))
    (hx : a.eval x = .map (some b)) (hy : a.eval y = κ k) (hc : ∀ w', RngM κ ν w' b r (mdel m k) todo → w.grownBy w' (some b) → Kc (a.put o.dst (.tuple #[])) w') :
    if Region.wanted o (yielded ops a.tmps) = true then Oper.wp P o a w Kc Q else E := by
  have hw : Region.wanted o (yielded ops a.tmps) = true := by simp [Region.wanted, hgd]
  rw [if_pos hw]
  obtain ⟨w', hr, h1, h2⟩ := h.run_delete hK ht k hk #[t, kt'] rfl o.type
  unfold Oper.wp
  simp [execOp, ho, resolve, invoke, builtin, hx, hy, hr, Result.andThen]
  exact hc w' h1 h2
theorem restM_no {K V : Type} [DecidableEq K] (todo : List (K × V)) (k : K) : k ∉ (restM todo k).map (·.1) := by
  unfold restM
  rw [List.mem_map]
  rintro ⟨p, hp, rfl⟩
  simp at hp
/-- Those that wait for n. -/
def tellL (W : List ((I64 × I64) × Bool)) (n : Int) : List Int := (W.filter fun p => decide (p.1.2.1 = n)).map fun p => p.1.1.1
theorem tellL_nil (n : Int) : tellL [] n = [] := rfl
theorem tellL_len (W : List ((I64 × I64) × Bool)) (n : Int) : (tellL W n).length ≤ W.length := by
  unfold tellL; rw [List.length_map]; exact List.length_filter_le _ _
theorem tellL_perm {W W' : List ((I64 × I64) × Bool)} (n : Int) (h : W.Perm W') : (tellL W n).Perm (tellL W' n) := (h.filter _).map _
theorem tellL_cons (p : (I64 × I64) × Bool) (W : List ((I64 × I64) × Bool)) (n : Int) : tellL (p :: W) n = if p.1.2.1 = n then p.1.1.1 :: tellL W n else tellL W n := by
  unfold tellL; rw [List.filter_cons]; simp only [decide_eq_true_eq]; split <;> rfl
theorem mem_tellL {W : List ((I64 × I64) × Bool)} {n a : Int} : a ∈ tellL W n ↔ ∃ k : I64 × I64, k ∈ W.map (·.1) ∧ k.2.1 = n ∧ k.1.1 = a := by
  unfold tellL
  simp only [List.mem_map, List.mem_filter, decide_eq_true_eq]
  constructor
  · rintro ⟨p, ⟨h1, h2⟩, h3⟩; exact ⟨p.1, ⟨p, h1, rfl⟩, h2, h3⟩
  · rintro ⟨k, ⟨p, h1, rfl⟩, h2, h3⟩; exact ⟨p, ⟨h1, h2⟩, h3⟩
theorem tellL_nodup {W : List ((I64 × I64) × Bool)} (n : Int) (h : (W.map (·.1)).Nodup) : (tellL W n).Nodup := by
  induction W with
  | nil => exact List.nodup_nil
  | cons p W ih =>
    simp only [List.map_cons, List.nodup_cons] at h
    rw [tellL_cons]
    split
    · rename_i hp
      refine List.nodup_cons.2 ⟨fun hm => ?_, ih h.2⟩
      obtain ⟨k, hk, h1, h2⟩ := mem_tellL.1 hm
      have : k = p.1 := Prod.ext (Subtype.ext h2) (Subtype.ext (h1.trans hp.symm))
      exact h.1 (this ▸ hk)
    · exact ih h.2
/-- Where the rounds have come: D: those that have been told. -/
structure DoneAt (d : DT) (n : Int) (m2 : List (Int × Int)) (D : List Int) (todo : List ((I64 × I64) × Bool)) (m2c : List (Int × Int)) (m3c : List ((I64 × I64) × Bool)) (out : List Int) : Prop where
  perm : (D ++ tellL todo n).Perm (tellL d.wts n)
  opn : ∀ a, mget m2c a = if a ∈ D then (mget m2 a).map (· - 1) else mget m2 a
  wts : ∀ k, mget m3c k = if k.2.1 = n ∧ k.1.1 ∈ D then none else mget d.wts k
  out : out = D.filter fun a => decide (mget m2 a = some 1)
theorem DoneAt.start (d : DT) (n : Int) (m2 : List (Int × Int)) : DoneAt d n m2 [] d.wts m2 d.wts [] := ⟨List.Perm.refl _, fun a => by simp, fun k => by simp, rfl⟩
/-- The round of a key that is not n's. -/
theorem DoneAt.skip {d : DT} {n : Int} {m2 m2c : List (Int × Int)} {D out : List Int} {todo m3c : List ((I64 × I64) × Bool)} {k : I64 × I64} {v : Bool} (h : DoneAt d n m2 D todo m2c m3c out) (hn : k.2.1 ≠ n) (hp : todo.Perm ((k, v) :: restM todo k)) : DoneAt d n m2 D (restM todo k) m2c m3c out := by
  refine ⟨?_, h.opn, h.wts, h.out⟩
  have := tellL_perm n hp
  rw [tellL_cons, if_neg hn] at this
  exact (this.symm.append_left D).trans h.perm
/-- The round of n's. -/
theorem DoneAt.tell {d : DT} {n : Int} {m2 m2c : List (Int × Int)} {D out : List Int} {todo m3c : List ((I64 × I64) × Bool)} {k : I64 × I64} {v : Bool} {c : Int} (h : DoneAt d n m2 D todo m2c m3c out) (hnd : (d.wts.map (·.1)).Nodup) (hn3 : (m3c.map (·.1)).Nodup) (hn : k.2.1 = n) (hp : todo.Perm ((k, v) :: restM todo k))
    (hc : mget m2 k.1.1 = some c) : mget m2c k.1.1 = some c ∧ k.1.1 ∈ tellL d.wts n ∧ DoneAt d n m2 (D ++ [k.1.1]) (restM todo k) (mput m2c k.1.1 (c - 1)) (mdel m3c k) (if c - 1 = 0 then out ++ [k.1.1] else out) := by
  have h1 := tellL_perm n hp
  rw [tellL_cons, if_pos hn] at h1
  have h2 : (D ++ [k.1.1] ++ tellL (restM todo k) n).Perm (tellL d.wts n) := by
    rw [List.append_assoc]
    exact (h1.symm.append_left D).trans h.perm
  have h3 : (D ++ [k.1.1] ++ tellL (restM todo k) n).Nodup := (h2.nodup_iff).2 (tellL_nodup n hnd)
  have h4 : k.1.1 ∉ D := by
    intro hm
    exact (List.nodup_append.1 (List.nodup_append.1 h3).1).2.2 _ hm k.1.1 (by simp) rfl
  have h5 : mget m2c k.1.1 = some c := by rw [h.opn, if_neg h4, hc]
  refine ⟨h5, h2.subset (by simp), h2, fun a => ?_, fun j => ?_, ?_⟩
  · rw [mget_mput]
    by_cases ha : k.1.1 = a
    · subst ha
      rw [if_pos rfl, if_pos (by simp), hc]; rfl
    · rw [if_neg ha, h.opn]
      have : (a ∈ D ++ [k.1.1]) ↔ a ∈ D := by simp; exact fun e => absurd e.symm ha
      simp only [this]
  · rw [mget_mdel hn3]
    by_cases hj : k = j
    · subst hj
      rw [if_pos rfl, if_pos ⟨hn, by simp⟩]
    · rw [if_neg hj, h.wts]
      by_cases hjn : j.2.1 = n
      · have hne : j.1.1 ≠ k.1.1 := fun e => hj (Prod.ext (Subtype.ext e.symm) (Subtype.ext (hn.trans hjn.symm)))
        have : (j.1.1 ∈ D ++ [k.1.1]) ↔ j.1.1 ∈ D := by simp; exact fun e => absurd e hne
        simp only [this]
      · simp [hjn]
  · rw [List.filter_append, ← h.out]
    by_cases hc1 : c - 1 = 0
    · have : c = 1 := by omega
      subst this
      simp [hc]
    · have : ¬ c = 1 := by omega
      simp [hc, hc1, this]
end Go.Proofs.Ytdcnaieieggclaa

/- deps.Table.Done: the walk. -/

namespace Go.Proofs.Ytdcnaieieggclaa
open Go.RowKit
set_option linter.unusedVariables false
set_option linter.unusedSimpArgs false

open Go.Maps Go.Sort
def DonePost (w : World) (t : TB) (d : DT) (n : Int) (e : Ending) (w' : World) : Prop := ∃ v m2 m3, e = .returned (.tuple #[v, .int .i64 0]) ∧
  w'.ownsRow w.heap.size 3 1 v ((tellL d.wts n).filter fun a => decide (mget (mdel d.opn n) a = some 1)).length ((sortI ((tellL d.wts n).filter fun a => decide (mget (mdel d.opn n) a = some 1))).flatMap Icell) ∧
  TabAt w' t ⟨d.last, m2, m3, d.top⟩ ∧ (∀ a, mget m2 a = if a ∈ tellL d.wts n then (mget (mdel d.opn n) a).map (· - 1) else mget (mdel d.opn n) a) ∧ (∀ k, mget m3 k = if k.2.1 = n then none else mget d.wts k) ∧ Kept w w' t.has
set_option maxRecDepth 100000
set_option maxHeartbeats 4000000
theorem tdone_any (t : TB) (d : DT) (n : Int) (w : World) (h : TabAt w t d) (ho : mget d.opn n = some 0) (hl : d.wts.length ≤ 1099511627776) (hc : ∀ a ∈ tellL d.wts n, ∃ c : Int, mget (mdel d.opn n) a = some c ∧ 1 ≤ c ∧ c ≤ 1099511627776) :
    Calls Try.prog 36 #[.pointer (some ⟨t.g, 0, none⟩), .int .i64 n] w (DonePost w t d n) := by
  obtain ⟨-, c1, c2, -⟩ := h.cells
  have hm := h.opn
  obtain ⟨i0, hi, hz0, hz1, hz2⟩ := info_parts info_int
  have hlts := h.lt
  have Hl := Lib.hid hl
  have Hc := Lib.hid hc
  have Hnd := Lib.hid h.wts.nodup
  clear hl hc
  go_enter Try.func36, Try.ntmps36
  go_wp2_with fail
  refine (gone_any t d _ h).mono ?_
  rintro e w1 ⟨rfl, rfl⟩
  obtain ⟨m2, hm2⟩ : ∃ m2, m2 = mdel d.opn n := ⟨_, rfl⟩
  go_wp2_with (first
    | (at_lookup; refine wpList_lookup_ok_M (κ := Value.int .i64) (ν := Value.int .i64) (b := t.q) (m := d.opn) rfl _ _ rfl hm kint Try.underlying100 zint n rfl rfl ?_; rw [int_or, ho])
    | (at_delete; refine wpList_delete_M (t := 100) (κ := Value.int .i64) (ν := Value.int .i64) (b := t.q) (m := d.opn) rfl _ _ _ rfl hm kint Try.underlying100 n rfl rfl ?_; intro w2 hown2 hg2; have Hg2 := Lib.hid hg2; have Hown2 := Lib.hid hown2; have ht2 := h.opnUp hown2 hg2; obtain ⟨-, c1, c2, -⟩ := ht2.cells; have Ht2 := Lib.hid ht2; have hw3 := ht2.wts; clear hown2 hg2)
    | (at_range; refine wpList_range_M (κ := pairK) (ν := Value.bool) (b := t.r) (m := d.wts) rfl _ rfl Try.underlying101 rfl hw3 ?_; intro w0 hr0 hg0 hs0))
  try go_frame
  have hb0 : Kept w1 w0 t.has := (((Kept.refl w1 _).only Hg2.out (Or.inl (Or.inr (Or.inr (Or.inl rfl))))).row hg0 (fun g e => by cases e))
  have hk2 : w1.heap.size ≤ w2.heap.size := Hg2.out.size
  have htw0 : TabAt w0 t ⟨d.last, m2, d.wts, d.top⟩ := by rw [hm2]; exact Ht2.out.of_blocks (fun k hk => hg0.block k (Ht2.out.has_lt hk) (by simp))
  have Htw0 := Lib.hid htw0
  have Hm2 := Lib.hid hm2
  rw [← hm2] at Hc
  have Hb0 := Lib.hid hb0
  have Hr0 := Lib.hid hr0
  clear htw0 hm2 hb0 hr0 Ht2 Hown2
  go_loopw [8] (fun v wr => ∃ (todo m3c : List ((I64 × I64) × Bool)) (D out : List Int) (m2c : List (Int × Int)), Hid (RngM pairK Value.bool wr t.r w2.heap.size m3c todo) ∧ Hid (TabAt wr t ⟨d.last, m2c, m3c, d.top⟩) ∧ Hid (DoneAt d n m2 D todo m2c m3c out) ∧ Hid (wr.ownsRow (w2.heap.size + 1) 3 1 v out.length (out.flatMap Icell)) ∧ Hid (Kept w1 wr t.has)) (fun _ wr => wr.rangeLeft t.r w2.heap.size)
  case atStart => exact ⟨d.wts, d.wts, [], [], m2, Hr0, Htw0, Lib.hid (DoneAt.start _ _ _), Lib.hid (World.ownsRow_nil _ _ _ _), Hb0⟩
  case round =>
    obtain ⟨todo, m3c, D, out, m2c, HR, HT, HD, HO, HB⟩ := hrel
    have hm0 := HR.out.left_eq
    have hit := HR.out.lt
    have hol : out.length ≤ 1099511627776 := by
      have h1 := HD.out.perm.length_eq
      rw [List.length_append] at h1
      have h2 := tellL_len d.wts n
      have h3 := Hl.out
      have h4 : out.length ≤ D.length := by rw [HD.out.out]; exact List.length_filter_le _ _
      omega
    go_wp2_with (at_next; refine wpList_next_C (κ := pairK) (ν := Value.bool) rfl _ rfl rfl kpair.inj HR.out ?_ ?_)
    · intro hnil
      subst hnil
      have hP := HD.out.perm
      rw [tellL_nil, List.append_nil] at hP
      have HP2 := Lib.hid hP
      clear hP hm0
      go_wp2_with fail
      refine (sortRow_any _ _ out _ HO.out (by omega)).mono ?_
      rintro e w3 ⟨rfl, ho3, hg3⟩
      have Ho3 := Lib.hid ho3
      have Hg3 := Lib.hid hg3
      clear ho3 hg3
      go_wp2_with fail
      go_ret2
      have hout : out.Perm ((tellL d.wts n).filter fun a => decide (mget (mdel d.opn n) a = some 1)) := by rw [HD.out.out, ← Hm2.out]; exact HP2.out.filter _
      have hlow : ∀ k, t.has k → some k ≠ u8.ownBlock := fun k hk => row_ne_low HO.out (by rcases hk with rfl | rfl | rfl | rfl <;> omega)
      refine ⟨_, m2c, m3c, rfl, ?_, HT.out.of_blocks (fun k hk => Hg3.out.block k (HT.out.has_lt hk) (hlow k hk)), fun a => ?_, fun k => ?_, HB.out.row Hg3.out (fun g hg => by have := (HO.out.lt g hg).1; omega)⟩
      · rw [← hout.length_eq, ← sortI_perm hout]
        exact ownsRow_base_a Ho3.out (by omega)
      · rw [HD.out.opn, ← Hm2.out]
        simp only [HP2.out.mem_iff]
      · rw [HD.out.wts]
        by_cases hkn : k.2.1 = n
        · rw [if_pos hkn]
          by_cases hkd : k.1.1 ∈ D
          · rw [if_pos ⟨hkn, hkd⟩]
          · rw [if_neg (fun e => hkd e.2), mget_none_iff]
            intro hmem
            exact hkd (HP2.out.mem_iff.2 (mem_tellL.2 ⟨k, hmem, hkn, rfl⟩))
        · rw [if_neg hkn, if_neg (fun e => hkn e.1)]
    · rintro ⟨⟨⟨ka, hka⟩, ⟨kb, hkb⟩⟩, v, w3⟩ Hk Hr3 Hg3 Hs3 Hen
      have hk := Hk.out
      have hr3 := Hr3.out
      have hg3 := Hg3.out
      have hs3 := Hs3.out
      have hen := Hen.out
      clear Hk Hr3 Hg3 Hs3 Hen
      simp only at hk hr3 hg3 hs3 hen
      have hpm := restM_perm (HR.out.sub kpair.inj) hk
      have hlen : (restM todo (⟨ka, hka⟩, ⟨kb, hkb⟩)).length < todo.length := by rw [hpm.length_eq]; simp
      have hb3 : Kept w1 w3 t.has := HB.out.only hg3 (Or.inr (by omega))
      have ho3 : w3.ownsRow (w2.heap.size + 1) 3 1 u8 out.length (out.flatMap Icell) := HO.out.kept hg3 (by
        cases hob : u8.ownBlock with
        | none => exact Or.inl rfl
        | some g => exact Or.inr (fun e => by have := (HO.out.lt g hob).1; simp at e; omega))
      have ht3 : TabAt w3 t ⟨d.last, m2c, m3c, d.top⟩ := HT.out.of_blocks (fun k hk => hg3.block k (HT.out.has_lt hk) (by rcases hk with rfl | rfl | rfl | rfl <;> simp <;> omega))
      have hlt3 : w2.heap.size < w3.heap.size := by omega
      have hkin : kb = n → ka ∈ tellL todo n := fun e => mem_tellL.2 ⟨(⟨ka, hka⟩, ⟨kb, hkb⟩), List.mem_map.2 ⟨_, hk, rfl⟩, e, rfl⟩
      have Hkin := Lib.hid hkin
      clear hkin
      have Hr3 := Lib.hid hr3
      have Hb3 := Lib.hid hb3
      have Ho3 := Lib.hid ho3
      have Ht3 := Lib.hid ht3
      have Hpm := Lib.hid hpm
      have Hlen := Lib.hid hlen
      clear hr3 hg3 hpm hb3 ho3 ht3 hs3 hlen hk
      simp only [pairK] at hen ⊢
      by_cases hkn : kb = n
      · subst hkn
        obtain ⟨c, hcg, hc1, hc2⟩ := Hc.out ka (HD.out.perm.subset (List.mem_append_right _ (Hkin.out rfl)))
        obtain ⟨hget, -, hd'⟩ := HD.out.tell Hnd.out HT.out.wts.nodup rfl Hpm.out hcg
        have Hget := Lib.hid hget
        have HD2 := Lib.hid hd'
        have Hc12 := Lib.hid (And.intro hc1 hc2)
        clear hcg hget hd' hc1 hc2
        go_wp2_with fail
        obtain ⟨wa, hwa⟩ : ∃ wa : World, wa = w3.alloc (.cells #[.int .i64 ka, .int .i64 kb] 108) := ⟨_, rfl⟩
        rw [← hwa]
        have hra : RngM pairK Value.bool wa t.r w2.heap.size m3c (restM todo (⟨ka, hka⟩, ⟨kb, hkb⟩)) := by rw [hwa]; exact Hr3.out.alloc _
        have hta : TabAt wa t ⟨d.last, m2c, m3c, d.top⟩ := by rw [hwa]; exact Ht3.out.alloc _
        have hoa : wa.ownsRow (w2.heap.size + 1) 3 1 u8 out.length (out.flatMap Icell) := by rw [hwa]; exact Ho3.out.alloc _
        have hba : Kept w1 wa t.has := by rw [hwa]; exact Hb3.out.alloc _
        have hblk : wa.heap[w3.heap.size]? = some (.cells #[.int .i64 ka, .int .i64 kb] 108 (0, 0)) := by rw [hwa]; exact blk_new _ _
        have hsa : wa.heap.size = w3.heap.size + 1 := by rw [hwa]; simp
        obtain ⟨-, c1, c2, -⟩ := hta.cells
        have z0 := blk_cell hblk 0
        have z1 := blk_cell hblk 1
        simp only [List.getElem?_toArray, List.getElem?_cons_zero, List.getElem?_cons_succ] at z0 z1
        have Hra := Lib.hid hra
        have Hta := Lib.hid hta
        have Hoa := Lib.hid hoa
        have Hba := Lib.hid hba
        have Hblk := Lib.hid hblk
        have Hsa := Lib.hid hsa
        clear hra hta hoa hba hblk hsa hwa
        go_region_law (first | (refine step_delete_R (κ := pairK) (ν := Value.bool) rfl _ _ 108 rfl Hra.out.drew kpair Try.underlying101 (⟨ka, hka⟩, ⟨kb, hkb⟩) (restM_no _ _) rfl rfl ?_; intro w4 hr4 hg4))
        all_goals
          have ht4 : TabAt w4 t ⟨d.last, m2c, mdel m3c (⟨ka, hka⟩, ⟨kb, hkb⟩), d.top⟩ := Hta.out.drew.wtsUp hr4.own hg4
          have hb4 : Kept w1 w4 t.has := Hba.out.drew.only hg4 (Or.inl (Or.inr (Or.inr (Or.inr rfl))))
          have ho4 : w4.ownsRow (w2.heap.size + 1) 3 1 u8 out.length (out.flatMap Icell) := (ownsRow_below Hoa.out (bel_drew (Below.refl _ _))).kept hg4 (Or.inr (row_ne_low Hoa.out (by omega)).symm)
          have hblk4 := (hg4.block w3.heap.size (by have := Hsa.out; show w3.heap.size < wa.heap.size; omega) (by simp; omega)).trans Hblk.out
          obtain ⟨-, c1, c2, -⟩ := ht4.cells
          have z0 := blk_cell hblk4 0
          simp only [List.getElem?_toArray, List.getElem?_cons_zero, List.getElem?_cons_succ] at z0
          have hlk := ht4.opn.drew.run_lookup kint Try.underlying100 (zint _) ka false
          rw [int_or, Hget.out] at hlk
          simp only [Option.getD_some, Bool.false_eq_true, if_false] at hlk
          obtain ⟨w5, hup, hown5, hg5⟩ := ht4.opn.drew.run_update kint Try.underlying100 ka (c - 1)
          have hwr : IntKind.i64.wrap (c - 1) = c - 1 := (by have := Hc12.out; rw [IntKind.wrap_i64]; omega)
          have Hr4 := Lib.hid hr4
          have Ht4 := Lib.hid ht4
          have Hb4 := Lib.hid hb4
          have Ho4 := Lib.hid ho4
          have Hblk4 := Lib.hid hblk4
          have Hg4 := Lib.hid hg4
          have Hown5 := Lib.hid hown5
          have Hg5 := Lib.hid hg5
          clear hr4 ht4 hb4 ho4 hblk4 hg4 hown5 hg5
          go_wp2_with fail
          go_region_law (fail)
          all_goals
            have hg5 := Hg5.out
            have ht5 : TabAt w5 t ⟨d.last, mput m2c ka (c - 1), mdel m3c (⟨ka, hka⟩, ⟨kb, hkb⟩), d.top⟩ := Ht4.out.drew.opnUp Hown5.out hg5
            have hr5 : RngM pairK Value.bool w5 t.r w2.heap.size (mdel m3c (⟨ka, hka⟩, ⟨kb, hkb⟩)) (restM todo (⟨ka, hka⟩, ⟨kb, hkb⟩)) := Hr4.out.drew.kept hg5 (by simpa using fun e => h.qr e.symm) (by simp; omega)
            have hb5 : Kept w1 w5 t.has := Hb4.out.drew.only hg5 (Or.inl (Or.inr (Or.inr (Or.inl rfl))))
            have ho5 : w5.ownsRow (w2.heap.size + 1) 3 1 u8 out.length (out.flatMap Icell) := (ownsRow_below Ho4.out (bel_drew (Below.refl _ _))).kept hg5 (Or.inr (row_ne_low Ho4.out (by omega)).symm)
            have hblk5 := (hg5.block w3.heap.size (by have := Hsa.out; have := Hg4.out.size; have h7 : wa.drew.heap.size = wa.heap.size := rfl; show w3.heap.size < w4.heap.size; omega) (by simp; omega)).trans Hblk4.out
            have hs5 : w2.heap.size + 1 ≤ w5.heap.size := by have := Hsa.out; have := Hg4.out.size; have h7 : wa.drew.heap.size = wa.heap.size := rfl; have := hg5.size; have h8 : w4.drew.heap.size = w4.heap.size := rfl; omega
            obtain ⟨-, c1, c2, -⟩ := ht5.cells
            have z0 := blk_cell hblk5 0
            simp only [List.getElem?_toArray, List.getElem?_cons_zero, List.getElem?_cons_succ] at z0
            have hlk := ht5.opn.drew.run_lookup kint Try.underlying100 (zint _) ka false
            rw [int_or, mget_mput, if_pos rfl] at hlk
            simp only [Option.getD_some, Bool.false_eq_true, if_false] at hlk
            have Hr5 := Lib.hid hr5
            have Ht5 := Lib.hid ht5
            have Hb5 := Lib.hid hb5
            have Ho5 := Lib.hid ho5
            clear hr5 ht5 hb5 ho5 hblk5 hg5 hup hwr Hr4 Ht4 Hb4 Ho4 Hblk4 Hg4 Hown5 Hg5 Hra Hta Hoa Hba Hblk Hsa
            go_wp2_with fail
            by_cases hc0 : c - 1 = 0
            · have hce : (c - 1 == 0) = true := by simpa using hc0
              go_region_law (fail)
              all_goals simp only [Act.put, List.getElem_toArray, List.getElem_cons_succ, List.getElem_cons_zero, List.setIfInBounds_toArray, List.set_cons_succ, List.set_cons_zero]
              all_goals
                have How5 : w5.ownsRow (w2.heap.size + 1) 3 1 u8 out.length _ := Ho5.out
                have hd2 := HD2.out
                rw [if_pos hc0] at hd2
                have Hd2 := Lib.hid hd2
                clear hd2
                go_wp2_with (at_builtin; refine wpList_append_own _ rfl _ _ 62 rfl (w2.heap.size + 1) 3 i0 _ 1 8 Try.underlying62 hi hz0 hz1 hz2 rfl (by decide) _ _ _ rfl (ownsRow_below How5 (bel_drew (bel_alloc (Below.refl _ _) _))) ⟨w5.heap.size, 0, none⟩ 1 1 (Icell ka) rfl rfl (cells_new w5 (Icell ka) _) (one_int _) (by simp only [maxLen]; omega) (by omega) (by simp; omega) ?_; intro v' w' hown' hg' hn')
                have hr' := ((Hr5.out.alloc _).drew).kept hg' (row_ne_low How5 (by omega)) (row_ne_low How5 (by omega))
                refine ⟨⟨_, _, _, out ++ [ka], _, Lib.hid hr', Lib.hid (((Ht5.out.alloc _).drew).of_blocks (fun k hk => hg'.block k ((Ht5.out.alloc _).drew.has_lt hk) (row_ne_low How5 (by rcases hk with rfl | rfl | rfl | rfl <;> omega)))), Hd2, Lib.hid ?_, Lib.hid ((Hb5.out.alloc _).drew.row hg' (fun g hg => by have := (How5.lt g hg).1; omega))⟩, ?_⟩
                · rw [List.length_append, List.flatMap_append]; simpa using hown'
                · rw [hr'.left_eq, hm0]; exact Hlen.out
            · have hce : (c - 1 == 0) = false := by simpa using hc0
              go_region_law (fail)
              all_goals simp only [Act.put, List.getElem_toArray, List.getElem_cons_succ, List.getElem_cons_zero, List.setIfInBounds_toArray, List.set_cons_succ, List.set_cons_zero]
              all_goals
                go_wp2_with fail
                have hd2 := HD2.out
                rw [if_neg hc0] at hd2
                have hr' : RngM pairK Value.bool w5.drew t.r w2.heap.size (mdel m3c (⟨ka, hka⟩, ⟨kb, hkb⟩)) (restM todo (⟨ka, hka⟩, ⟨kb, hkb⟩)) := Hr5.out.of_block rfl rfl
                refine ⟨⟨_, _, _, out, _, Lib.hid hr', Lib.hid (Ht5.out.of_blocks (fun _ _ => rfl)), Lib.hid hd2, Lib.hid (ownsRow_below Ho5.out (bel_drew (Below.refl _ _))), Lib.hid Hb5.out.drew⟩, ?_⟩
                rw [hr'.left_eq, hm0]; exact Hlen.out
      · have hne : (kb == n) = false := by simpa using hkn
        have hne2 : (kb != n) = true := by simpa using hkn
        go_wp2_with fail
        have hr' := Hr3.out.alloc (.cells #[.int .i64 ka, .int .i64 kb] 108)
        refine ⟨⟨_, m3c, D, out, m2c, Lib.hid hr', Lib.hid (Ht3.out.alloc _), Lib.hid (HD.out.skip hkn Hpm.out), Lib.hid (Ho3.out.alloc _), Lib.hid (Hb3.out.alloc _)⟩, ?_⟩
        rw [hr'.left_eq, hm0]; exact Hlen.out
end Go.Proofs.Ytdcnaieieggclaa

/- deps.Table.Add: the walk. -/
namespace Go.Proofs.Ytdcnaieieggclaa
open Go.RowKit
set_option linter.unusedVariables false
set_option linter.unusedSimpArgs false

open Go.Maps Go.Sort
def addW (d : DT) (n : Int) (s : List ((I64 × I64) × Bool) × Nat) (x : Wr) : List ((I64 × I64) × Bool) × Nat :=
  if (mget d.opn ((mget d.last x.key).getD 0)).isSome = true ∧ (mget s.1 (toI n, toI ((mget d.last x.key).getD 0))).getD false = false then (mput s.1 (toI n, toI ((mget d.last x.key).getD 0)) true, s.2 + 1) else s
def addWs (d : DT) (n : Int) (ws : List Wr) (k : Nat) : List ((I64 × I64) × Bool) × Nat := (ws.take k).foldl (addW d n) (d.wts, 0)
theorem addWs_succ (d : DT) (n : Int) {ws : List Wr} {k : Nat} {x : Wr} (h : ws[k]? = some x) : addWs d n ws (k + 1) = addW d n (addWs d n ws k) x := by
  unfold addWs
  rw [List.take_add_one, h, List.foldl_append]
  rfl
theorem addW_cnt (d : DT) (n : Int) (s : List ((I64 × I64) × Bool) × Nat) (x : Wr) : (addW d n s x).2 ≤ s.2 + 1 := by unfold addW; split <;> simp
theorem addWs_cnt (d : DT) (n : Int) (ws : List Wr) : ∀ k, (addWs d n ws k).2 ≤ k
  | 0 => by simp [addWs]
  | k + 1 => by
    cases h : ws[k]? with
    | none =>
      have : addWs d n ws (k + 1) = addWs d n ws k := by unfold addWs; rw [List.take_add_one, h]; simp
      rw [this]; have := addWs_cnt d n ws k; omega
    | some x => rw [addWs_succ d n h]; have := addW_cnt d n (addWs d n ws k) x; have := addWs_cnt d n ws k; omega
def putL (m : List (ByteArray × Int)) (n : Int) (ws : List Wr) (k : Nat) : List (ByteArray × Int) := (ws.take k).foldl (fun m x => mput m x.key n) m
theorem putL_succ (m : List (ByteArray × Int)) (n : Int) {ws : List Wr} {k : Nat} {x : Wr} (h : ws[k]? = some x) : putL m n ws (k + 1) = mput (putL m n ws k) x.key n := by
  unfold putL
  rw [List.take_add_one, h, List.foldl_append]
  rfl
def AddPost (w : World) (t : TB) (d : DT) (n : Int) (ws : List Wr) (e : Ending) (w' : World) : Prop := e = .returned (.tuple #[.int .i64 (addWs d n ws ws.length).2, .int .i64 0]) ∧
  TabAt w' t ⟨putL d.last n ws ws.length, mput d.opn n (addWs d n ws ws.length).2, (addWs d n ws ws.length).1, n⟩ ∧ Kept w w' t.has
set_option maxRecDepth 100000
set_option maxHeartbeats 4000000
theorem tadd_any (t : TB) (d : DT) (n : Int) (A : Option Addr) (len cap : Nat) (ws : List Wr) (w : World) (h : TabAt w t d) (hws : ∀ X, Kept w X t.has → WsAt X X.heap.size A len ws) (hb : txB n ws = true) (htop : d.top < n) (hlast : ∀ p ∈ d.last, 0 ≤ p.2 ∧ p.2 ≤ 65536) :
    Calls Try.prog 33 #[.pointer (some ⟨t.g, 0, none⟩), .agg #[.int .i64 n, .slice A len cap]] w (AddPost w t d n ws) := by
  have hlen := Lib.hid (hws w (Kept.refl _ _)).len
  have hn : 1 ≤ n ∧ n ≤ 65536 ∧ ws.length ≤ 32 := by
    simp only [txB, Bool.and_eq_true, decide_eq_true_eq] at hb; exact ⟨hb.1.1.1, hb.1.1.2, hb.1.2⟩
  have hle : decide (n ≤ d.top) = false := decide_eq_false (by omega)
  obtain ⟨W1, hW1⟩ : ∃ W1 : World, W1 = w.alloc (.cells #[.int .i64 n, .slice A len cap] 37) := ⟨_, rfl⟩
  have hT1 : TabAt W1 t d := by rw [hW1]; exact h.alloc _
  have hlts := h.lt
  have hK1 : Kept w W1 t.has := by rw [hW1]; exact (Kept.refl _ _).alloc _
  have hz : W1.heap.size = w.heap.size + 1 := by rw [hW1]; simp
  have hx : ∀ X : World, Kept W1 X t.has → X.cell? ⟨w.heap.size, 0, none⟩ = some (.int .i64 n) ∧ X.cell? ⟨w.heap.size, 1, none⟩ = some (.slice A len cap) ∧ WsAt X X.heap.size A len ws ∧ W1.heap.size ≤ X.heap.size ∧ Kept w X t.has := fun X hX => by
    have hblk : X.heap[w.heap.size]? = some (.cells #[.int .i64 n, .slice A len cap] 37 (0, 0)) := (hX.block _ (by omega) (fun hh => by rcases hh with e | e | e | e <;> omega)).trans (by rw [hW1]; exact blk_new _ _)
    have x0 := blk_cell hblk 0
    have x1 := blk_cell hblk 1
    simp only [List.getElem?_toArray, List.getElem?_cons_zero, List.getElem?_cons_succ] at x0 x1
    exact ⟨x0, x1, hws X (hK1.trans hX), hX.size, hK1.trans hX⟩
  have HX := Lib.hid hx
  have Hb := Lib.hid hb
  have Hlast := Lib.hid hlast
  have Hn := Lib.hid hn
  have Hz := Lib.hid hz
  clear hx hb hlast hn hws hK1 hz htop
  go_enter Try.func33, Try.ntmps33
  go_wp2_with fail
  rw [← hW1]
  refine (gone_any t d _ hT1).mono ?_
  rintro e w1 ⟨rfl, rfl⟩
  obtain ⟨x0, x1, hwx, -, -⟩ := HX.out w1 (Kept.refl _ _)
  clear hW1
  go_wp2_with fail
  refine (check_any n A len cap ws _ hwx (by have := Hn.out; have := hlen.out; omega)).mono ?_
  rintro e w2 ⟨rfl, hb2⟩
  rw [Hb.out]
  have hT2 := hT1.below hb2
  have hK2 : Kept w1 w2 t.has := Kept.of_below hb2
  obtain ⟨x0, x1, hwx, -, -⟩ := HX.out w2 hK2
  obtain ⟨-, -, -, c3⟩ := hT2.cells
  have HT2 := Lib.hid hT2
  have HK2 := Lib.hid hK2
  clear hT2 hK2 hb2 hT1 hwx
  have e0 : errOf true = 0 := rfl
  go_wp2_with fail
  go_quiet (fail)
  go_wp2_with fail
  have hl32 : len ≤ 32 := by have := Hn.out; have := hlen.out; omega
  go_loopw [6, 32] (fun c i wr => ∃ k : Nat, k ≤ len ∧ i = .int .i64 k ∧ c = .int .i64 ((addWs d n ws k).2 : Nat) ∧ Hid (TabAt wr t ⟨d.last, d.opn, (addWs d n ws k).1, d.top⟩) ∧ Hid (Kept w1 wr t.has)) (fun _ i _ => len - (RowKit.intOf i).toNat)
  case atStart => exact ⟨0, Nat.zero_le _, rfl, rfl, Lib.hid (HT2.out.of_blocks (fun _ _ => rfl)), Lib.hid (HK2.out.drewN _)⟩
  case round =>
    obtain ⟨k, hk, rfl, rfl, HT, HK⟩ := hrel
    obtain ⟨x0, x1, hwx, hsw, hkw⟩ := HX.out wr HK.out
    have Hsw := Lib.hid hsw
    clear hsw hkw
    by_cases hkl : k < len
    · obtain ⟨bb, off, x, hA, hbl, hx, y0, y1, y2⟩ := WsAt.cell3 hwx hkl
      subst hA
      have hsucc := addWs_succ d n hx
      have hcnt := addWs_cnt d n ws k
      generalize addWs d n ws k = sk at *
      obtain ⟨W, c⟩ := sk
      have Hsucc := Lib.hid hsucc
      have Hx := Lib.hid hx
      clear hsucc hwx hx
      simp only at HT hcnt
      obtain ⟨l, hl⟩ : ∃ l : Int, l = (mget d.last x.key).getD 0 := ⟨_, rfl⟩
      have hl0 : 0 ≤ l ∧ l ≤ 65536 := by
        rw [hl]
        cases hg : mget d.last x.key with
        | none => simp
        | some v => exact Hlast.out _ (mget_some_mem hg)
      obtain ⟨o, ho⟩ : ∃ o : Bool, o = (mget d.opn l).isSome := ⟨_, rfl⟩
      obtain ⟨b, hb⟩ : ∃ b : Bool, b = (mget W (toI n, toI l)).getD false := ⟨_, rfl⟩
      have Hl := Lib.hid hl
      have Ho := Lib.hid ho
      have Hbb := Lib.hid hb
      clear hl ho hb
      obtain ⟨wc, hwc⟩ : ∃ wc : World, wc = wr.alloc (.cells #[.string x.key, .string x.val, .bool x.drop] 39) := ⟨_, rfl⟩
      have hTc : TabAt wc t ⟨d.last, d.opn, W, d.top⟩ := by rw [hwc]; exact HT.out.alloc _
      have hKc : Kept w1 wc t.has := by rw [hwc]; exact HK.out.alloc _
      have hzc : wc.heap.size = wr.heap.size + 1 := by rw [hwc]; simp
      have hxc : wc.heap[wr.heap.size]? = some (.cells #[.string x.key, .string x.val, .bool x.drop] 39 (0, 0)) := by rw [hwc]; exact blk_new _ _
      have hS : ∀ X, Below wc.heap.size wc X → X.cell? ⟨w.heap.size, 0, none⟩ = some (.int .i64 n) ∧ X.cell? ⟨t.g, 0, none⟩ = some (.map (some t.p)) ∧ X.cell? ⟨wr.heap.size, 0, none⟩ = some (.string x.key) ∧ (Instr.lookup 99 (.map (some t.p)) (.string x.key) false).run Try.prog X = .ok (.int .i64 l) X := fun X hX => by
        have hTX := hTc.below hX
        obtain ⟨c0, -⟩ := hTX.cells
        obtain ⟨x0, -⟩ := HX.out X (hKc.trans (Kept.of_below hX))
        have hbX := (hX.block wr.heap.size (by omega)).trans hxc
        have z0 := blk_cell hbX 0
        simp only [List.getElem?_toArray, List.getElem?_cons_zero, List.getElem?_cons_succ] at z0
        have hlk := hTX.last.run_lookup kstr Try.underlying99 (zint _) x.key false
        rw [last_or, ← Hl.out] at hlk
        simp only [Bool.false_eq_true, if_false] at hlk
        exact ⟨x0, c0, z0, hlk⟩
      obtain ⟨x0, c0, z0, hlk⟩ := hS wc (Below.refl _ _)
      have HS := Lib.hid hS
      have HTc := Lib.hid hTc
      have HKc := Lib.hid hKc
      have Hzc := Lib.hid hzc
      clear hS hTc hKc hzc hxc
      go_wp2_with fail
      rw [← hwc]
      have Hwc := Lib.hid hwc
      clear hwc
      go_region_held3 (fun X => X.cell? ⟨w.heap.size, 0, none⟩ = some (.int .i64 n) ∧ X.cell? ⟨t.g, 0, none⟩ = some (.map (some t.p)) ∧ X.cell? ⟨wr.heap.size, 0, none⟩ = some (.string x.key) ∧ (Instr.lookup 99 (.map (some t.p)) (.string x.key) false).run Try.prog X = .ok (.int .i64 l) X)
        (first | (refine HS.out _ ?_; (first | exact bel_drew (Below.refl _ _) | exact bel_drew (bel_alloc (Below.refl _ _) _) | exact bel_alloc (bel_drew (Below.refl _ _)) _)))
        (first | fail)
      all_goals
        obtain ⟨wa, hwa⟩ : ∃ wa : World, wa = (wc.alloc (.cells #[.int .i64 n, .int .i64 l] 108)).drew := ⟨_, rfl⟩
        have hTa : TabAt wa t ⟨d.last, d.opn, W, d.top⟩ := by rw [hwa]; exact (HTc.out.alloc _).drew
        have hKa : Kept w1 wa t.has := by rw [hwa]; exact (HKc.out.alloc _).drew
        have hza : wa.heap[wc.heap.size]? = some (.cells #[.int .i64 n, .int .i64 l] 108 (0, 0)) := by rw [hwa]; exact blk_new _ _
        have hwn : (Lit.int .i64 n).wf = true := WalkArith.wf_i64 (by have := Hn.out; omega)
        have hwl : (Lit.int .i64 l).wf = true := WalkArith.wf_i64 (by omega)
        have hpk : pairK (toI n, toI l) = .agg #[.int .i64 n, .int .i64 l] := by simp only [pairK, toI_val hwn, toI_val hwl]
        have hS2 : ∀ X, Below wa.heap.size wa X → X.cell? ⟨t.g, 1, none⟩ = some (.map (some t.q)) ∧ X.cell? ⟨t.g, 2, none⟩ = some (.map (some t.r)) ∧ X.cell? ⟨wc.heap.size, 0, none⟩ = some (.int .i64 n) ∧ X.cell? ⟨wc.heap.size, 1, none⟩ = some (.int .i64 l) ∧ (Instr.lookup 100 (.map (some t.q)) (.int .i64 l) true).run Try.prog X = .ok (.tuple #[.int .i64 ((mget d.opn l).getD 0), .bool o]) X ∧ (Instr.lookup 101 (.map (some t.r)) (.agg #[.int .i64 n, .int .i64 l]) false).run Try.prog X = .ok (.bool b) X := fun X hX => by
          have hTX := hTa.below hX
          obtain ⟨-, c1, c2, -⟩ := hTX.cells
          have hbX := (hX.block wc.heap.size (blk_lt hza)).trans hza
          have z0 := blk_cell hbX 0
          have z1 := blk_cell hbX 1
          simp only [List.getElem?_toArray, List.getElem?_cons_zero, List.getElem?_cons_succ] at z0 z1
          have hl1 := hTX.opn.run_lookup kint Try.underlying100 (zint _) l true
          rw [int_or, ← Ho.out] at hl1
          simp only [if_true] at hl1
          have hl2 := hTX.wts.run_lookup kpair Try.underlying101 (z := .bool false) (by kernel_rfl) (toI n, toI l) false
          rw [wait_or, ← Hbb.out, hpk] at hl2
          simp only [Bool.false_eq_true, if_false] at hl2
          exact ⟨c1, c2, z0, z1, hl1, hl2⟩
        obtain ⟨c1, c2, z0, z1, hl1, hl2⟩ := hS2 wa (Below.refl _ _)
        have HS2 := Lib.hid hS2
        have HTa := Lib.hid hTa
        have HKa := Lib.hid hKa
        have Hza := Lib.hid hza
        have Hpk := Lib.hid hpk
        rw [← hwa]
        clear hS2 hTa hKa hza hpk hwa hwn hwl
        go_wp2_with fail
        go_region_held3 (fun X => X.cell? ⟨t.g, 1, none⟩ = some (.map (some t.q)) ∧ X.cell? ⟨t.g, 2, none⟩ = some (.map (some t.r)) ∧ X.cell? ⟨wc.heap.size, 0, none⟩ = some (.int .i64 n) ∧ X.cell? ⟨wc.heap.size, 1, none⟩ = some (.int .i64 l) ∧ (Instr.lookup 100 (.map (some t.q)) (.int .i64 l) true).run Try.prog X = .ok (.tuple #[.int .i64 ((mget d.opn l).getD 0), .bool o]) X ∧ (Instr.lookup 101 (.map (some t.r)) (.agg #[.int .i64 n, .int .i64 l]) false).run Try.prog X = .ok (.bool b) X)
          (first | (refine HS2.out _ ?_; (first | exact bel_drew (Below.refl _ _) | exact bel_drew (bel_drew (Below.refl _ _)))))
          (first | fail)
        obtain ⟨c1, c2, z0, z1, hl1, hl2⟩ := HS2.out wa.drew (bel_drew (Below.refl _ _))
        cases o
        case false =>
          go_wp2_with fail
          (first | (go_region_law (fail)) | fail)
          all_goals try simp only [Act.put, List.getElem_toArray, List.getElem_cons_succ, List.getElem_cons_zero, List.setIfInBounds_toArray, List.set_cons_succ, List.set_cons_zero]
          all_goals
            go_wp2_with fail
            have hadd : addW d n (W, c) x = (W, c) := by
              simp only [addW, ← Hl.out]
              rw [if_neg (by rw [← Ho.out]; simp)]
            refine ⟨⟨k + 1, by omega, by go_num, by rw [Hsucc.out, hadd], Lib.hid ?_, Lib.hid ⟨HKa.out.os, HKa.out.tape, HKa.out.output, HKa.out.size, HKa.out.block⟩⟩, by simp [RowKit.intOf]; omega⟩
            rw [Hsucc.out, hadd]
            exact HTa.out.of_blocks (fun _ _ => rfl)
        case true =>
          go_wp2_with fail
          go_region_held3 (fun X => X.cell? ⟨t.g, 1, none⟩ = some (.map (some t.q)) ∧ X.cell? ⟨t.g, 2, none⟩ = some (.map (some t.r)) ∧ X.cell? ⟨wc.heap.size, 0, none⟩ = some (.int .i64 n) ∧ X.cell? ⟨wc.heap.size, 1, none⟩ = some (.int .i64 l) ∧ (Instr.lookup 100 (.map (some t.q)) (.int .i64 l) true).run Try.prog X = .ok (.tuple #[.int .i64 ((mget d.opn l).getD 0), .bool true]) X ∧ (Instr.lookup 101 (.map (some t.r)) (.agg #[.int .i64 n, .int .i64 l]) false).run Try.prog X = .ok (.bool b) X)
            (first | (refine HS2.out _ ?_; (first | exact bel_drew (Below.refl _ _) | exact bel_drew (bel_drew (Below.refl _ _)))))
            (first | fail)
          all_goals try simp only [Act.put, List.getElem_toArray, List.getElem_cons_succ, List.getElem_cons_zero, List.setIfInBounds_toArray, List.set_cons_succ, List.set_cons_zero]
          all_goals
            cases b
            case true =>
              go_wp2_with fail
              have hadd : addW d n (W, c) x = (W, c) := by
                simp only [addW, ← Hl.out]
                rw [if_neg (by rw [← Hbb.out]; simp)]
              refine ⟨⟨k + 1, by omega, by go_num, by rw [Hsucc.out, hadd], Lib.hid ?_, Lib.hid ⟨HKa.out.os, HKa.out.tape, HKa.out.output, HKa.out.size, HKa.out.block⟩⟩, by simp [RowKit.intOf]; omega⟩
              rw [Hsucc.out, hadd]
              exact HTa.out.of_blocks (fun _ _ => rfl)
            case false =>
              have hT13 : TabAt wa.drew.drew.drew t ⟨d.last, d.opn, W, d.top⟩ := HTa.out.of_blocks (fun _ _ => rfl)
              obtain ⟨c1, c2, z0, z1, hl1, hl2⟩ := HS2.out wa.drew.drew (bel_drew (bel_drew (Below.refl _ _)))
              obtain ⟨w5, hup, hown5, hg5⟩ := hT13.wts.run_update kpair Try.underlying101 (toI n, toI l) true
              rw [Hpk.out] at hup
              have hT5 := hT13.wtsUp hown5 hg5
              have hK13 : Kept w1 wa.drew.drew.drew t.has := ⟨HKa.out.os, HKa.out.tape, HKa.out.output, HKa.out.size, HKa.out.block⟩
              have HK5 := Lib.hid (hK13.only hg5 (Or.inl (Or.inr (Or.inr (Or.inr rfl)))))
              have HT5 := Lib.hid hT5
              have hadd : addW d n (W, c) x = (mput W (toI n, toI l) true, c + 1) := by
                simp only [addW, ← Hl.out]
                rw [if_pos ⟨Ho.out.symm, Hbb.out.symm⟩]
              have Hadd := Lib.hid hadd
              clear hT5 hT13 hown5 hg5 hK13 hl1 hl2 hadd
              go_wp2_with fail
              go_region_law (fail)
              all_goals
                go_wp2_with fail
                refine ⟨⟨k + 1, by omega, by go_num, by rw [Hsucc.out, Hadd.out]; go_num, Lib.hid ?_, HK5⟩, by simp [RowKit.intOf]; omega⟩
                rw [Hsucc.out, Hadd.out]
                exact HT5.out
    · obtain rfl : k = len := by omega
      obtain ⟨sk, hsk⟩ : ∃ sk, sk = addWs d n ws k := ⟨_, rfl⟩
      rw [← hsk] at HT ⊢
      have Hsk := Lib.hid hsk
      clear hsk hwx
      obtain ⟨W, c⟩ := sk
      simp only at HT ⊢
      go_wp2_with fail
      go_loopw [77] (fun i wi => ∃ q : Nat, q ≤ k ∧ i = .int .i64 q ∧ Hid (TabAt wi t ⟨putL d.last n ws q, d.opn, W, d.top⟩) ∧ Hid (Kept w1 wi t.has)) (fun i _ => k - (RowKit.intOf i).toNat)
      case atStart => exact ⟨0, Nat.zero_le _, rfl, HT, HK⟩
      case round =>
        obtain ⟨q, hq, rfl, HTi, HKi⟩ := hrel
        obtain ⟨x0, x1, hwx, -, -⟩ := HX.out wr HKi.out
        clear HT HK
        by_cases hql : q < k
        · obtain ⟨bb, off, x, hA, hbl, hx, y0, y1, y2⟩ := WsAt.cell3 hwx hql
          subst hA
          have hsucc := putL_succ d.last n hx
          generalize putL d.last n ws q = m1 at HTi hsucc
          have Hsucc := Lib.hid hsucc
          clear hsucc hwx hx
          obtain ⟨wc, hwc⟩ : ∃ wc : World, wc = wr.alloc (.cells #[.string x.key, .string x.val, .bool x.drop] 39) := ⟨_, rfl⟩
          have hTc : TabAt wc t ⟨m1, d.opn, W, d.top⟩ := by rw [hwc]; exact HTi.out.alloc _
          have hKc : Kept w1 wc t.has := by rw [hwc]; exact HKi.out.alloc _
          have hzc : wc.heap.size = wr.heap.size + 1 := by rw [hwc]; simp
          have hxc : wc.heap[wr.heap.size]? = some (.cells #[.string x.key, .string x.val, .bool x.drop] 39 (0, 0)) := by rw [hwc]; exact blk_new _ _
          obtain ⟨w5, hup, hown5, hg5⟩ := hTc.drew.last.run_update kstr Try.underlying99 x.key n
          have hT5 := hTc.drew.lastUp hown5 hg5
          have hK5 := hKc.drew.only hg5 (Or.inl (Or.inr (Or.inl rfl)))
          have hS : ∀ X, TabAt X t ⟨m1, d.opn, W, d.top⟩ ∨ TabAt X t ⟨mput m1 x.key n, d.opn, W, d.top⟩ → Kept w1 X t.has → X.heap[wr.heap.size]? = some (.cells #[.string x.key, .string x.val, .bool x.drop] 39 (0, 0)) → X.cell? ⟨w.heap.size, 0, none⟩ = some (.int .i64 n) ∧ X.cell? ⟨t.g, 0, none⟩ = some (.map (some t.p)) ∧ X.cell? ⟨wr.heap.size, 0, none⟩ = some (.string x.key) := fun X hTX hKX hbX => by
            have c0 : X.cell? ⟨t.g, 0, none⟩ = some (.map (some t.p)) := by rcases hTX with h | h <;> exact h.cells.1
            obtain ⟨x0, -⟩ := HX.out X hKX
            have z0 := blk_cell hbX 0
            simp only [List.getElem?_toArray, List.getElem?_cons_zero, List.getElem?_cons_succ] at z0
            exact ⟨x0, c0, z0⟩
          have hsr : w.heap.size + 1 ≤ wr.heap.size := by have := (HX.out wr HKi.out).2.2.2.1; have := Hz.out; omega
          obtain ⟨x0, c0, z0⟩ := hS wc (Or.inl hTc) hKc hxc
          have HS0 := Lib.hid (hS wc.drew (Or.inl hTc.drew) hKc.drew hxc)
          have HS5 := Lib.hid (hS w5 (Or.inr hT5) hK5 ((hg5.block wr.heap.size (by show wr.heap.size < wc.heap.size; omega) (by have := hlts; simp; omega)).trans hxc))
          have HT5 := Lib.hid hT5
          have HK5 := Lib.hid hK5
          clear hS hTc hKc hzc hxc hown5 hg5 hT5 hK5
          go_wp2_with fail
          rw [← hwc]
          have Hwc := Lib.hid hwc
          clear hwc
          go_region_held3 (fun X => X.cell? ⟨w.heap.size, 0, none⟩ = some (.int .i64 n) ∧ X.cell? ⟨t.g, 0, none⟩ = some (.map (some t.p)) ∧ X.cell? ⟨wr.heap.size, 0, none⟩ = some (.string x.key))
            (first | exact HS0.out | exact HS5.out)
            (first | fail)
          all_goals try simp only [Act.put, List.getElem_toArray, List.getElem_cons_succ, List.getElem_cons_zero, List.setIfInBounds_toArray, List.set_cons_succ, List.set_cons_zero]
          all_goals
            go_wp2_with fail
            refine ⟨⟨q + 1, by omega, by go_num, Lib.hid ?_, HK5⟩, by simp [RowKit.intOf]; omega⟩
            rw [Hsucc.out]
            exact HT5.out
        · obtain rfl : q = k := by omega
          have hTi := HTi.out
          obtain ⟨-, c1, -, -⟩ := hTi.cells
          obtain ⟨w5, hup, hown5, hg5⟩ := hTi.drew.opn.run_update kint Try.underlying100 n (c : Int)
          have hT5 := hTi.drew.opnUp hown5 hg5
          have hK5 := HKi.out.drew.only hg5 (Or.inl (Or.inr (Or.inr (Or.inl rfl))))
          obtain ⟨y0, -⟩ := HX.out w5 hK5
          have k3 := hT5.cells.2.2.2
          have k4 := blk_frozen hT5.cell 3
          have HT5 := Lib.hid hT5
          have HK5 := Lib.hid hK5
          clear hTi hwx hown5 hg5 hT5 hK5
          go_wp2_with fail
          go_region_law (fail)
          all_goals try simp only [Act.put, List.getElem_toArray, List.getElem_cons_succ, List.getElem_cons_zero, List.setIfInBounds_toArray, List.set_cons_succ, List.set_cons_zero]
          all_goals
            go_wp2_with fail
            go_ret2
            have e1 : ws.length = q := hlen.out
            unfold AddPost
            rw [e1, ← Hsk.out]
            have hT5 := HT5.out
            refine ⟨rfl, ⟨by simpa using blk_set hT5.cell 3 (.int .i64 n), hT5.last.setCell _ _ (Ne.symm hT5.gp), hT5.opn.setCell _ _ (Ne.symm hT5.gq), hT5.wts.setCell _ _ (Ne.symm hT5.gr), hT5.pq, hT5.pr, hT5.qr⟩, ?_⟩
            exact (HX.out _ HK5.out).2.2.2.2.setCell (Or.inl (Or.inl rfl)) _
end Go.Proofs.Ytdcnaieieggclaa

/- What a table holds, in plain words: m have been added, E says which have ended. -/
namespace Go.Proofs.Ytdcnaieieggclaa
open Go.RowKit
set_option linter.unusedVariables false
set_option linter.unusedSimpArgs false

open Go.Maps Go.Sort
theorem nodup_le {α : Type} [DecidableEq α] : ∀ {l l' : List α}, l.Nodup → (∀ x ∈ l, x ∈ l') → l.length ≤ l'.length
  | [], _, _, _ => Nat.zero_le _
  | a :: l, l', hn, hs => by
    simp only [List.nodup_cons] at hn
    have h1 := nodup_le (l := l) (l' := l'.erase a) hn.2 (fun x hx => by
      have hxa : x ≠ a := by rintro rfl; exact hn.1 hx
      exact (List.mem_erase_of_ne hxa).2 (hs x (by simp [hx])))
    have h2 := List.length_erase_of_mem (hs a (by simp))
    have h3 : 0 < l'.length := List.length_pos_of_mem (hs a (by simp))
    simp only [List.length_cons]; omega
theorem nodup_perm {α : Type} [DecidableEq α] {l l' : List α} (h : l.Nodup) (h' : l'.Nodup) (hm : ∀ x, x ∈ l ↔ x ∈ l') : l.Perm l' := (List.perm_ext_iff_of_nodup h h').2 hm
def depB (rs : List RTx) (a b : Nat) : Bool := decide (1 ≤ b) && (wsOf rs (a - 1)).any fun x => decide (lastN rs x.key (a - 1) = b)
theorem depB_iff {rs : List RTx} {a b : Nat} : depB rs a b = true ↔ dep rs a b := by
  simp only [depB, Bool.and_eq_true, decide_eq_true_eq, List.any_eq_true, dep]
/-- The open ones that a waits for, rising. -/
def depL (rs : List RTx) (E : Nat → Bool) (a : Nat) : List Nat := (List.range a).filter fun b => depB rs a b && !E b
theorem mem_depL {rs : List RTx} {E : Nat → Bool} {a b : Nat} : b ∈ depL rs E a ↔ dep rs a b ∧ E b = false := by
  simp only [depL, List.mem_filter, List.mem_range, Bool.and_eq_true, Bool.not_eq_true', depB_iff]
  exact ⟨fun h => h.2, fun h => ⟨(dep_lt h.1).2, h⟩⟩
theorem depL_nodup (rs : List RTx) (E : Nat → Bool) (a : Nat) : (depL rs E a).Nodup := List.nodup_range.filter _
theorem depL_rises (rs : List RTx) (E : Nat → Bool) (a : Nat) : (depL rs E a).Pairwise (· < ·) := List.pairwise_lt_range.filter _
/-- The open ones, rising. -/
def openL (m : Nat) (E : Nat → Bool) : List Nat := (List.range (m + 1)).filter fun a => decide (1 ≤ a) && !E a
theorem mem_openL {m : Nat} {E : Nat → Bool} {a : Nat} : a ∈ openL m E ↔ 1 ≤ a ∧ a ≤ m ∧ E a = false := by
  simp only [openL, List.mem_filter, List.mem_range, Bool.and_eq_true, Bool.not_eq_true', decide_eq_true_eq]
  exact ⟨fun h => ⟨h.2.1, by omega, h.2.2⟩, fun h => ⟨by omega, h.1, h.2.2⟩⟩
theorem openL_rises (m : Nat) (E : Nat → Bool) : (openL m E).Pairwise (· < ·) := List.pairwise_lt_range.filter _
def ints (l : List Nat) : List Int := l.map fun (n : Nat) => (n : Int)
theorem sortI_of {l : List Int} {r : List Nat} (h : l.Perm (ints r)) (hr : r.Pairwise (· < ·)) : sortI l = ints r := by
  rw [sortI_perm h]
  unfold sortI
  refine List.mergeSort_of_pairwise ?_
  unfold ints
  rw [List.pairwise_map]
  exact hr.imp fun h => by simp; omega
structure TInv (rs : List RTx) (m : Nat) (E : Nat → Bool) (d : DT) : Prop where
  top : d.top = m
  last : ∀ k, (mget d.last k).getD 0 = lastN rs k m
  lastb : ∀ p ∈ d.last, 0 ≤ p.2 ∧ p.2 ≤ 65536
  opn : ∀ z : Int, mget d.opn z = if 1 ≤ z ∧ z ≤ m ∧ E z.toNat = false then some ((depL rs E z.toNat).length : Int) else none
  wts : ∀ k : I64 × I64, mget d.wts k = if (1 ≤ k.1.1 ∧ k.1.1 ≤ m ∧ 1 ≤ k.2.1 ∧ depB rs k.1.1.toNat k.2.1.toNat = true ∧ E k.2.1.toNat = false) then some true else none
  closed : Closed rs m E
  fut : ∀ j, m < j → E j = false
  no : (d.opn.map (·.1)).Nodup
  nw : (d.wts.map (·.1)).Nodup
theorem TInv.start (rs : List RTx) (E : Nat → Bool) (hE : ∀ j, E j = false) : TInv rs 0 E ⟨[], [], [], 0⟩ := by
  refine ⟨rfl, fun k => (by simp [mget, lastN]), fun p hp => (by cases hp), fun z => ?_, fun k => ?_, fun a h1 h2 => (by omega), fun j _ => hE j, by simp, by simp⟩
  · rw [if_neg (by omega)]; rfl
  · rw [if_neg (by omega)]; rfl
section
variable {rs : List RTx} {m : Nat} {E : Nat → Bool} {d : DT}
theorem TInv.isOpen (h : TInv rs m E d) (z : Int) : (mget d.opn z).isSome = true ↔ 1 ≤ z ∧ z ≤ m ∧ E z.toNat = false := by
  rw [h.opn]; split <;> simp [*]
theorem TInv.mem_opn (h : TInv rs m E d) (z : Int) : z ∈ d.opn.map (·.1) ↔ 1 ≤ z ∧ z ≤ m ∧ E z.toNat = false := by
  rw [← h.isOpen z]
  cases hg : mget d.opn z with
  | none => simp only [Option.isSome_none]; have := (mget_none_iff _ _).1 hg; simp [this]
  | some v => simp only [Option.isSome_some, iff_true]; exact List.mem_map.2 ⟨_, mget_some_mem hg, rfl⟩
theorem TInv.opn_perm (h : TInv rs m E d) : (d.opn.map (·.1)).Perm (ints (openL m E)) := by
  refine nodup_perm h.no ?_ fun z => ?_
  · unfold ints; exact List.Pairwise.map _ (fun a b (hab : a ≠ b) => by omega) ((openL_rises m E).imp fun h => by omega)
  · rw [h.mem_opn]
    unfold ints
    simp only [List.mem_map, mem_openL]
    constructor
    · rintro ⟨h1, h2, h3⟩; exact ⟨z.toNat, ⟨by omega, by omega, h3⟩, by omega⟩
    · rintro ⟨a, ⟨h1, h2, h3⟩, rfl⟩; exact ⟨by omega, by omega, by simpa using h3⟩
theorem TInv.opn_len (h : TInv rs m E d) : d.opn.length ≤ m + 1 := by
  have := h.opn_perm.length_eq
  rw [List.length_map] at this
  rw [this]
  unfold ints openL
  rw [List.length_map]
  exact Nat.le_trans (List.length_filter_le _ _) (by simp)
theorem TInv.opn_sort (h : TInv rs m E d) : sortI (d.opn.map (·.1)) = ints (openL m E) := sortI_of h.opn_perm (openL_rises m E)
theorem TInv.mem_wts (h : TInv rs m E d) (k : I64 × I64) : k ∈ d.wts.map (·.1) ↔ (1 ≤ k.1.1 ∧ k.1.1 ≤ m ∧ 1 ≤ k.2.1 ∧ depB rs k.1.1.toNat k.2.1.toNat = true ∧ E k.2.1.toNat = false) := by
  have hw := h.wts k
  by_cases hc : (1 ≤ k.1.1 ∧ k.1.1 ≤ m ∧ 1 ≤ k.2.1 ∧ depB rs k.1.1.toNat k.2.1.toNat = true ∧ E k.2.1.toNat = false)
  · rw [if_pos hc] at hw
    exact ⟨fun _ => hc, fun _ => List.mem_map.2 ⟨_, mget_some_mem hw, rfl⟩⟩
  · rw [if_neg hc, mget_none_iff] at hw
    exact ⟨fun hh => absurd hh hw, fun hh => absurd hh hc⟩
theorem waitL_mem {W : List ((I64 × I64) × Bool)} {n a : Int} : a ∈ waitL W n ↔ ∃ k : I64 × I64, k ∈ W.map (·.1) ∧ k.1.1 = n ∧ k.2.1 = a := by
  unfold waitL
  simp only [List.mem_map, List.mem_filter, decide_eq_true_eq]
  constructor
  · rintro ⟨p, ⟨h1, h2⟩, h3⟩; exact ⟨p.1, ⟨p, h1, rfl⟩, h2, h3⟩
  · rintro ⟨k, ⟨p, h1, rfl⟩, h2, h3⟩; exact ⟨p, ⟨h1, h2⟩, h3⟩
theorem waitL_nodup {W : List ((I64 × I64) × Bool)} (n : Int) (h : (W.map (·.1)).Nodup) : (waitL W n).Nodup := by
  induction W with
  | nil => exact List.nodup_nil
  | cons p W ih =>
    simp only [List.map_cons, List.nodup_cons] at h
    rw [waitL_cons]
    split
    · rename_i hp
      refine List.nodup_cons.2 ⟨fun hm => ?_, ih h.2⟩
      obtain ⟨k, hk, h1, h2⟩ := waitL_mem.1 hm
      have : k = p.1 := Prod.ext (Subtype.ext (h1.trans hp.symm)) (Subtype.ext h2)
      exact h.1 (this ▸ hk)
    · exact ih h.2
theorem ints_nodup {l : List Nat} (h : l.Nodup) : (ints l).Nodup := List.Pairwise.map _ (fun a b (hab : a ≠ b) => by omega) h
theorem mem_ints {l : List Nat} {z : Int} : z ∈ ints l ↔ 0 ≤ z ∧ z.toNat ∈ l := by
  unfold ints
  rw [List.mem_map]
  constructor
  · rintro ⟨a, h, rfl⟩; exact ⟨by omega, by simpa using h⟩
  · rintro ⟨h0, h⟩; exact ⟨_, h, by omega⟩
theorem wfI {z : Int} (h : 0 ≤ z ∧ z ≤ 4294967296) : (Lit.int .i64 z).wf = true := WalkArith.wf_i64 (by omega)
theorem TInv.waits (h : TInv rs m E d) (hm : m ≤ 65536) {n : Nat} (h1 : 1 ≤ n) (h2 : n ≤ m) : sortI (waitL d.wts n) = ints (depL rs E n) := by
  refine sortI_of (nodup_perm (waitL_nodup _ h.nw) (ints_nodup (depL_nodup rs E n)) fun z => ?_) (depL_rises rs E n)
  rw [waitL_mem, mem_ints, mem_depL]
  constructor
  · rintro ⟨k, hk, h3, rfl⟩
    rw [h.mem_wts, h3] at hk
    refine ⟨by omega, ?_, hk.2.2.2.2⟩
    have := depB_iff.1 hk.2.2.2.1
    simpa using this
  · rintro ⟨h3, h4, h5⟩
    have hlt := dep_lt h4
    refine ⟨(toI n, toI z), ?_, toI_val (wfI (by omega)), toI_val (wfI (by omega))⟩
    rw [h.mem_wts]
    simp only [toI_val (wfI (show 0 ≤ (n : Int) ∧ (n : Int) ≤ 4294967296 by omega)), toI_val (wfI (show 0 ≤ z ∧ z ≤ 4294967296 by omega))]
    exact ⟨by omega, by omega, by omega, depB_iff.2 (by simpa using h4), h5⟩
theorem TInv.waits_len (h : TInv rs m E d) (hm : m ≤ 65536) {n : Nat} (h1 : 1 ≤ n) (h2 : n ≤ m) : (waitL d.wts n).length = (depL rs E n).length := by
  have := congrArg List.length (h.waits hm h1 h2)
  rw [length_sortI] at this
  rw [this]; unfold ints; simp
theorem grid_len (m : Nat) : ∀ n, ((List.range n).flatMap fun a => (List.range m).map fun b => (a, b)).length = n * m
  | 0 => by simp
  | n + 1 => by
    rw [List.range_succ, List.flatMap_append, List.length_append, grid_len m n]
    simp [Nat.add_mul]
theorem TInv.wts_len (h : TInv rs m E d) (hm : m ≤ 65536) : d.wts.length ≤ (m + 1) * (m + 1) := by
  have h1 : ((d.wts.map (·.1)).map fun k => (k.1.1.toNat, k.2.1.toNat)).Nodup := by
    refine List.pairwise_map.2 (List.Pairwise.imp_of_mem (fun {a b} ha hb hab e => ?_) h.nw)
    rw [h.mem_wts] at ha hb
    simp only [Prod.mk.injEq] at e
    exact hab (Prod.ext (Subtype.ext (by omega)) (Subtype.ext (by omega)))
  have h2 := nodup_le (l' := (List.range (m + 1)).flatMap fun a => (List.range (m + 1)).map fun b => (a, b)) h1 (fun x hx => by
    obtain ⟨k, hk, rfl⟩ := List.mem_map.1 hx
    rw [h.mem_wts] at hk
    have := dep_lt (depB_iff.1 hk.2.2.2.1)
    refine List.mem_flatMap.2 ⟨_, List.mem_range.2 (by omega), List.mem_map.2 ⟨_, List.mem_range.2 (by omega), rfl⟩⟩)
  rw [grid_len] at h2
  simpa using h2
end
end Go.Proofs.Ytdcnaieieggclaa

/- One more is added; one has ended: in plain words. -/

namespace Go.Proofs.Ytdcnaieieggclaa
open Go.RowKit
set_option linter.unusedVariables false
set_option linter.unusedSimpArgs false

open Go.Maps Go.Sort
theorem mem_mput {K V : Type} [DecidableEq K] {m : List (K × V)} {k : K} {v : V} {p : K × V} (h : p ∈ mput m k v) : p.2 = v ∨ p ∈ m := by
  induction m with
  | nil => simp [mput] at h; exact Or.inl (by rw [h])
  | cons q r ih =>
    obtain ⟨j, u⟩ := q
    simp only [mput] at h
    split at h
    · rcases List.mem_cons.1 h with h | h
      · exact Or.inl (by rw [h])
      · exact Or.inr (by simp [h])
    · rcases List.mem_cons.1 h with h | h
      · exact Or.inr (by simp [h])
      · rcases ih h with h | h
        · exact Or.inl h
        · exact Or.inr (by simp [h])
theorem putL_get (m : List (ByteArray × Int)) (n : Int) (ws : List Wr) (key : ByteArray) : ∀ k, (mget (putL m n ws k) key).getD 0 = if hasKey (ws.take k) key = true then n else (mget m key).getD 0
  | 0 => by simp [putL, hasKey]
  | k + 1 => by
    cases hx : ws[k]? with
    | none =>
      have h1 : ws.take (k + 1) = ws.take k := by rw [List.take_add_one, hx]; simp
      have h2 : putL m n ws (k + 1) = putL m n ws k := by unfold putL; rw [h1]
      rw [h1, h2]; exact putL_get m n ws key k
    | some x =>
      rw [putL_succ m n hx, mget_mput]
      have h1 : ws.take (k + 1) = ws.take k ++ [x] := by rw [List.take_add_one, hx]; rfl
      by_cases hk : x.key = key
      · rw [if_pos hk, if_pos ((hasKey_iff _ _).2 ⟨x, by rw [h1]; simp, hk⟩)]; rfl
      · rw [if_neg hk, putL_get m n ws key k]
        have : hasKey (ws.take (k + 1)) key = true ↔ hasKey (ws.take k) key = true := by
          rw [hasKey_iff, hasKey_iff, h1]
          constructor
          · rintro ⟨y, hy, e⟩
            rcases List.mem_append.1 hy with hy | hy
            · exact ⟨y, hy, e⟩
            · simp at hy; subst hy; exact absurd e hk
          · rintro ⟨y, hy, e⟩; exact ⟨y, by simp [hy], e⟩
        simp only [this]
theorem putL_bound (m : List (ByteArray × Int)) (n : Int) (ws : List Wr) (hn : 0 ≤ n ∧ n ≤ 65536) (hm : ∀ p ∈ m, 0 ≤ p.2 ∧ p.2 ≤ 65536) : ∀ k, ∀ p ∈ putL m n ws k, 0 ≤ p.2 ∧ p.2 ≤ 65536
  | 0, p, hp => hm p (by simpa [putL] using hp)
  | k + 1, p, hp => by
    cases hx : ws[k]? with
    | none =>
      have h2 : putL m n ws (k + 1) = putL m n ws k := by unfold putL; rw [List.take_add_one, hx]; simp
      rw [h2] at hp; exact putL_bound m n ws hn hm k p hp
    | some x =>
      rw [putL_succ m n hx] at hp
      rcases mem_mput hp with h | h
      · rw [h]; exact hn
      · exact putL_bound m n ws hn hm k p h
section
variable {rs : List RTx} {m : Nat} {E : Nat → Bool} {d : DT}
theorem TInv.adds (h : TInv rs m E d) (hm : m + 1 ≤ 65536) (ws : List Wr) : ∀ k, k ≤ ws.length → ∃ L : List Nat, L.Nodup ∧ (∀ b, b ∈ L ↔ (1 ≤ b ∧ b ≤ m ∧ E b = false) ∧ ∃ x ∈ ws.take k, lastN rs x.key m = b) ∧ (addWs d ((m : Int) + 1) ws k).2 = L.length ∧
    (∀ key : I64 × I64, mget (addWs d ((m : Int) + 1) ws k).1 key = if key.1.1 = (m : Int) + 1 ∧ 0 ≤ key.2.1 ∧ key.2.1.toNat ∈ L then some true else mget d.wts key) ∧ ((addWs d ((m : Int) + 1) ws k).1.map (·.1)).Nodup
  | 0, _ => ⟨[], by simp, by simp, rfl, by simp [addWs], by simpa [addWs] using h.nw⟩
  | k + 1, hk => by
    obtain ⟨L, h1, h2, h3, h4, h5⟩ := h.adds hm ws k (by omega)
    have hx : ws[k]? = some (ws[k]'(by omega)) := List.getElem?_eq_getElem _
    generalize ws[k]'(by omega) = x at hx
    have ht : ws.take (k + 1) = ws.take k ++ [x] := by rw [List.take_add_one, hx]; rfl
    have hop := h.isOpen (lastN rs x.key m : Nat)
    have hle := lastN_le rs x.key m
    rw [addWs_succ d _ hx, ht]
    generalize addWs d ((m : Int) + 1) ws k = s at *
    unfold addW
    rw [h.last]
    generalize hb : lastN rs x.key m = b at *
    have hv1 : (toI ((m : Int) + 1)).1 = (m : Int) + 1 := toI_val (wfI (by omega))
    have hv2 : (toI (b : Int)).1 = b := toI_val (wfI (by omega))
    have hg : mget s.1 (toI ((m : Int) + 1), toI (b : Int)) = if b ∈ L then some true else none := by
      rw [h4]
      simp only [hv1, hv2]
      by_cases hbl : b ∈ L
      · rw [if_pos ⟨trivial, by omega, by simpa using hbl⟩, if_pos hbl]
      · rw [if_neg (fun e => hbl (by simpa using e.2.2)), if_neg hbl, h.wts]
        simp only [hv1]
        rw [if_neg (by omega)]
    by_cases ho : (mget d.opn (b : Int)).isSome = true
    · have ho2 := hop.1 ho
      have ho3 : 1 ≤ b ∧ b ≤ m ∧ E b = false := ⟨by omega, by omega, by simpa using ho2.2.2⟩
      by_cases hbl : b ∈ L
      · rw [if_neg (by rw [hg, if_pos hbl]; simp)]
        refine ⟨L, h1, fun c => ?_, h3, h4, h5⟩
        rw [h2]
        constructor
        · rintro ⟨p, y, hy, e⟩; exact ⟨p, y, by simp [hy], e⟩
        · rintro ⟨p, y, hy, e⟩
          rcases List.mem_append.1 hy with hy | hy
          · exact ⟨p, y, hy, e⟩
          · simp at hy; subst hy
            rw [hb] at e; subst e
            exact ((h2 b).1 hbl)
      · rw [if_pos ⟨ho, by rw [hg, if_neg hbl]; rfl⟩]
        refine ⟨b :: L, List.nodup_cons.2 ⟨hbl, h1⟩, fun c => ?_, by simp [h3], fun key => ?_, nodup_mput _ _ h5⟩
        · rw [List.mem_cons, h2]
          constructor
          · rintro (rfl | ⟨p, y, hy, e⟩)
            · exact ⟨ho3, x, by simp, hb⟩
            · exact ⟨p, y, by simp [hy], e⟩
          · rintro ⟨p, y, hy, e⟩
            rcases List.mem_append.1 hy with hy | hy
            · exact Or.inr ⟨p, y, hy, e⟩
            · simp at hy; subst hy
              rw [hb] at e; exact Or.inl e.symm
        · rw [mget_mput]
          by_cases hkey : (toI ((m : Int) + 1), toI (b : Int)) = key
          · rw [if_pos hkey, ← hkey]
            simp only [hv1, hv2]
            rw [if_pos ⟨trivial, by omega, by simp⟩]
          · rw [if_neg hkey, h4]
            by_cases hc : key.1.1 = (m : Int) + 1 ∧ 0 ≤ key.2.1 ∧ key.2.1.toNat ∈ L
            · rw [if_pos hc, if_pos ⟨hc.1, hc.2.1, by simp [hc.2.2]⟩]
            · rw [if_neg hc, if_neg (fun e => ?_)]
              rcases List.mem_cons.1 e.2.2 with e2 | e2
              · exact hkey (Prod.ext (Subtype.ext (by rw [hv1]; exact e.1.symm)) (Subtype.ext (by rw [hv2]; omega)))
              · exact hc ⟨e.1, e.2.1, e2⟩
    · rw [if_neg (fun e => ho e.1)]
      refine ⟨L, h1, fun c => ?_, h3, h4, h5⟩
      rw [h2]
      constructor
      · rintro ⟨p, y, hy, e⟩; exact ⟨p, y, by simp [hy], e⟩
      · rintro ⟨p, y, hy, e⟩
        rcases List.mem_append.1 hy with hy | hy
        · exact ⟨p, y, hy, e⟩
        · simp at hy; subst hy
          rw [hb] at e; subst e
          exact absurd (hop.2 ⟨by omega, by omega, by simpa using p.2.2⟩) ho
theorem wsOf_at {rs : List RTx} {m : Nat} {r : RTx} (h : rs[m]? = some r) : wsOf rs m = r.ws := by unfold wsOf; rw [h]; rfl
theorem TInv.add (h : TInv rs m E d) (hm : m + 1 ≤ 65536) {r : RTx} (hr : rs[m]? = some r) :
    TInv rs (m + 1) E ⟨putL d.last ((m : Int) + 1) r.ws r.ws.length, mput d.opn ((m : Int) + 1) (addWs d ((m : Int) + 1) r.ws r.ws.length).2, (addWs d ((m : Int) + 1) r.ws r.ws.length).1, (m : Int) + 1⟩ ∧ (addWs d ((m : Int) + 1) r.ws r.ws.length).2 = (depL rs E (m + 1)).length := by
  obtain ⟨L, h1, h2, h3, h4, h5⟩ := h.adds hm r.ws r.ws.length (Nat.le_refl _)
  rw [List.take_of_length_le (Nat.le_refl _)] at h2
  have hw := wsOf_at hr
  have hdep : ∀ b, dep rs (m + 1) b ↔ 1 ≤ b ∧ ∃ x ∈ r.ws, lastN rs x.key m = b := fun b => by
    unfold dep; rw [Nat.add_sub_cancel, hw]
  have hL : ∀ b, b ∈ L ↔ b ∈ depL rs E (m + 1) := fun b => by
    rw [h2, mem_depL, hdep]
    constructor
    · rintro ⟨⟨p1, p2, p3⟩, p4⟩; exact ⟨⟨p1, p4⟩, p3⟩
    · rintro ⟨⟨p1, x, p2, p3⟩, p4⟩
      have := lastN_le rs x.key m
      exact ⟨⟨p1, by omega, p4⟩, x, p2, p3⟩
  have hc : L.length = (depL rs E (m + 1)).length := (nodup_perm h1 (depL_nodup rs E (m + 1)) hL).length_eq
  refine ⟨⟨by simp, fun k => ?_, putL_bound _ _ _ (by omega) h.lastb _, fun z => ?_, fun k => ?_, fun a ha1 ha2 hea b hb => ?_, fun j hj => h.fut j (by omega), nodup_mput _ _ h.no, h5⟩, by rw [h3, hc]⟩
  · simp only
    rw [putL_get, List.take_of_length_le (Nat.le_refl _), lastN, hw, h.last]
    split <;> simp
  · simp only
    rw [mget_mput, h3, hc, h.opn]
    by_cases hz : (m : Int) + 1 = z
    · subst hz
      rw [if_pos rfl, if_pos ⟨by omega, by simp, h.fut _ (by omega)⟩]
      rfl
    · rw [if_neg hz]
      by_cases hc2 : 1 ≤ z ∧ z ≤ m ∧ E z.toNat = false
      · rw [if_pos hc2, if_pos ⟨hc2.1, by have := hc2.2.1; simp; omega, hc2.2.2⟩]
      · rw [if_neg hc2, if_neg (fun e => hc2 ⟨e.1, by have := e.2.1; simp at this; omega, e.2.2⟩)]
  · simp only
    rw [h4, h.wts]
    by_cases hk : k.1.1 = (m : Int) + 1
    · have hkn : k.1.1.toNat = m + 1 := by omega
      by_cases hm2 : 0 ≤ k.2.1 ∧ k.2.1.toNat ∈ L
      · have h6 := mem_depL.1 ((hL _).1 hm2.2)
        have := dep_lt h6.1
        rw [if_pos ⟨hk, hm2⟩, if_pos ⟨by omega, by simp; omega, by omega, by rw [hkn]; exact depB_iff.2 h6.1, h6.2⟩]
      · rw [if_neg (fun e => hm2 e.2), if_neg (by omega), if_neg (fun e => hm2 ⟨by omega, (hL _).2 (mem_depL.2 ⟨depB_iff.1 (by rw [← hkn]; exact e.2.2.2.1), e.2.2.2.2⟩)⟩)]
    · rw [if_neg (fun e => hk e.1)]
      by_cases hc2 : 1 ≤ k.1.1 ∧ k.1.1 ≤ m ∧ 1 ≤ k.2.1 ∧ depB rs k.1.1.toNat k.2.1.toNat = true ∧ E k.2.1.toNat = false
      · rw [if_pos hc2, if_pos ⟨hc2.1, by have := hc2.2.1; simp; omega, hc2.2.2⟩]
      · rw [if_neg hc2, if_neg (fun e => hc2 ⟨e.1, by have := e.2.1; simp at this; omega, e.2.2⟩)]
  · by_cases ham : a = m + 1
    · subst ham; rw [h.fut _ (by omega)] at hea; cases hea
    · exact h.closed a ha1 (by omega) hea b hb
theorem filter_ne_len {l : List Nat} (hn : l.Nodup) (n : Nat) : (l.filter fun b => decide (b ≠ n)).length = if n ∈ l then l.length - 1 else l.length := by
  induction l with
  | nil => simp
  | cons a l ih =>
    simp only [List.nodup_cons] at hn
    have ih := ih hn.2
    by_cases ha : a = n
    · subst ha
      rw [if_neg hn.1] at ih
      rw [List.filter_cons_of_neg (by simp), ih]
      simp
    · have ha' : n ≠ a := fun e => ha e.symm
      rw [List.filter_cons_of_pos (by simpa using ha), List.length_cons, ih]
      by_cases hm : n ∈ l
      · have := List.length_pos_of_mem hm
        simp [hm]; omega
      · simp [hm, ha']
def E1 (E : Nat → Bool) (n : Nat) : Nat → Bool := fun j => decide (j = n) || E j
theorem depL_E1 (rs : List RTx) (E : Nat → Bool) (n a : Nat) : depL rs (E1 E n) a = (depL rs E a).filter fun b => decide (b ≠ n) := by
  unfold depL E1
  rw [List.filter_filter]
  refine List.filter_congr fun b _ => ?_
  by_cases hb : b = n <;> simp [hb]
theorem TInv.tell (h : TInv rs m E d) (hm : m ≤ 65536) {n : Nat} (h1 : 1 ≤ n) (h2 : n ≤ m) (hE : E n = false) (a : Int) : a ∈ tellL d.wts n ↔ (1 ≤ a ∧ a ≤ m ∧ dep rs a.toNat n) := by
  rw [mem_tellL]
  constructor
  · rintro ⟨k, hk, h3, rfl⟩
    rw [h.mem_wts, h3] at hk
    exact ⟨hk.1, hk.2.1, by simpa using depB_iff.1 hk.2.2.2.1⟩
  · rintro ⟨h3, h4, h5⟩
    refine ⟨(toI a, toI n), ?_, toI_val (wfI (by omega)), toI_val (wfI (by omega))⟩
    rw [h.mem_wts]
    simp only [toI_val (wfI (show 0 ≤ (n : Int) ∧ (n : Int) ≤ 4294967296 by omega)), toI_val (wfI (show 0 ≤ a ∧ a ≤ 4294967296 by omega))]
    exact ⟨h3, h4, by omega, depB_iff.2 (by simpa using h5), by simpa using hE⟩
theorem TInv.told (h : TInv rs m E d) (hm : m ≤ 65536) {n : Nat} (h1 : 1 ≤ n) (h2 : n ≤ m) (hE : E n = false) {a : Int} (ha : a ∈ tellL d.wts n) : mget (mdel d.opn n) a = some ((depL rs E a.toNat).length : Int) ∧ E a.toNat = false ∧ n ∈ depL rs E a.toNat ∧ (n : Int) ≠ a := by
  obtain ⟨h3, h4, h5⟩ := (h.tell hm h1 h2 hE a).1 ha
  have hlt := dep_lt h5
  have hEa : E a.toNat = false := by
    cases he : E a.toNat
    · rfl
    · rw [h.closed a.toNat (by omega) (by omega) he n h5] at hE; cases hE
  refine ⟨?_, hEa, mem_depL.2 ⟨h5, hE⟩, by omega⟩
  rw [mget_mdel h.no, if_neg (by omega), h.opn, if_pos ⟨h3, h4, hEa⟩]
theorem TInv.done (h : TInv rs m E d) (hm : m ≤ 65536) {n : Nat} (h1 : 1 ≤ n) (h2 : n ≤ m) (hE : E n = false) (hd : depL rs E n = []) {m2 : List (Int × Int)} {m3 : List ((I64 × I64) × Bool)}
    (hm2 : ∀ a, mget m2 a = if a ∈ tellL d.wts n then (mget (mdel d.opn n) a).map (· - 1) else mget (mdel d.opn n) a) (hm3 : ∀ k, mget m3 k = if k.2.1 = n then none else mget d.wts k) (hn2 : (m2.map (·.1)).Nodup) (hn3 : (m3.map (·.1)).Nodup) :
    TInv rs m (E1 E n) ⟨d.last, m2, m3, d.top⟩ := by
  refine ⟨h.top, h.last, h.lastb, fun z => ?_, fun k => ?_, fun a ha1 ha2 hea b hb => ?_, fun j hj => ?_, hn2, hn3⟩
  · simp only
    rw [hm2]
    by_cases hz : z ∈ tellL d.wts n
    · obtain ⟨p1, p2, p3, p4⟩ := h.told hm h1 h2 hE hz
      obtain ⟨q1, q2, -⟩ := (h.tell hm h1 h2 hE z).1 hz
      rw [if_pos hz, p1, if_pos ⟨q1, q2, by simp only [E1, p2, Bool.or_false, decide_eq_false_iff_not]; omega⟩, depL_E1, filter_ne_len (depL_nodup _ _ _), if_pos p3]
      have := List.length_pos_of_mem p3
      simp only [Option.map_some, Option.some.injEq]
      omega
    · rw [if_neg hz, mget_mdel h.no]
      by_cases hzn : (n : Int) = z
      · subst hzn
        rw [if_pos rfl, if_neg (fun e => by have := e.2.2; simp [E1] at this)]
      · rw [if_neg hzn, h.opn]
        by_cases hc : 1 ≤ z ∧ z ≤ m ∧ E z.toNat = false
        · have hnd : ¬ n ∈ depL rs E z.toNat := fun e => hz ((h.tell hm h1 h2 hE z).2 ⟨hc.1, hc.2.1, (mem_depL.1 e).1⟩)
          rw [if_pos hc, if_pos ⟨hc.1, hc.2.1, by simp only [E1, hc.2.2, Bool.or_false, decide_eq_false_iff_not]; omega⟩, depL_E1, filter_ne_len (depL_nodup _ _ _), if_neg hnd]
        · rw [if_neg hc, if_neg (fun e => hc ⟨e.1, e.2.1, by have := e.2.2; simp only [E1, Bool.or_eq_false_iff] at this; exact this.2⟩)]
  · simp only
    rw [hm3, h.wts]
    by_cases hk : k.2.1 = n
    · rw [if_pos hk, if_neg (fun e => by have := e.2.2.2.2; rw [hk] at this; simp [E1] at this)]
    · rw [if_neg hk]
      by_cases hc : 1 ≤ k.1.1 ∧ k.1.1 ≤ m ∧ 1 ≤ k.2.1 ∧ depB rs k.1.1.toNat k.2.1.toNat = true ∧ E k.2.1.toNat = false
      · rw [if_pos hc, if_pos ⟨hc.1, hc.2.1, hc.2.2.1, hc.2.2.2.1, by have h9 := hc.2.2.1; simp only [E1, hc.2.2.2.2, Bool.or_false, decide_eq_false_iff_not]; omega⟩]
      · rw [if_neg hc, if_neg (fun e => hc ⟨e.1, e.2.1, e.2.2.1, e.2.2.2.1, by have := e.2.2.2.2; simp only [E1, Bool.or_eq_false_iff] at this; exact this.2⟩)]
  · simp only [E1, Bool.or_eq_true, decide_eq_true_eq] at hea ⊢
    rcases hea with rfl | hea
    · right
      cases he : E b
      · have : b ∈ depL rs E a := mem_depL.2 ⟨hb, he⟩
        rw [hd] at this; cases this
      · rfl
    · exact Or.inr (h.closed a ha1 ha2 hea b hb)
  · simp only [E1, Bool.or_eq_false_iff, decide_eq_false_iff_not]
    exact ⟨by omega, h.fut j hj⟩
end
end Go.Proofs.Ytdcnaieieggclaa


/- Lemmas and contracts of functions that statements of this seat stand on, many texts in one; each holds under the premises typed in its head. -/
import Derived.Test.YtafghiekpgjniaaGreatDoorPA
import Derived.Laws.CopyOwn
import Derived.Lib.AppendZerosOnto
import Derived.Lib.Overlaps
import Derived.Laws.Externs
import Derived.Deep.RegionLaw
import Derived.Laws.AppendOwnNone
import Derived.Test.YtafghiekpgjniaaGreatDoorProg
/- copy between rows of elements of many cells, and append of a make: laws for the walk. Plain theorems over any program. -/
namespace Go.Proofs.YtafghiekpgjniaaGreatDoor
open Go.RowKit
set_option linter.unusedVariables false
set_option linter.unusedSimpArgs false

section
variable {P : Program}
theorem run_copy_rowK (w : World) (dT sT ty elem : TypeId) (sz g o dLen dCap : Nat) (a : Addr) (sLen sCap : Nat) (cur : Array Value) (t : TypeId) (cs : List Value)
    (hu : P.underlying dT = some (.slice elem)) (hs : (P.info? elem).map (·.size) = some sz)
    (hg : w.heap[g]? = some (.cells cur t (0, 0))) (hn : cs.length = Nat.min sLen dLen * sz)
    (hsrc : ∀ j v, cs[j]? = some v → w.cell? (a.add j) = some v) (hfit : o + cs.length ≤ cur.size) (h1 : ∀ v ∈ cs, v.oneCell' = true) :
    (Builtin.copy_ #[dT, sT] ty #[.slice (some ⟨g, o, none⟩) dLen dCap, .slice (some a) sLen sCap]).run P w =
      .ok (goInt (Nat.min sLen dLen)) (w.setRow g (cur.toList.take o ++ cs ++ cur.toList.drop (o + cs.length)).toArray) := by
  have hl := run_loadCells_list (P := P) w a cs hsrc
  have hst := run_storeCells_at P g o t cs 0 cur w hg (by simpa using hfit) h1
  cases hq : P.info? elem with
  | none => simp [hq] at hs
  | some i =>
    have hi : i.size = sz := by simpa [hq] using hs
    simp [Builtin.copy_, run_underlying hu, Builtin.lenOf, Builtin.firstCells, sizeOf, typeInfo, hq, hi, ← hn, hl, hst]
theorem run_copy_noneK (w : World) (dT sT ty elem : TypeId) (sz : Nat) (d a : Option Addr) (dLen dCap sLen sCap : Nat) (hu : P.underlying dT = some (.slice elem)) (hs : (P.info? elem).map (·.size) = some sz)
    (hn : Nat.min sLen dLen = 0) :
    (Builtin.copy_ #[dT, sT] ty #[.slice d dLen dCap, .slice a sLen sCap]).run P w = .ok (goInt 0) w := by
  have hl : ∀ b : Addr, (loadCells b 0).run P w = .ok #[] w := fun b => run_loadCells_list (P := P) w b [] (fun j v h => by simp at h)
  cases hq : P.info? elem with
  | none => simp [hq] at hs
  | some i => cases d <;> cases a <;> simp [Builtin.copy_, run_underlying hu, Builtin.lenOf, Builtin.firstCells, sizeOf, typeInfo, hq, hn, hl, storeCells]
/-- 'copy(d, s)' into a row that is known whole, elements of sz cells. -/
theorem wpList_copy_spliceK {w : World} {ops : Array Oper} {rest : List Oper} {o : Oper} {a : Act} {Q : Exit → Act → World → Prop} (hgd : o.guard = none) (d s : Operand) (dT sT : TypeId)
    (ho : o.op = .call { callee := .builtin .copy, args := #[d, s], argTypes := #[dT, sT] }) (elem : TypeId) (sz : Nat) (hz0 : 0 < sz) (hu : P.underlying dT = some (.slice elem)) (hsz : (P.info? elem).map (·.size) = some sz)
    (dp sp : Option Addr) (dLen dCap sLen sCap : Nat) (hd : a.eval d = .slice dp dLen dCap) (hs : a.eval s = .slice sp sLen sCap)
    (g off : Nat) (cur : List Value) (t : TypeId) (hg : w.heap[g]? = some (.cells cur.toArray t (0, 0))) (cs : List Value) (hn : cs.length = Nat.min sLen dLen * sz)
    (hpos : 0 < cs.length → dp = some ⟨g, off, none⟩ ∧ ∃ ad, sp = some ad ∧ ∀ j v, cs[j]? = some v → w.cell? (ad.add j) = some v)
    (hfit : off + cs.length ≤ cur.length) (h1 : ∀ v ∈ cs, v.oneCell' = true) (B : Nat) (w0 : World) (hb : Below B w0 w) (hBg : B ≤ g)
    (h : ∀ w', Hid (w'.heap[g]? = some (.cells (splice cur off cs).toArray t (0, 0))) → Below B w0 w' → w'.heap.size = w.heap.size → Hid (∀ i, i ≠ g → w'.heap[i]? = w.heap[i]?) → wpList P ops Q rest (a.put o.dst (goInt (Nat.min sLen dLen))) w') :
    wpList P ops Q (o :: rest) a w := by
  refine wpList_plain hgd fun K hK => ?_
  by_cases h0 : cs.length = 0
  · obtain rfl : cs = [] := List.eq_nil_of_length_eq_zero h0
    have hm : Nat.min sLen dLen = 0 := by
      rcases Nat.mul_eq_zero.1 (by simpa using hn.symm) with h | h
      · exact h
      · omega
    have hrun := run_copy_noneK (P := P) w dT sT o.type elem sz dp sp dLen dCap sLen sCap hu hsz hm
    unfold Oper.wp
    simp [execOp, ho, resolve, invoke, builtin, hd, hs, hrun, Result.andThen]
    have := h w (Lib.hid (by simpa [splice] using hg)) hb rfl (Lib.hid fun _ _ => rfl)
    rw [hm] at this
    exact hK _ _ this
  · obtain ⟨rfl, ad, rfl, hsrc⟩ := hpos (by omega)
    have hrun := run_copy_rowK (P := P) w dT sT o.type elem sz g off dLen dCap ad sLen sCap cur.toArray t cs hu hsz hg hn hsrc (by simpa using hfit) h1
    unfold Oper.wp
    simp [execOp, ho, resolve, invoke, builtin, hd, hs, hrun, Result.andThen]
    have := h _ (Lib.hid (by simpa [splice] using setRow_heap w g _ _ t _ hg)) (below_setRow hb hBg _) (by simp [World.setRow]) (Lib.hid fun i hi => setRow_other w g i _ hi)
    exact hK _ _ this
theorem step_copy_spliceK {ops : Array Oper} {o : Oper} {a : Act} {w : World} {K : Act → World → Prop} {Q : Exit → Act → World → Prop} {E : Prop} (hgd : o.guard = none) (d s : Operand) (dT sT : TypeId)
    (ho : o.op = .call { callee := .builtin .copy, args := #[d, s], argTypes := #[dT, sT] }) (elem : TypeId) (sz : Nat) (hz0 : 0 < sz) (hu : P.underlying dT = some (.slice elem)) (hsz : (P.info? elem).map (·.size) = some sz)
    (dp sp : Option Addr) (dLen dCap sLen sCap : Nat) (hd : a.eval d = .slice dp dLen dCap) (hs : a.eval s = .slice sp sLen sCap)
    (g off : Nat) (cur : List Value) (t : TypeId) (hg : w.heap[g]? = some (.cells cur.toArray t (0, 0))) (cs : List Value) (hn : cs.length = Nat.min sLen dLen * sz)
    (hpos : 0 < cs.length → dp = some ⟨g, off, none⟩ ∧ ∃ ad, sp = some ad ∧ ∀ j v, cs[j]? = some v → w.cell? (ad.add j) = some v)
    (hfit : off + cs.length ≤ cur.length) (h1 : ∀ v ∈ cs, v.oneCell' = true) (B : Nat) (w0 : World) (hb : Below B w0 w) (hBg : B ≤ g)
    (h : ∀ w', Hid (w'.heap[g]? = some (.cells (splice cur off cs).toArray t (0, 0))) → Below B w0 w' → w'.heap.size = w.heap.size → Hid (∀ i, i ≠ g → w'.heap[i]? = w.heap[i]?) → K (a.put o.dst (goInt (Nat.min sLen dLen))) w') :
    if Region.wanted o (yielded ops a.tmps) = true then Oper.wp P o a w K Q else E := by
  have hw : Region.wanted o (yielded ops a.tmps) = true := by simp [Region.wanted, hgd]
  rw [if_pos hw]
  by_cases h0 : cs.length = 0
  · obtain rfl : cs = [] := List.eq_nil_of_length_eq_zero h0
    have hm : Nat.min sLen dLen = 0 := by
      rcases Nat.mul_eq_zero.1 (by simpa using hn.symm) with h | h
      · exact h
      · omega
    have hrun := run_copy_noneK (P := P) w dT sT o.type elem sz dp sp dLen dCap sLen sCap hu hsz hm
    unfold Oper.wp
    simp [execOp, ho, resolve, invoke, builtin, hd, hs, hrun, Result.andThen]
    have := h w (Lib.hid (by simpa [splice] using hg)) hb rfl (Lib.hid fun _ _ => rfl)
    rw [hm] at this
    exact this
  · obtain ⟨rfl, ad, rfl, hsrc⟩ := hpos (by omega)
    have hrun := run_copy_rowK (P := P) w dT sT o.type elem sz g off dLen dCap ad sLen sCap cur.toArray t cs hu hsz hg hn hsrc (by simpa using hfit) h1
    unfold Oper.wp
    simp [execOp, ho, resolve, invoke, builtin, hd, hs, hrun, Result.andThen]
    have := h _ (Lib.hid (by simpa [splice] using setRow_heap w g _ _ t _ hg)) (below_setRow hb hBg _) (by simp [World.setRow]) (Lib.hid fun i hi => setRow_other w g i _ hi)
    exact this
theorem zeros_row {w w' : World} {olds : List Value} {z : Value} {k cp n size : Nat} {e : TypeId} (hw : w' = w.drew.alloc (.cells (olds.toArray ++ Builtin.zeroCells z.cells k ++ Builtin.zeroCells z.cells (cp - (n + k))) e)) (hol : olds.length = n * size) (hz : z.cells.size = size) (hcp : n + k ≤ cp) :
    ∃ L : List Value, w'.heap[w.heap.size]? = some (.cells L.toArray e (0, 0)) ∧ L.length = cp * size ∧ L.take (n * size) = olds ∧ Below w.heap.size w w' ∧ w'.heap.size = w.heap.size + 1 := by
  refine ⟨(olds.toArray ++ Builtin.zeroCells z.cells k ++ Builtin.zeroCells z.cells (cp - (n + k))).toList, ?_, ?_, ?_, ?_, ?_⟩
  · rw [hw, Array.toArray_toList]; exact blk_new w.drew _
  · simp only [Array.length_toList, Array.size_append, size_zeroCells, hz, List.size_toArray, hol]
    rw [← Nat.add_mul, ← Nat.add_mul]; congr 1; omega
  · rw [Array.toList_append, Array.toList_append, List.append_assoc]
    rw [List.take_append_of_le_length (by simp [hol]), List.take_of_length_le (by simp [hol])]
  · rw [hw]; exact (bel_drew (Below.refl _ _)).alloc (Nat.le_refl _) _
  · rw [hw]; simp
/-- 'append(s, make([]E, k)...)' where s has no room: a new row. -/
theorem wpList_append_zerosK {w : World} {ops : Array Oper} {rest : List Oper} {o : Oper} {a : Act} {Q : Exit → Act → World → Prop} (hgd : o.guard = none) (s x : Operand) (t tn : TypeId)
    (ho : o.op = .call { callee := .builtin .append, args := #[s, x], argTypes := #[t, tn] }) (e : TypeId) (i : TypeInfo) (z : Value) (size bytes : Nat) (kq kn : IntKind)
    (ht : P.underlying t = some (.slice e)) (htn : P.underlying tn = some (.int kn)) (hi : P.info? e = some i) (hz : i.zero = some z) (hsize : i.size = size) (hby : i.bytes = bytes) (hs0 : 0 < size)
    (A : Option Addr) (n c : Nat) (hs : a.eval s = .slice A n c) (k : Nat) (hx : a.eval x = .int kq k) (olds : List Value) (hol : olds.length = n * size)
    (hold : 0 < n → ∃ ad, A = some ad ∧ ∀ j v, olds[j]? = some v → w.cell? (ad.add j) = some v) (h0 : 0 < k) (hg : c < n + k) (hnc : n ≤ c) (hbig : (n + k) * bytes ≤ 140737488355328) (hm : n + k ≤ maxLen)
    (h : ∀ cp, n + k ≤ cp → cp ≤ maxLen → ∀ (w' : World) (L : List Value), Hid (w'.heap[w.heap.size]? = some (.cells L.toArray e (0, 0))) → Hid (L.length = cp * size) → Hid (L.take (n * size) = olds) → Hid (Below w.heap.size w w') → Hid (w'.heap.size = w.heap.size + 1) → wpList P ops Q rest (a.put o.dst (.slice (some ⟨w.heap.size, 0, none⟩) (n + k) cp)) w') (hzs : z.cells.size = size) :
    wpList P ops Q (o :: rest) a w := by
  refine wpList_plain hgd fun K hK => ?_
  have hold' : (Builtin.firstCells i.size n (.slice A n c)).run P w.drew = .ok olds.toArray w.drew := by
    rw [hsize]
    cases A with
    | none =>
      have hn0 : n = 0 := by
        rcases Nat.eq_zero_or_pos n with h | h
        · exact h
        · obtain ⟨ad, h, -⟩ := hold h; cases h
      subst hn0
      obtain rfl : olds = [] := List.eq_nil_of_length_eq_zero (by simpa using hol)
      exact run_firstCells_none w.drew size 0 0 c
    | some ad =>
      refine run_firstCells_some w.drew size n ad n c olds hol fun j v hj => ?_
      have hn0 : 0 < n := by
        rcases Nat.eq_zero_or_pos n with h | h
        · subst h
          have h1 : olds = [] := List.eq_nil_of_length_eq_zero (by simpa using hol)
          subst h1; simp at hj
        · exact h
      obtain ⟨ad', h1, h2⟩ := hold hn0
      injection h1 with h1; subst h1
      exact h2 j v hj
  have h63 : ((n + k : Nat) : Int) ≤ 9223372036854775807 := by unfold maxLen at hm; omega
  have hkb : k * bytes ≤ (n + k) * bytes := Nat.mul_le_mul_right _ (by omega)
  have hrun := Lib.run_append_grow_zeros (P := P) w t tn o.type e i z kq kn ht htn hi hz A n c olds hold' k h0 (by omega) hg h63 (by rw [hby]; omega) (by rw [hby]; exact growslice_fits hg hbig)
  unfold Oper.wp
  simp [execOp, ho, resolve, invoke, builtin, hs, hx, hrun, Result.andThen]
  obtain ⟨L, h1, h2, h3, h4, h5⟩ := zeros_row (w := w) (olds := olds) (z := z) (k := k) (cp := grownCap w (n + k) c e) (n := n) (size := size) (e := e) rfl hol hzs (grownCap_ge w _ _ _)
  have := h _ (grownCap_ge w _ _ _) (grownCap_le_maxLen w (n + k) c e hm) _ L (Lib.hid h1) (Lib.hid h2) (Lib.hid h3) (Lib.hid h4) (Lib.hid h5)
  rw [← Array.append_assoc]
  exact hK _ _ this
end
end Go.Proofs.YtafghiekpgjniaaGreatDoor

/- Two splices that lay one element between others. Plain theorems. -/

namespace Go.Proofs.YtafghiekpgjniaaGreatDoor
open Go.RowKit
set_option linter.unusedVariables false
set_option linter.unusedSimpArgs false

theorem splice_dst_src {α : Type} {L P X D : List α} {a b c : Nat} (hP : P.length = a) (hX : X.length = b) (hD : D.length = c) (hL : a + b + c ≤ L.length) (ht : L.take a = P) :
    (splice (splice L (a + b) D) a X).take (a + b + c) = P ++ (X ++ D) ∧ (splice (splice L a X) (a + b) D).take (a + b + c) = P ++ (X ++ D) := by
  have e1 : (splice L (a + b) D).take a = P := by
    unfold splice
    rw [List.take_append_of_le_length (by rw [List.length_take]; omega), List.take_take, Nat.min_eq_left (by omega), ht]
  have e2 : (splice L (a + b) D).drop (a + X.length) = D ++ L.drop (a + b + D.length) := by
    unfold splice
    rw [hX, List.drop_append_of_le_length (by rw [List.length_take]; omega), List.drop_eq_nil_of_le (by rw [List.length_take]; omega), List.nil_append]
  have e3 : (splice L a X).take (a + b) = P ++ X := by
    unfold splice
    rw [ht, ← List.append_assoc, List.take_append_of_le_length (by rw [List.length_append]; omega), List.take_of_length_le (by rw [List.length_append]; omega)]
  constructor
  · rw [show splice (splice L (a + b) D) a X = (splice L (a + b) D).take a ++ (X ++ (splice L (a + b) D).drop (a + X.length)) from rfl, e1, e2]
    rw [← List.append_assoc, ← List.append_assoc, List.take_append_of_le_length (by simp only [List.length_append]; omega), List.take_of_length_le (by simp only [List.length_append]; omega), List.append_assoc]
  · rw [show splice (splice L a X) (a + b) D = (splice L a X).take (a + b) ++ (D ++ (splice L a X).drop (a + b + D.length)) from rfl, e3]
    rw [← List.append_assoc, List.take_append_of_le_length (by simp only [List.length_append]; omega), List.take_of_length_le (by simp only [List.length_append]; omega), List.append_assoc]
theorem splice_length {α : Type} {L D : List α} {o : Nat} (h : o + D.length ≤ L.length) : (splice L o D).length = L.length := length_splice L o D h
end Go.Proofs.YtafghiekpgjniaaGreatDoor

/- append of a slice that reads as a list, to a slice of the walk's own. Plain theorems over any program. -/
namespace Go.Proofs.YtafghiekpgjniaaGreatDoor
open Go.RowKit
set_option linter.unusedVariables false
set_option linter.unusedSimpArgs false

theorem flat_idx {α : Type} {cells : α → List Value} {size : Nat} : ∀ (xs : List α) (hs : ∀ x ∈ xs, (cells x).length = size) (j : Nat) (u : Value), (xs.flatMap cells)[j]? = some u → ∃ i x r, xs[i]? = some x ∧ (cells x)[r]? = some u ∧ j = i * size + r
  | [], _, _, _, h => by simp at h
  | y :: r, hs, j, u, h => by
    have hy := hs y (by simp)
    rw [List.flatMap_cons] at h
    by_cases hj : j < size
    · rw [List.getElem?_append_left (by omega)] at h
      exact ⟨0, y, j, rfl, h, by omega⟩
    · rw [List.getElem?_append_right (by omega), hy] at h
      obtain ⟨i, x, q, h1, h2, h3⟩ := flat_idx r (fun z hz => hs z (by simp [hz])) _ u h
      exact ⟨i + 1, x, q, by simpa using h1, h2, by rw [Nat.add_mul]; omega⟩
theorem grownBy_refl (w : World) (row : Option Nat) : w.grownBy w row := ⟨rfl, rfl, rfl, Nat.le_refl _, fun _ _ _ => rfl⟩
theorem below_grown_own {w w' : World} {v : Value} {base n size : Nat} {e : TypeId} {xs : List Value} (h : w.ownsRow base e size v n xs) (hg : w.grownBy w' v.ownBlock) (hb : base ≤ w.heap.size) : Below base w w' :=
  (Below.refl _ _).grown hg hb (fun k hk => (h.lt k hk).1)
theorem wpList_append_row {α : Type} {cells : α → List Value} {P : Program} {w : World} {ops : Array Oper} {rest : List Oper} {o : Oper} {a : Act} {Q : Exit → Act → World → Prop} (hgd : o.guard = none) (s x : Operand) (t : TypeId)
    (ho : o.op = .call { callee := .builtin .append, args := #[s, x], argTypes := #[t, t] })
    (base : Nat) (e : TypeId) (i : TypeInfo) (z : Value) (size bytes : Nat) (ht : P.underlying t = some (.slice e)) (hi : P.info? e = some i) (hz : i.zero = some z)
    (hsize : i.size = size) (hby : i.bytes = bytes) (hzs : z.cells.size = size) (hsz : 0 < size)
    (v : Value) (n : Nat) (xs : List Value) (hs : a.eval s = v) (hown : w.ownsRow base e size v n xs)
    (Ax : Option Addr) (m c B : Nat) (ys : List α) (hx : a.eval x = .slice Ax m c) (hrow : RowAt cells size w B Ax m ys) (hnil : Ax = none → c = 0) (hys : ∀ y ∈ ys, (cells y).length = size) (h1 : ∀ y, ∀ u ∈ cells y, u.oneCell' = true)
    (h63 : n + m ≤ maxLen) (hbytes : (n + m) * bytes ≤ 140737488355328) (hbase : base ≤ w.heap.size)
    (h : ∀ v' w', w'.ownsRow base e size v' (n + m) (xs ++ ys.flatMap cells) → w.grownBy w' v.ownBlock → wpList P ops Q rest (a.put o.dst v') w') : wpList P ops Q (o :: rest) a w := by
  cases Ax with
  | none =>
    have hm : m = 0 := by
      rcases Nat.eq_zero_or_pos m with h0 | h0
      · exact h0
      · obtain ⟨b, off, hh, -⟩ := hrow.2 h0; cases hh
    subst hm
    have hc := hnil rfl
    subst hc
    have hy : ys = [] := List.eq_nil_of_length_eq_zero hrow.1
    subst hy
    exact wpList_append_own_none hgd s x t ho base e i size ht hi v n xs hs hown hx (h v w (by simpa using hown) (grownBy_refl _ _))
  | some ad =>
    refine wpList_append_own w hgd s x t ho base e i z size bytes ht hi hz hsize hby hzs hsz v n xs hs hown ad m c (ys.flatMap cells) hx (by rw [flat_len ys hys, hrow.1]) (fun j u hu => ?_) (fun u hu => ?_) h63 hbytes hbase (fun v' w' h2 h3 _ => h v' w' h2 h3)
    · obtain ⟨q, y, r, hq, hr, hj⟩ := flat_idx ys hys j u hu
      have hm : 0 < m := by
        have := (List.getElem?_eq_some_iff.1 hq).1
        have := hrow.1
        omega
      obtain ⟨b, off, he, -, hc⟩ := hrow.2 hm
      injection he with he
      subst he
      rw [Addr.add_lit, hj, ← Nat.add_assoc]
      exact hc q y hq r u hr
    · obtain ⟨y, -, hu2⟩ := List.mem_flatMap.1 hu
      exact h1 y u hu2
end Go.Proofs.YtafghiekpgjniaaGreatDoor

/- Versions in memory. -/
namespace Go.Proofs.YtafghiekpgjniaaGreatDoor
open Go.RowKit
set_option linter.unusedVariables false
set_option linter.unusedSimpArgs false

abbrev VsAt := RowAt Ver.cells 3
theorem VsAt.cell3 {w : World} {B n i : Nat} {A : Option Addr} {vs : List Ver} (h : VsAt w B A n vs) (hi : i < n) :
    ∃ b off x, A = some ⟨b, off, none⟩ ∧ b < B ∧ vs[i]? = some x ∧ w.cell? ⟨b, off + i * 3, none⟩ = some (.int .i64 x.num) ∧ w.cell? ⟨b, off + i * 3 + 1, none⟩ = some (.string x.val) ∧ w.cell? ⟨b, off + i * 3 + 2, none⟩ = some (.bool x.drop) := by
  obtain ⟨b, off, x, e, hb, hx, hc⟩ := h.at_ hi
  exact ⟨b, off, x, e, hb, hx, hc 0 _ rfl, hc 1 _ rfl, hc 2 _ rfl⟩
theorem VsAt.num {w : World} {B n i : Nat} {A : Option Addr} {vs : List Ver} (h : VsAt w B A n vs) (hi : i < n) : ∃ b off x, A = some ⟨b, off, none⟩ ∧ b < B ∧ vs[i]? = some x ∧ w.cell? ⟨b, off + i * 3, none⟩ = some (.int .i64 x.num) := by
  obtain ⟨b, off, x, h1, h2, h3, h4, -, -⟩ := h.cell3 hi
  exact ⟨b, off, x, h1, h2, h3, h4⟩
end Go.Proofs.YtafghiekpgjniaaGreatDoor

/- chain: what is checked, and how many are at or below a mark. -/
namespace Go.Proofs.YtafghiekpgjniaaGreatDoor
open Go.RowKit
set_option linter.unusedVariables false
set_option linter.unusedSimpArgs false

/-- What the check of one version asks. -/
def preB (vs : List Ver) (j : Nat) (x : Ver) : Bool := decide (j = 0) || match vs[j-1]? with | some y => decide (y.num < x.num) | none => true
set_option maxHeartbeats 8000000 in
theorem chkv_any (A : Option Addr) (len cap : Nat) (vs : List Ver) (w : World) (hw : VsAt w w.heap.size A len vs) (hl : len ≤ 4398046511104) :
    Calls Tryz.prog 100 #[.slice A len cap] w fun e w' => e = .returned (.int .i64 (errOf (chkB vs))) ∧ Below w.heap.size w w' := by
  have hfin : ∀ (b : Bool) (w' : World), b = chkB vs → Below w.heap.size w w' → (Ending.returned (.int .i64 (errOf b)) = .returned (.int .i64 (errOf (chkB vs))) ∧ Below w.heap.size w w') := fun b w' h h' => ⟨by rw [h], h'⟩
  have Hf := Lib.hid hfin
  have hlen := Lib.hid hw.len
  clear hfin
  go_enter Tryz.func100, Tryz.ntmps100
  go_wp2_with fail
  go_loopw [7] (fun i wr => ∃ k : Nat, k ≤ len ∧ i = .int .i64 k ∧ Hid (chkB (vs.take k) = true) ∧ Below w.heap.size w wr) (fun i _ => len - (RowKit.intOf i).toNat)
  case atStart => exact ⟨0, Nat.zero_le _, rfl, Lib.hid rfl, Below.refl _ _⟩
  case round =>
    obtain ⟨k, hk, rfl, Hall, hb⟩ := hrel
    have hr := hw.below hb
    have Hb := Lib.hid hb
    have hs := hb.size
    clear hb
    by_cases hlt : k < len
    · obtain ⟨b, off, x, rfl, hbl, hx, x0, x1, x2⟩ := VsAt.cell3 hr hlt
      have hst : chkB (vs.take (k + 1)) = (chkB (vs.take k) && (verB x && preB vs k x)) := chkB_step hx
      have hno : chkB (vs.take (k + 1)) = false → chkB vs = false := fun h => by
        cases hc : chkB vs
        · rfl
        · rw [chkB_take _ hc] at h; cases h
      have Hst := Lib.hid hst
      have Hno := Lib.hid hno
      have Hx := Lib.hid hx
      obtain ⟨num, val, drop⟩ := x
      clear hx hst hno
      have hbel : ∀ (o : Obj) (n : Nat), Below w.heap.size w ((wr.alloc o).drewN n) := fun o n => below_drewN (bel_alloc Hb.out _) _
      have Hbel := Lib.hid hbel
      clear hbel Hb
      by_cases h1 : num < 1
      · have Hbad : Hid ((verB ⟨num, val, drop⟩ && preB vs k ⟨num, val, drop⟩) = false) := Lib.hid (by simp [verB]; omega)
        go_wp2_with fail
        go_quiet (fail)
        go_wp2_with fail
        go_ret
        exact Hf.out false _ (Hno.out (by rw [Hst.out, Hbad.out, Bool.and_false])).symm (Hbel.out _ _)
      have hq1 : decide (num < 1) = false := by simpa using h1
      by_cases h2 : 65536 < num
      · have Hbad : Hid ((verB ⟨num, val, drop⟩ && preB vs k ⟨num, val, drop⟩) = false) := Lib.hid (by simp [verB]; omega)
        go_wp2_with fail
        go_quiet (fail)
        go_wp2_with fail
        go_ret
        exact Hf.out false _ (Hno.out (by rw [Hst.out, Hbad.out, Bool.and_false])).symm (Hbel.out _ _)
      have hq2 : decide (65536 < num) = false := by simpa using h2
      by_cases h3 : 1024 < val.size
      · have hq5 : decide ((1024 : Int) < (val.size : Int)) = true := by simp; omega
        have hq6 : decide (1024 < val.size) = true := by simpa using h3
        have Hbad : Hid ((verB ⟨num, val, drop⟩ && preB vs k ⟨num, val, drop⟩) = false) := Lib.hid (by simp [verB, valB]; omega)
        go_wp2_with fail
        go_quiet (fail)
        go_wp2_with fail
        go_ret
        exact Hf.out false _ (Hno.out (by rw [Hst.out, Hbad.out, Bool.and_false])).symm (Hbel.out _ _)
      have hq3 : decide (1024 < val.size) = false := by simpa using h3
      have hq4 : decide ((1024 : Int) < (val.size : Int)) = false := by simp; omega
      by_cases h4 : (drop && decide (val.size ≠ 0)) = true
      · have hv0 : ¬ val.size = 0 := by intro e; simp [e] at h4
        obtain rfl : drop = true := by cases drop; simp at h4; rfl
        have hve : val.toList ≠ [] := fun e => hv0 ((toList_nil _).1 e)
        have hvi : val.toList.isEmpty = false := by simpa using hve
        have Hbad : Hid ((verB ⟨num, val, true⟩ && preB vs k ⟨num, val, true⟩) = false) := Lib.hid (by simp [verB, hv0])
        go_wp2_with fail
        go_quiet (fail)
        go_wp2_with fail
        go_ret
        exact Hf.out false _ (Hno.out (by rw [Hst.out, Hbad.out, Bool.and_false])).symm (Hbel.out _ _)
      have hvb : verB ⟨num, val, drop⟩ = true := by
        unfold verB valB
        cases drop <;> simp_all <;> omega
      have Hvb := Lib.hid hvb
      clear hvb
      have hdv : drop = false ∨ (drop = true ∧ val.toList = []) := by
        cases drop
        · exact .inl rfl
        · right; refine ⟨rfl, (toList_nil _).2 ?_⟩; simpa using h4
      clear h4
      rcases Nat.eq_zero_or_pos k with h0 | h0
      · have Hgd : Hid ((verB ⟨num, val, drop⟩ && preB vs k ⟨num, val, drop⟩) = true) := Lib.hid (by rw [Hvb.out]; simp [preB, h0])
        have hk5 : decide ((0 : Int) < (k : Int)) = false := by simp; omega
        have hk6 : decide (0 < k) = false := by simp; omega
        clear h0
        rcases hdv with rfl | ⟨rfl, hve⟩
        · skip
          go_wp2_with fail
          go_quiet (fail)
          go_wp2_with fail
          exact ⟨⟨k + 1, by omega, by go_num, Lib.hid (by rw [Hst.out, Hall.out, Hgd.out]; rfl), Hbel.out _ _⟩, by simp [RowKit.intOf]; omega⟩
        · have hvi : val.toList.isEmpty = true := by simp [hve]
          go_wp2_with fail
          go_quiet (fail)
          go_wp2_with fail
          exact ⟨⟨k + 1, by omega, by go_num, Lib.hid (by rw [Hst.out, Hall.out, Hgd.out]; rfl), Hbel.out _ _⟩, by simp [RowKit.intOf]; omega⟩
      · obtain ⟨b', off', y, he, hbl', hy, y0, -, -⟩ := VsAt.cell3 hr (i := k - 1) (by omega)
        injection he with he; injection he with he1 he2; subst he1 he2
        have hbw : b < wr.heap.size := by omega
        have hpr : preB vs k ⟨num, val, drop⟩ = decide (y.num < num) := by unfold preB; rw [hy]; simp; omega
        have Hpr := Lib.hid hpr
        have hk1 : ((k : Int) - 1).toNat = k - 1 := by omega
        have hk2 : (0 : Int) ≤ (k : Int) - 1 := by omega
        have hk7 : IntKind.i64.wrap ((k : Int) - 1) = (k : Int) - 1 := IntWalk.i64_in _ (by omega)
        have hk3 : (1 : Int) ≤ (k : Int) := by omega
        have hk4 : (k : Int) - 1 < (len : Int) := by omega
        have hk5 : decide ((0 : Int) < (k : Int)) = true := by simp; omega
        have hk6 : decide (0 < k) = true := by simp; omega
        obtain ⟨ynum, yval, ydrop⟩ := y
        simp only at y0 hpr Hpr
        clear hy hpr
        by_cases h6 : ynum < num
        · have hd1 : decide (num ≤ ynum) = false := by simp; omega
          have Hgd : Hid ((verB ⟨num, val, drop⟩ && preB vs k ⟨num, val, drop⟩) = true) := Lib.hid (by rw [Hvb.out, Hpr.out]; simpa using h6)
          rcases hdv with rfl | ⟨rfl, hve⟩
          · skip
            go_wp2_with fail
            go_quiet (fail)
            go_wp2_with fail
            exact ⟨⟨k + 1, by omega, by go_num, Lib.hid (by rw [Hst.out, Hall.out, Hgd.out]; rfl), Hbel.out _ _⟩, by simp [RowKit.intOf]; omega⟩
          · have hvi : val.toList.isEmpty = true := by simp [hve]
            go_wp2_with fail
            go_quiet (fail)
            go_wp2_with fail
            exact ⟨⟨k + 1, by omega, by go_num, Lib.hid (by rw [Hst.out, Hall.out, Hgd.out]; rfl), Hbel.out _ _⟩, by simp [RowKit.intOf]; omega⟩
        · have hd1 : decide (num ≤ ynum) = true := by simp; omega
          have Hbad : Hid ((verB ⟨num, val, drop⟩ && preB vs k ⟨num, val, drop⟩) = false) := Lib.hid (by rw [Hvb.out, Hpr.out]; simpa using h6)
          rcases hdv with rfl | ⟨rfl, hve⟩
          · skip
            go_wp2_with fail
            go_quiet (fail)
            go_wp2_with fail
            go_ret
            exact Hf.out false _ (Hno.out (by rw [Hst.out, Hbad.out, Bool.and_false])).symm (Hbel.out _ _)
          · have hvi : val.toList.isEmpty = true := by simp [hve]
            go_wp2_with fail
            go_quiet (fail)
            go_wp2_with fail
            go_ret
            exact Hf.out false _ (Hno.out (by rw [Hst.out, Hbad.out, Bool.and_false])).symm (Hbel.out _ _)
    · have hkl : k = len := by omega
      go_wp2
      go_ret
      refine Hf.out true _ ?_ Hb.out
      have h2 := Hall.out
      have h3 := hlen.out
      rw [List.take_of_length_le (by omega)] at h2
      exact h2.symm
end Go.Proofs.YtafghiekpgjniaaGreatDoor

/- chain: how many are at or below a mark; the newest at a mark; copies. -/
namespace Go.Proofs.YtafghiekpgjniaaGreatDoor
open Go.RowKit
set_option linter.unusedVariables false
set_option linter.unusedSimpArgs false

set_option maxRecDepth 100000
theorem info_ver : (Tryz.prog.info? 140).map (fun i => (i.zero, i.size, i.bytes)) = some (some (.agg #[.int .i64 0, .string ⟨#[]⟩, .bool false]), 3, 32) := by kernel_rfl
set_option maxHeartbeats 1000000 in
theorem above_any (b off : Nat) (i len cap : Nat) (a num : Int) (w : World) (hi : i < len) (hl : len ≤ 4398046511104) (hb : b < w.heap.size) (hc : w.cell? ⟨b, off + i * 3, none⟩ = some (.int .i64 num)) :
    Calls Tryz.prog 220 #[.agg #[.slice (some ⟨b, off, none⟩) len cap, .int .i64 a], .int .i64 i] w fun e w' => e = .returned (.bool (decide (a < num))) ∧ Below w.heap.size w w' := by
  have h0 : (0 : Int) ≤ (i : Int) := by omega
  have h1 : (i : Int) < (len : Int) := by omega
  go_enter Tryz.func220, Tryz.ntmps220
  go_wp2_with fail
  go_quiet (fail)
  go_wp2_with fail
  go_ret
  exact ⟨rfl, below_drewN (bel_alloc (Below.refl _ _) _) _⟩
set_option maxHeartbeats 4000000 in
theorem search_any (A : Option Addr) (len cap : Nat) (vs : List Ver) (a : Int) (w : World) (hw : VsAt w w.heap.size A len vs) (hl : len ≤ 4398046511104) (hasc : Asc vs) :
    Calls Tryz.prog 219 #[.int .i64 len, .func (.func 220) #[.agg #[.slice A len cap, .int .i64 a]] #[]] w fun e w' => e = .returned (.int .i64 (upto vs a : Nat)) ∧ Below w.heap.size w w' := by
  have hup : upto vs a ≤ len := by have := upto_le vs a; rw [hw.len] at this; exact this
  have hlow : ∀ (i : Nat) (x : Ver), vs[i]? = some x → (i < upto vs a ↔ x.num ≤ a) := fun i x hx => upto_low hasc hx
  have Hlow := Lib.hid hlow
  clear hlow
  generalize hu : upto vs a = u at hup Hlow ⊢
  clear hu
  go_enter Tryz.func219, Tryz.ntmps219
  go_wp2_with fail
  go_loopg [5, 6] len (fun kx s5 s6 wr => ∃ lo hi : Nat, s5 = .int .i64 lo ∧ s6 = .int .i64 hi ∧ lo ≤ u ∧ u ≤ hi ∧ hi ≤ len ∧ hi - lo ≤ kx ∧ Hid (Below w.heap.size w wr))
  case atStart => exact ⟨0, len, rfl, rfl, Nat.zero_le _, hup, Nat.le_refl _, by omega, Lib.hid (Below.refl _ _)⟩
  case round =>
    obtain ⟨lo, hi, rfl, rfl, h1, h2, h3, hg, Hb⟩ := hrel
    by_cases hlt : lo < hi
    · obtain ⟨b, off, x, rfl, hbl, hx, x0⟩ := VsAt.num (hw.below Hb.out) (i := (lo + hi) / 2) (by omega)
      have hsz := Hb.out.size
      have hcon := above_any b off ((lo + hi) / 2) len cap a x.num wr (by omega) hl (by omega) x0
      rw [show (((lo + hi) / 2 : Nat) : Int) = ((lo : Int) + (hi : Int)) / 2 by omega] at hcon
      have hmid := Hlow.out _ x hx
      cases hp : decide (a < x.num) <;> rw [hp] at hcon
      · have Hm := Lib.hid (hmid.2 (by simpa using hp))
        clear hmid hp x0 hx
        go_wp2_with fail
        refine hcon.mono ?_
        rintro e w' ⟨rfl, hb'⟩
        have Hb' := Lib.hid (Hb.out.trans (hb'.mono hsz))
        clear hb' hcon Hb
        go_wp2_with fail
        go_roundg (hi - ((lo + hi) / 2 + 1))
        case measure => omega
        case rel => exact ⟨(lo + hi) / 2 + 1, hi, by rw [show ((lo : Int) + (hi : Int)) / 2 + 1 = (((lo + hi) / 2 + 1 : Nat) : Int) by omega], rfl, by have := Hm.out; omega, h2, h3, Nat.le_refl _, Hb'⟩
      · have Hm := Lib.hid (show ¬ ((lo + hi) / 2 < u) from fun h => by have := hmid.1 h; simp at hp; omega)
        clear hmid hp x0 hx
        go_wp2_with fail
        refine hcon.mono ?_
        rintro e w' ⟨rfl, hb'⟩
        have Hb' := Lib.hid (Hb.out.trans (hb'.mono hsz))
        clear hb' hcon Hb
        go_wp2_with fail
        go_roundg ((lo + hi) / 2 - lo)
        case measure => omega
        case rel => exact ⟨lo, (lo + hi) / 2, rfl, by rw [show ((lo : Int) + (hi : Int)) / 2 = (((lo + hi) / 2 : Nat) : Int) by omega], h1, by have := Hm.out; omega, by omega, Nat.le_refl _, Hb'⟩
    · obtain rfl : hi = lo := by omega
      obtain rfl : u = hi := by omega
      go_wp2_with fail
      go_ret
      exact ⟨rfl, Hb.out⟩
theorem upto_any (A : Option Addr) (len cap : Nat) (vs : List Ver) (a : Int) (w : World) (hw : VsAt w w.heap.size A len vs) (hl : len ≤ 4398046511104) (hasc : Asc vs) :
    Calls Tryz.prog 189 #[.slice A len cap, .int .i64 a] w fun e w' => e = .returned (.int .i64 (upto vs a : Nat)) ∧ Below w.heap.size w w' := by
  have hc := search_any A len cap vs a w hw hl hasc
  generalize upto vs a = u at hc ⊢
  clear hasc
  go_enter Tryz.func189, Tryz.ntmps189
  go_wp2_with fail
  refine hc.mono ?_
  rintro e w' ⟨rfl, hb'⟩
  have Hb' := Lib.hid hb'
  clear hb'
  go_wp2_with fail
  go_ret
  exact ⟨rfl, Hb'.out⟩
end Go.Proofs.YtafghiekpgjniaaGreatDoor

/- slices.Clone and slices.Insert of versions. -/

namespace Go.Proofs.YtafghiekpgjniaaGreatDoor
open Go.RowKit
set_option linter.unusedVariables false
set_option linter.unusedSimpArgs false

set_option maxRecDepth 100000
theorem one_ver (x : Ver) : ∀ u ∈ Ver.cells x, u.oneCell' = true := by
  intro u hu; simp [Ver.cells] at hu; rcases hu with rfl | rfl | rfl <;> rfl
theorem eqsl_some (ad : Addr) (n c : Nat) (w : World) : (binOp .eql 130 (.slice (some ad) n c) (.slice none 0 0)).run Tryz.prog w = .ok (.bool false) w := by kernel_rfl
theorem eqsl_none (w : World) : (binOp .eql 130 (.slice none 0 0) (.slice none 0 0)).run Tryz.prog w = .ok (.bool true) w := by kernel_rfl
/-- A row of versions of the walk's own, above B. -/
abbrev OwnV (w : World) (B : Nat) (v : Value) (vs : List Ver) : Prop := w.ownsRow B 140 3 v vs.length (vs.flatMap Ver.cells)
/-- The row lies in a block of versions. -/
def TyV (w : World) (A : Option Addr) (n : Nat) : Prop := ∀ a, A = some a → 0 < n → ∃ cs fr, w.heap[a.block]? = some (.cells cs 140 fr)
theorem TyV.none_ (w : World) (n : Nat) : TyV w none n := fun a h => by cases h
theorem TyV.below {w w' : World} {A : Option Addr} {n : Nat} (h : TyV w A n) (hb : Below w.heap.size w w') : TyV w' A n := fun a e hn => by
  obtain ⟨cs, fr, h1⟩ := h a e hn
  exact ⟨cs, fr, (hb.block _ (blk_lt h1)).trans h1⟩
theorem OwnV.ty {w : World} {B : Nat} {A : Option Addr} {cap n : Nat} {vs : List Ver} (h : OwnV w B (.slice A n cap) vs) (m : Nat) : TyV w A m := by
  obtain ⟨-, ⟨h1, -⟩ | ⟨g, cap', cur, h1, -, h2, -⟩⟩ := h
  · injection h1 with h1; subst h1; exact TyV.none_ _ _
  · injection h1 with h1; subst h1
    intro a e _
    injection e with e
    subst e; exact ⟨cur, _, h2⟩
theorem TyV.cut {w : World} {A : Option Addr} {n k : Nat} (h : TyV w A n) {m : Nat} (hn : 0 < n) : TyV w (A.map (·.add k)) m := fun a' e _ => by
  cases A with
  | none => cases e
  | some a =>
    simp only [Option.map_some, Option.some.injEq] at e
    have : a'.block = a.block := by rw [← e]; unfold Addr.add; split <;> rfl
    rw [this]; exact h a rfl hn
set_option maxHeartbeats 1000000 in
theorem clone_any (A : Option Addr) (len cap : Nat) (vs : List Ver) (w : World) (hw : VsAt w w.heap.size A len vs) (hn : A = none → cap = 0) (hl : len ≤ 4398046511104) :
    Calls Tryz.prog 101 #[.slice A len cap] w fun e w' => ∃ v, e = .returned v ∧ OwnV w' w.heap.size v vs ∧ Below w.heap.size w w' := by
  have hlen := hw.len
  cases A with
  | none =>
    have h0 : len = 0 := by
      rcases Nat.eq_zero_or_pos len with h | h
      · exact h
      · obtain ⟨b, off, h, -⟩ := hw.2 h; cases h
    obtain rfl := h0
    obtain rfl := hn rfl
    obtain rfl : vs = [] := List.eq_nil_of_length_eq_zero hlen
    have he := eqsl_none
    go_enter Tryz.func101, Tryz.ntmps101
    go_wp2_with fail
    go_ret
    exact ⟨_, rfl, World.ownsRow_nil _ _ _ _, Below.refl _ _⟩
  | some ad =>
    obtain ⟨i0, hi, hz0, hz1, hz2⟩ := info_parts info_ver
    have he := eqsl_some ad len cap
    have hlen' := Lib.hid hlen
    clear hlen
    have hmade : ∀ X : World, (X.alloc (.cells #[] 140)).ownsRow X.heap.size 140 3 (.slice (some ⟨X.heap.size, 0, none⟩) 0 0) 0 [] := fun X => ⟨rfl, Or.inr ⟨_, 0, #[], rfl, Nat.le_refl _, blk_new _ _, Nat.le_refl _, Nat.zero_le _, rfl, rfl⟩⟩
    have Hmade := Lib.hid hmade
    clear hmade hn
    have hrow : ∀ X : World, Below w.heap.size w X → VsAt X X.heap.size (some ad) len vs := fun X hX => (hw.below hX).more hX.size
    have Hrow := Lib.hid hrow
    clear hrow hw
    go_enter Tryz.func101, Tryz.ntmps101
    go_wp2_with (at_builtin; refine wpList_append_row (cells := Ver.cells) rfl _ _ 130 rfl w.heap.size 140 i0 (.agg #[.int .i64 0, .string ⟨#[]⟩, .bool false]) 3 32 Tryz.underlying130 hi hz0 hz1 hz2 rfl (by decide) _ 0 [] rfl (Hmade.out w) (some ad) len cap _ vs rfl (Hrow.out _ (bel_alloc (Below.refl _ _) _)) (fun h => by cases h) (fun _ _ => rfl) (fun y u hu => one_ver y u hu) (by unfold maxLen; omega) (by omega) (by simp) ?_)
    intro v' w1 hown hg
    have Hown := Lib.hid hown
    have Hg := Lib.hid (below_grown_own (Hmade.out w) hg (by simp))
    clear hown hg
    go_wp2_with fail
    go_ret
    refine ⟨_, rfl, ?_, ?_⟩
    · have := Hown.out; rw [← hlen'.out] at this; simpa using this
    · exact ((Below.refl _ _).alloc (Nat.le_refl _) _).trans Hg.out
def zVer : Value := .agg #[.int .i64 0, .string ⟨#[]⟩, .bool false]
theorem ovl_run (g b o o' la ca lb cb : Nat) (cs1 cs2 : Array Value) (t1 t2 : TypeId) (W : World) (h1 : W.heap[g]? = some (.cells cs1 t1 (0, 0))) (h2 : W.heap[b]? = some (.cells cs2 t2 (0, 0))) (hne : g ≠ b) (hk : cs2.size ≠ 0) :
    (callFunc 240 #[.slice (some ⟨g, o, none⟩) la ca, .slice (some ⟨b, o', none⟩) lb cb]).run Tryz.prog W = .ok (.value (.bool false)) W := by
  rw [run_callFunc_extern Tryz.func240 (by kernel_rfl) (by kernel_rfl) (by kernel_rfl) (e := Extern.SlicesOverlaps.overlaps #[130, 130] #[4]) (by kernel_rfl),
    Lib.run_overlaps_apart W 130 4 140 Tryz.underlying130 3 (fun w => by kernel_rfl) ⟨g, o, none⟩ ⟨b, o', none⟩ la ca lb cb hne t1 t2 cs1.size cs2.size (by simp [World.shape?, h1]) (by simp [World.shape?, h2]) hk (blk_frozen h1 _) (blk_frozen h1 _)]
  rfl
theorem bel_drewB {B : Nat} {w X : World} (h : Below B w X) : Below B w X.drew := h.drew
theorem row_ {w w' : World} {r r' : Option Nat} (e : r = r') (h : w.grownBy w' r) : w.grownBy w' r' := e ▸ h
set_option maxHeartbeats 2000000 in
theorem ins_end (B : Nat) (v : Value) (vs : List Ver) (x : Ver) (g : Nat) (w : World) (hown : OwnV w B v vs) (hl : vs.length ≤ 65536) (hg : w.heap[g]? = some (.cells x.cells.toArray 140 (0, 0))) (hB : B ≤ w.heap.size) :
    Calls Tryz.prog 214 #[v, .int .i64 vs.length, .slice (some ⟨g, 0, none⟩) 1 1] w fun e w' => ∃ v', e = .returned v' ∧ OwnV w' B v' (vs ++ [x]) ∧ Below B w w' := by
  obtain ⟨i0, hi, hz0, hz1, hz2⟩ := info_parts info_ver
  obtain ⟨A, cap, rfl, -, hnil, hcap⟩ := rowAt_own (len_ver vs) hown
  have Hown := Lib.hid hown
  have hrow : VsAt w w.heap.size (some ⟨g, 0, none⟩) 1 [x] := rowAt_block [x] (len_ver _) hg (blk_lt hg) (fun j u hu => by simpa using hu)
  have Hrow := Lib.hid hrow
  have hcm : cap ≤ 9223372036854775807 := by
    obtain ⟨-, ⟨h, -⟩ | ⟨g', cap', cur, h, -, -, -, hm, -⟩⟩ := hown
    · injection h with h1 h2 h3; omega
    · injection h with h1 h2 h3; unfold maxLen at hm; omega
  generalize hn : vs.length = n at hl hcap hown hnil ⊢
  have Hn := Lib.hid hn
  clear hrow hown hg hn hnil
  go_enter Tryz.func214, Tryz.ntmps214
  go_wp2_with (at_builtin; refine wpList_append_row (cells := Ver.cells) rfl _ _ 130 rfl B 140 i0 (.agg #[.int .i64 0, .string ⟨#[]⟩, .bool false]) 3 32 Tryz.underlying130 hi hz0 hz1 hz2 rfl (by decide) _ n (vs.flatMap Ver.cells) rfl (Hn.out ▸ Hown.out) (some ⟨g, 0, none⟩) 1 1 _ [x] rfl Hrow.out (fun h => by cases h) (fun _ _ => rfl) (fun y u hu => one_ver y u hu) (by unfold maxLen; omega) (by omega) hB ?_)
  all_goals
    intro v' w1 hown2 hgr
    have Hown2 := Lib.hid hown2
    have h' := Hown.out
    unfold OwnV at h'
    rw [Hn.out] at h'
    have Hg := Lib.hid (below_grown_own h' (row_ (by cases A <;> rfl) hgr) hB)
    clear h'
    clear hown2 hgr
    go_wp2_with fail
    go_ret
    refine ⟨_, rfl, ?_, Hg.out⟩
    have := Hown2.out
    rw [show vs.flatMap Ver.cells ++ x.cells = (vs ++ [x]).flatMap Ver.cells from by simp] at this
    unfold OwnV
    rw [List.length_append, Hn.out]; exact this
/-- A row of versions' cells, cut. -/
theorem flat_take (vs : List Ver) (k : Nat) : (vs.take k).flatMap Ver.cells = (vs.flatMap Ver.cells).take (k * 3) := by
  induction vs generalizing k with
  | nil => simp
  | cons x r ih =>
    cases k with
    | zero => simp
    | succ k =>
      rw [List.take_succ_cons, List.flatMap_cons, List.flatMap_cons, ih, show (k + 1) * 3 = (Ver.cells x).length + k * 3 from by simp [Ver.cells]; omega, List.take_length_add_append]
theorem flat_drop (vs : List Ver) (k : Nat) : (vs.drop k).flatMap Ver.cells = (vs.flatMap Ver.cells).drop (k * 3) := by
  induction vs generalizing k with
  | nil => simp
  | cons x r ih =>
    cases k with
    | zero => simp
    | succ k =>
      rw [List.drop_succ_cons, List.flatMap_cons, ih, show (k + 1) * 3 = (Ver.cells x).length + k * 3 from by simp [Ver.cells]; omega, List.drop_length_add_append]
theorem flat_one (vs : List Ver) : ∀ u ∈ vs.flatMap Ver.cells, u.oneCell' = true := fun u hu => by
  obtain ⟨x, -, h⟩ := List.mem_flatMap.1 hu; exact one_ver x u h
theorem ownV_of {w : World} {B g cap : Nat} {L : List Value} {vs : List Ver} (h : w.heap[g]? = some (.cells L.toArray 140 (0, 0))) (hB : B ≤ g) (hl : L.length = cap * 3) (hc : vs.length ≤ cap) (hm : cap ≤ maxLen) (ht : L.take (vs.length * 3) = vs.flatMap Ver.cells) : OwnV w B (.slice (some ⟨g, 0, none⟩) vs.length cap) vs :=
  ⟨flat_len vs (len_ver vs), Or.inr ⟨g, cap, L.toArray, rfl, hB, h, hc, hm, by simpa using hl, by simpa using ht⟩⟩
set_option maxHeartbeats 4000000 in
theorem ins_grow (B : Nat) (b cap : Nat) (vs : List Ver) (x : Ver) (k : Nat) (g : Nat) (w : World) (hown : OwnV w B (.slice (some ⟨b, 0, none⟩) vs.length cap) vs) (hl : vs.length ≤ 65536) (hk : k < vs.length) (hc : cap < vs.length + 1) (hg : w.heap[g]? = some (.cells x.cells.toArray 140 (0, 0))) (hB : B ≤ w.heap.size) :
    Calls Tryz.prog 214 #[.slice (some ⟨b, 0, none⟩) vs.length cap, .int .i64 k, .slice (some ⟨g, 0, none⟩) 1 1] w fun e w' => ∃ v', e = .returned v' ∧ OwnV w' B v' (vs.take k ++ x :: vs.drop k) ∧ Below w.heap.size w w' := by
  obtain ⟨i0, hi, hz0, hz1, hz2⟩ := info_parts info_ver
  have hsz : (Tryz.prog.info? 140).map (·.size) = some 3 := by rw [hi]; simp [hz1]
  have hbl : b < w.heap.size ∧ B ≤ b := by have := hown.lt b rfl; omega
  have hcell : ∀ j u, (vs.flatMap Ver.cells)[j]? = some u → w.cell? ⟨b, j, none⟩ = some u := fun j u hu => by
    have := hown.cells (g := b) rfl j u hu
    rwa [Addr.add_lit, Nat.zero_add] at this
  have hgc : ∀ j u, (Ver.cells x)[j]? = some u → w.cell? ⟨g, j, none⟩ = some u := fun j u hu => by rw [blk_cell hg]; simpa using hu
  have hcn : vs.length ≤ cap := by
    obtain ⟨-, ⟨h, -⟩ | ⟨g', cap', cur, h, -, -, hn, -⟩⟩ := hown
    · cases h
    · injection h with h1 h2 h3; omega
  have Hcell := Lib.hid hcell
  have Hgc := Lib.hid hgc
  have hgl := blk_lt hg
  have hfl := flat_len vs (len_ver vs)
  have Hfl := Lib.hid hfl
  generalize hn : vs.length = n at hl hk hc hcn ⊢
  have Hn := Lib.hid hn
  have hkk : (n : Int) + 1 - (k : Int) = ((n + 1 - k : Nat) : Int) := by omega
  have Hkk := Lib.hid hkk
  obtain ⟨P1, hP1⟩ : ∃ P1, P1 = (vs.take k).flatMap Ver.cells := ⟨_, rfl⟩
  obtain ⟨D1, hD1⟩ : ∃ D1, D1 = (vs.drop k).flatMap Ver.cells := ⟨_, rfl⟩
  obtain ⟨X1, hX1⟩ : ∃ X1, X1 = Ver.cells x := ⟨_, rfl⟩
  have hPl : P1.length = k * 3 := by rw [hP1, flat_len _ (len_ver _), List.length_take]; omega
  have hDl : D1.length = (n - k) * 3 := by rw [hD1, flat_len _ (len_ver _), List.length_drop]; omega
  have hXl : X1.length = 3 := by rw [hX1]; rfl
  have hPc : ∀ j u, P1[j]? = some u → w.cell? ⟨b, j, none⟩ = some u := fun j u hu => by
    have hj := (List.getElem?_eq_some_iff.1 hu).1
    rw [hP1, flat_take, List.getElem?_take_of_lt (by omega)] at hu
    exact Hcell.out j u hu
  have hDc : ∀ j u, D1[j]? = some u → w.cell? ⟨b, k * 3 + j, none⟩ = some u := fun j u hu => by
    rw [hD1, flat_drop, List.getElem?_drop] at hu
    exact Hcell.out _ u hu
  have hXc : ∀ j u, X1[j]? = some u → w.cell? ⟨g, j, none⟩ = some u := fun j u hu => by rw [hX1] at hu; exact Hgc.out j u hu
  have hD1c : ∀ u ∈ D1, u.oneCell' = true := by rw [hD1]; exact flat_one _
  have hX1c : ∀ u ∈ X1, u.oneCell' = true := by rw [hX1]; exact one_ver _
  have HPc := Lib.hid hPc
  have HDc := Lib.hid hDc
  have HXc := Lib.hid hXc
  have HPl := Lib.hid hPl
  have HDl := Lib.hid hDl
  have HXl := Lib.hid hXl
  have HP1 := Lib.hid hP1
  have HDD := Lib.hid hD1
  have HXX := Lib.hid hX1
  have HD1 := Lib.hid hD1c
  have HX1 := Lib.hid hX1c
  have hck : ¬ cap = k := by omega
  have hk1 : IntKind.i64.wrap ((k : Int) + 1) = (k : Int) + 1 := IntWalk.i64_in _ (by omega)
  have hk2 : (0 : Int) ≤ (k : Int) + 1 := by omega
  have hk3 : ((k : Int) + 1).toNat = k + 1 := by omega
  have hz3 : (cap : Int) < (n : Int) + 1 := by omega
  have hkn : (k : Int) ≤ (n : Int) := by omega
  have hne : ¬ ((k : Int) = (n : Int)) := by omega
  clear hcell hgc hfl hn hkk hPl hDl hXl hPc hDc hXc hD1c hX1c hP1 hD1 hX1 hg hown
  go_enter Tryz.func214, Tryz.ntmps214
  go_wp2_with (at_builtin; refine wpList_append_zerosK rfl _ _ 130 3 rfl 140 i0 (.agg #[.int .i64 0, .string ⟨#[]⟩, .bool false]) 3 32 .i64 .i64 Tryz.underlying130 Tryz.underlying3 hi hz0 hz1 hz2 (by decide) (some ⟨b, 0, none⟩) k cap rfl (n + 1 - k) (show Value.int .i64 _ = _ from by rw [← Hkk.out]) P1 HPl.out (fun _ => ⟨_, rfl, fun j u hu => by rw [Addr.add_lit, Nat.zero_add]; exact HPc.out j u hu⟩) (by omega) (by omega) (by omega) (by omega) (by unfold maxLen; omega) ?_ rfl)
  intro cp hcp hcm w1 L HL HLl HLt HLb HLs
  have hLs := HLs.out
  have Hcp := Lib.hid hcp
  have hcpi : ¬ cp = k := by omega
  have hcpj : ¬ cp = k + 1 := by omega
  have hcp2 : (cp : Int) ≤ 9223372036854775807 := by unfold maxLen at hcm; omega
  have hcp3 : n + 1 ≤ cp := by omega
  have hkn2 : k + (n + 1 - k) = n + 1 := by omega
  rw [hkn2]
  clear hcp hkn2
  have hbm : b < w1.heap.size := by omega
  have Hm1 : Hid (X1.length = Nat.min 1 (n + 1 - k) * 3) := Lib.hid (by rw [HXl.out, show Nat.min 1 (n + 1 - k) = 1 from Nat.min_eq_left (by omega)])
  go_wp2_with (with_reducible refine wpList_copy_spliceK (o := ⟨some 45, _, _, _, _, _⟩) rfl (.tmp 43) (.tmp 44) 130 130 rfl 140 3 (by decide) Tryz.underlying130 hsz (some ⟨w.heap.size, k * 3, none⟩) (some ⟨g, 0, none⟩) (n + 1 - k) (cp - k) 1 1 rfl rfl w.heap.size (k * 3) L 140 HL.out X1 Hm1.out (fun _ => ⟨rfl, _, rfl, fun j u hu => by rw [Addr.add_lit, Nat.zero_add]; exact (HLb.out.cell (p := ⟨g, j, none⟩) hgl).trans (HXc.out j u hu)⟩) (by rw [HXl.out, HLl.out]; omega) HX1.out w.heap.size w HLb.out (Nat.le_refl _) ?_)
  intro w2 HL2 hb2 hs2 _ho2
  have Hb2 := Lib.hid hb2
  have Hs2 := Lib.hid hs2
  clear hb2 hs2
  have Hm2 : Hid (D1.length = Nat.min (n - k) (n + 1 - (k + 1)) * 3) := Lib.hid (by rw [HDl.out, show Nat.min (n - k) (n + 1 - (k + 1)) = n - k from Nat.min_eq_left (by omega)])
  have hL2l : (splice L (k * 3) X1).length = cp * 3 := by rw [length_splice _ _ _ (by rw [HXl.out, HLl.out]; omega)]; exact HLl.out
  have HL2l := Lib.hid hL2l
  have hdc2 : ∀ j u, D1[j]? = some u → w2.cell? ⟨b, k * 3 + j, none⟩ = some u := fun j u hu => (Hb2.out.cell (p := ⟨b, k * 3 + j, none⟩) hbl.1).trans (HDc.out j u hu)
  have Hdc2 := Lib.hid hdc2
  clear hL2l hdc2
  go_wp2_with fail
  go_region_law (refine step_copy_spliceK rfl (.tmp 50) (.tmp 53) 130 130 rfl 140 3 (by decide) Tryz.underlying130 hsz (some ⟨w.heap.size, (k + 1) * 3, none⟩) (some ⟨b, k * 3, none⟩) (n + 1 - (k + 1)) (cp - (k + 1)) (n - k) (cap - k) (by simp [Act.eval, Act.put]) (by simp [Act.eval, Act.put]) w.heap.size ((k + 1) * 3) (splice L (k * 3) X1) 140 HL2.out D1 Hm2.out (fun _ => ⟨rfl, _, rfl, fun j u hu => by rw [Addr.add_lit]; exact Hdc2.out j u hu⟩) (by rw [HDl.out, HL2l.out]; omega) HD1.out w.heap.size w (bel_drew Hb2.out) (Nat.le_refl _) ?_; intro w3 HL3 hb3 hs3 _ho3)
  have Hb3 := Lib.hid hb3
  clear hb3 hs3
  go_wp2_with fail
  go_ret
  refine ⟨_, rfl, ?_, Hb3.out⟩
  have hlen : (vs.take k ++ x :: vs.drop k).length = n + 1 := by rw [List.length_append, List.length_cons, List.length_take, List.length_drop]; have := Hn.out; omega
  have hflat : (vs.take k ++ x :: vs.drop k).flatMap Ver.cells = P1 ++ (X1 ++ D1) := by rw [List.flatMap_append, List.flatMap_cons, HP1.out, HXX.out, HDD.out]
  obtain ⟨e1, e2⟩ := splice_dst_src (L := L) (P := P1) (X := X1) (D := D1) (a := k * 3) (b := 3) (c := (n - k) * 3) HPl.out HXl.out HDl.out (by rw [HLl.out]; omega) HLt.out
  rw [show k * 3 + 3 = (k + 1) * 3 from by omega, show (k + 1) * 3 + (n - k) * 3 = (n + 1) * 3 from by omega] at e2
  have := ownV_of (vs := vs.take k ++ x :: vs.drop k) (cap := cp) HL3.out hB (by rw [length_splice _ _ _ (by rw [HDl.out, HL2l.out]; omega)]; exact HL2l.out) (by rw [hlen]; exact hcp3) hcm (by rw [hlen, hflat]; exact e2)
  rwa [hlen] at this
end Go.Proofs.YtafghiekpgjniaaGreatDoor

/- slices.Insert of a version where there is room. -/

namespace Go.Proofs.YtafghiekpgjniaaGreatDoor
open Go.RowKit
set_option linter.unusedVariables false
set_option linter.unusedSimpArgs false

set_option maxRecDepth 100000
set_option maxHeartbeats 4000000 in
theorem ins_room (B : Nat) (b cap : Nat) (vs : List Ver) (x : Ver) (k : Nat) (g : Nat) (w : World) (hown : OwnV w B (.slice (some ⟨b, 0, none⟩) vs.length cap) vs) (hl : vs.length ≤ 65536) (hk : k < vs.length) (hc : vs.length + 1 ≤ cap) (hg : w.heap[g]? = some (.cells x.cells.toArray 140 (0, 0))) (hgb : g ≠ b) :
    Calls Tryz.prog 214 #[.slice (some ⟨b, 0, none⟩) vs.length cap, .int .i64 k, .slice (some ⟨g, 0, none⟩) 1 1] w fun e w' => ∃ v', e = .returned v' ∧ OwnV w' B v' (vs.take k ++ x :: vs.drop k) ∧ Below B w w' := by
  obtain ⟨i0, hi, hz0, hz1, hz2⟩ := info_parts info_ver
  have hsz : (Tryz.prog.info? 140).map (·.size) = some 3 := by rw [hi]; simp [hz1]
  have hbl : b < w.heap.size ∧ B ≤ b := by have := hown.lt b rfl; omega
  have hcell : ∀ j u, (vs.flatMap Ver.cells)[j]? = some u → w.cell? ⟨b, j, none⟩ = some u := fun j u hu => by
    have := hown.cells (g := b) rfl j u hu
    rwa [Addr.add_lit, Nat.zero_add] at this
  have hgc : ∀ j u, (Ver.cells x)[j]? = some u → w.cell? ⟨g, j, none⟩ = some u := fun j u hu => by rw [blk_cell hg]; simpa using hu
  obtain ⟨L, hL, hLl, hLt, hcm⟩ : ∃ L : List Value, w.heap[b]? = some (.cells L.toArray 140 (0, 0)) ∧ L.length = cap * 3 ∧ L.take (vs.length * 3) = vs.flatMap Ver.cells ∧ cap ≤ maxLen := by
    obtain ⟨-, ⟨h, -⟩ | ⟨g', cap', cur, h, h1, h2, h3, h4, h5, h6⟩⟩ := hown
    · cases h
    · injection h with q1 q2 q3
      injection q1 with q1; injection q1 with q1
      subst q1 q3
      exact ⟨cur.toList, by simpa using h2, by simpa using h5, h6, h4⟩
  have hov := fun lb cb => ovl_run g b 0 ((k + 1) * 3) 1 1 lb cb _ _ _ _ w hg hL hgb (by simp; intro h; rw [h] at hLl; simp at hLl; omega)
  have Hcell := Lib.hid hcell
  have Hgc := Lib.hid hgc
  have hgl := blk_lt hg
  have HL := Lib.hid hL
  have HLl := Lib.hid hLl
  have hLt2 : L.take (k * 3) = (vs.take k).flatMap Ver.cells := by rw [flat_take, ← hLt, List.take_take, Nat.min_eq_left (by omega)]
  generalize hn : vs.length = n at hl hk hc ⊢
  have Hn := Lib.hid hn
  obtain ⟨P1, hP1⟩ : ∃ P1, P1 = (vs.take k).flatMap Ver.cells := ⟨_, rfl⟩
  obtain ⟨D1, hD1⟩ : ∃ D1, D1 = (vs.drop k).flatMap Ver.cells := ⟨_, rfl⟩
  obtain ⟨X1, hX1⟩ : ∃ X1, X1 = Ver.cells x := ⟨_, rfl⟩
  rw [← hP1] at hLt2
  have HLt := Lib.hid hLt2
  have hPl : P1.length = k * 3 := by rw [hP1, flat_len _ (len_ver _), List.length_take]; omega
  have hDl : D1.length = (n - k) * 3 := by rw [hD1, flat_len _ (len_ver _), List.length_drop]; omega
  have hXl : X1.length = 3 := by rw [hX1]; rfl
  have hDc : ∀ j u, D1[j]? = some u → w.cell? ⟨b, k * 3 + j, none⟩ = some u := fun j u hu => by
    rw [hD1, flat_drop, List.getElem?_drop] at hu
    exact Hcell.out _ u hu
  have hXc : ∀ j u, X1[j]? = some u → w.cell? ⟨g, j, none⟩ = some u := fun j u hu => by rw [hX1] at hu; exact Hgc.out j u hu
  have hD1c : ∀ u ∈ D1, u.oneCell' = true := by rw [hD1]; exact flat_one _
  have hX1c : ∀ u ∈ X1, u.oneCell' = true := by rw [hX1]; exact one_ver _
  have HDc := Lib.hid hDc
  have HXc := Lib.hid hXc
  have HPl := Lib.hid hPl
  have HDl := Lib.hid hDl
  have HXl := Lib.hid hXl
  have HP1 := Lib.hid hP1
  have HDD := Lib.hid hD1
  have HXX := Lib.hid hX1
  have HD1 := Lib.hid hD1c
  have HX1 := Lib.hid hX1c
  have hck : ¬ cap = k := by omega
  have hck2 : ¬ cap = k + 1 := by omega
  have hk1 : IntKind.i64.wrap ((k : Int) + 1) = (k : Int) + 1 := IntWalk.i64_in _ (by omega)
  have hk2 : (0 : Int) ≤ (k : Int) + 1 := by omega
  have hk3 : ((k : Int) + 1).toNat = k + 1 := by omega
  have hn3 : ((n : Int) + 1).toNat = n + 1 := by omega
  have hn4 : (0 : Int) ≤ (n : Int) + 1 := by omega
  have hz3 : ¬ ((cap : Int) < (n : Int) + 1) := by omega
  have hz4 : (n : Int) + 1 ≤ (cap : Int) := by omega
  have hcp2 : (cap : Int) ≤ 9223372036854775807 := by unfold maxLen at hcm; omega
  have hkn : (k : Int) ≤ (n : Int) := by omega
  have hkn1 : (k : Int) ≤ (n : Int) + 1 := by omega
  have hne : ¬ ((k : Int) = (n : Int)) := by omega
  have hz5 : 3 ≤ cap * 3 := by omega
  have Hm1 : Hid (X1.length = Nat.min 1 (n + 1 - k) * 3) := Lib.hid (by rw [HXl.out, show Nat.min 1 (n + 1 - k) = 1 from Nat.min_eq_left (by omega)])
  have Hm2 : Hid (D1.length = Nat.min (n + 1 - k) (n + 1 - (k + 1)) * 3) := Lib.hid (by rw [HDl.out, show Nat.min (n + 1 - k) (n + 1 - (k + 1)) = n - k from (Nat.min_eq_right (by omega)).trans (by omega)])
  clear hcell hgc hn hPl hDl hXl hDc hXc hD1c hX1c hP1 hD1 hX1 hg hown hL hLl hLt hLt2
  go_enter Tryz.func214, Tryz.ntmps214
  go_wp2_with (simp only [hov])
  clear hov
  go_region_law (refine step_copy_spliceK rfl (.tmp 73) (.tmp 76) 130 130 rfl 140 3 (by decide) Tryz.underlying130 hsz (some ⟨b, (k + 1) * 3, none⟩) (some ⟨b, k * 3, none⟩) (n + 1 - (k + 1)) (cap - (k + 1)) (n + 1 - k) (cap - k) (by simp [Act.eval, Act.put]) (by simp [Act.eval, Act.put]) b ((k + 1) * 3) L 140 HL.out D1 Hm2.out (fun _ => ⟨rfl, _, rfl, fun j u hu => by rw [Addr.add_lit]; exact HDc.out j u hu⟩) (by rw [HDl.out, HLl.out]; omega) HD1.out B w (bel_drewB (Below.refl _ _)) hbl.2 ?_; intro w2 HL2 hb2 hs2 HO2)
  have Hb2 := Lib.hid hb2
  have hL2l : (splice L ((k + 1) * 3) D1).length = cap * 3 := by rw [length_splice _ _ _ (by rw [HDl.out, HLl.out]; omega)]; exact HLl.out
  have HL2l := Lib.hid hL2l
  have hxc2 : ∀ j u, X1[j]? = some u → w2.cell? ⟨g, j, none⟩ = some u := fun j u hu => (World.cell?_of_block (a := ⟨g, j, none⟩) (HO2.out g hgb)).trans (HXc.out j u hu)
  have Hxc2 := Lib.hid hxc2
  clear hL2l hxc2 hb2 hs2
  go_wp2_with (with_reducible refine wpList_copy_spliceK (o := ⟨some 82, _, _, _, _, _⟩) rfl (.tmp 80) (.tmp 81) 130 130 rfl 140 3 (by decide) Tryz.underlying130 hsz (some ⟨b, k * 3, none⟩) (some ⟨g, 0, none⟩) (n + 1 - k) (cap - k) 1 1 rfl rfl b (k * 3) (splice L ((k + 1) * 3) D1) 140 HL2.out X1 Hm1.out (fun _ => ⟨rfl, _, rfl, fun j u hu => by rw [Addr.add_lit, Nat.zero_add]; exact Hxc2.out j u hu⟩) (by rw [HXl.out, HL2l.out]; omega) HX1.out B w Hb2.out hbl.2 ?_)
  intro w3 HL3 hb3 hs3 _ho3
  have Hb3 := Lib.hid hb3
  clear hb3 hs3
  go_wp2_with fail
  go_ret
  refine ⟨_, rfl, ?_, Hb3.out⟩
  have hlen : (vs.take k ++ x :: vs.drop k).length = n + 1 := by rw [List.length_append, List.length_cons, List.length_take, List.length_drop]; have := Hn.out; omega
  have hflat : (vs.take k ++ x :: vs.drop k).flatMap Ver.cells = P1 ++ (X1 ++ D1) := by rw [List.flatMap_append, List.flatMap_cons, HP1.out, HXX.out, HDD.out]
  obtain ⟨e1, e2⟩ := splice_dst_src (L := L) (P := P1) (X := X1) (D := D1) (a := k * 3) (b := 3) (c := (n - k) * 3) HPl.out HXl.out HDl.out (by rw [HLl.out]; omega) HLt.out
  rw [show k * 3 + 3 = (k + 1) * 3 from by omega, show (k + 1) * 3 + (n - k) * 3 = (n + 1) * 3 from by omega] at e1
  have := ownV_of (vs := vs.take k ++ x :: vs.drop k) (cap := cap) HL3.out hbl.2 (by rw [length_splice _ _ _ (by rw [HXl.out, HL2l.out]; omega)]; exact HL2l.out) (by rw [hlen]; omega) hcm (by rw [hlen, hflat]; exact e1)
  rwa [hlen] at this
/-- slices.Insert of one version. -/
theorem ins_any (B : Nat) (v : Value) (vs : List Ver) (x : Ver) (k : Nat) (g : Nat) (w : World) (hown : OwnV w B v vs) (hl : vs.length ≤ 65536) (hk : k ≤ vs.length) (hg : w.heap[g]? = some (.cells x.cells.toArray 140 (0, 0))) (hgb : v.ownBlock ≠ some g) (hB : B ≤ w.heap.size) :
    Calls Tryz.prog 214 #[v, .int .i64 k, .slice (some ⟨g, 0, none⟩) 1 1] w fun e w' => ∃ v', e = .returned v' ∧ OwnV w' B v' (vs.take k ++ x :: vs.drop k) ∧ Below B w w' := by
  rcases Nat.lt_or_ge k vs.length with hlt | hge
  · have hown' := hown
    obtain ⟨-, ⟨rfl, h0⟩ | ⟨b, cap, cur, rfl, -⟩⟩ := hown'
    · omega
    · by_cases hc : cap < vs.length + 1
      · exact (ins_grow B b cap vs x k g w hown hl hlt hc hg hB).mono fun e w' ⟨v', h1, h2, h3⟩ => ⟨v', h1, h2, h3.mono hB⟩
      · exact ins_room B b cap vs x k g w hown hl hlt (by omega) hg (fun e => hgb (by simp [Value.ownBlock, e]))
  · obtain rfl : k = vs.length := by omega
    have := ins_end B v vs x g w hown hl hg hB
    rw [List.take_of_length_le (Nat.le_refl _), List.drop_eq_nil_of_le (Nat.le_refl _)]
    exact this
end Go.Proofs.YtafghiekpgjniaaGreatDoor


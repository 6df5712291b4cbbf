/- copy between rows of elements of many cells, and append of a make: laws for the walk. Plain theorems over any program. -/
import Derived.Test.YtfpcgfgofemhoaaGreatCore
import Derived.Laws.CopyOwn
import Derived.Lib.AppendZerosOnto
import Derived.Lib.Overlaps
import Derived.Laws.Externs
import Derived.Deep.RegionLaw
namespace Go.Proofs.YtfpcgfgofemhoaaGreat
open Go.RowKit
set_option linter.unusedVariables false
set_option linter.unusedSimpArgs false

section
variable {P : Program}
theorem run_copy_rowK (w : World) (dT sT ty elem : TypeId) (sz g o dLen dCap : Nat) (a : Addr) (sLen sCap : Nat) (cur : Array Value) (t : TypeId) (cs : List Value)
    (hu : P.underlying dT = some (.slice elem)) (hs : (P.info? elem).map (·.size) = some sz)
    (hg : w.heap[g]? = some (.cells cur t (0, 0))) (hn : cs.length = Nat.min sLen dLen * sz)
    (hsrc : ∀ j v, cs[j]? = some v → w.cell? (a.add j) = some v) (hfit : o + cs.length ≤ cur.size) (h1 : ∀ v ∈ cs, v.oneCell' = true) :
    (Builtin.copy_ #[dT, sT] ty #[.slice (some ⟨g, o, none⟩) dLen dCap, .slice (some a) sLen sCap]).run P w =
      .ok (goInt (Nat.min sLen dLen)) (w.setRow g (cur.toList.take o ++ cs ++ cur.toList.drop (o + cs.length)).toArray) := by
  have hl := run_loadCells_list (P := P) w a cs hsrc
  have hst := run_storeCells_at P g o t cs 0 cur w hg (by simpa using hfit) h1
  cases hq : P.info? elem with
  | none => simp [hq] at hs
  | some i =>
    have hi : i.size = sz := by simpa [hq] using hs
    simp [Builtin.copy_, run_underlying hu, Builtin.lenOf, Builtin.firstCells, sizeOf, typeInfo, hq, hi, ← hn, hl, hst]
theorem run_copy_noneK (w : World) (dT sT ty elem : TypeId) (sz : Nat) (d a : Option Addr) (dLen dCap sLen sCap : Nat) (hu : P.underlying dT = some (.slice elem)) (hs : (P.info? elem).map (·.size) = some sz)
    (hn : Nat.min sLen dLen = 0) :
    (Builtin.copy_ #[dT, sT] ty #[.slice d dLen dCap, .slice a sLen sCap]).run P w = .ok (goInt 0) w := by
  have hl : ∀ b : Addr, (loadCells b 0).run P w = .ok #[] w := fun b => run_loadCells_list (P := P) w b [] (fun j v h => by simp at h)
  cases hq : P.info? elem with
  | none => simp [hq] at hs
  | some i => cases d <;> cases a <;> simp [Builtin.copy_, run_underlying hu, Builtin.lenOf, Builtin.firstCells, sizeOf, typeInfo, hq, hn, hl, storeCells]
/-- 'copy(d, s)' into a row that is known whole, elements of sz cells. -/
theorem wpList_copy_spliceK {w : World} {ops : Array Oper} {rest : List Oper} {o : Oper} {a : Act} {Q : Exit → Act → World → Prop} (hgd : o.guard = none) (d s : Operand) (dT sT : TypeId)
    (ho : o.op = .call { callee := .builtin .copy, args := #[d, s], argTypes := #[dT, sT] }) (elem : TypeId) (sz : Nat) (hz0 : 0 < sz) (hu : P.underlying dT = some (.slice elem)) (hsz : (P.info? elem).map (·.size) = some sz)
    (dp sp : Option Addr) (dLen dCap sLen sCap : Nat) (hd : a.eval d = .slice dp dLen dCap) (hs : a.eval s = .slice sp sLen sCap)
    (g off : Nat) (cur : List Value) (t : TypeId) (hg : w.heap[g]? = some (.cells cur.toArray t (0, 0))) (cs : List Value) (hn : cs.length = Nat.min sLen dLen * sz)
    (hpos : 0 < cs.length → dp = some ⟨g, off, none⟩ ∧ ∃ ad, sp = some ad ∧ ∀ j v, cs[j]? = some v → w.cell? (ad.add j) = some v)
    (hfit : off + cs.length ≤ cur.length) (h1 : ∀ v ∈ cs, v.oneCell' = true) (B : Nat) (w0 : World) (hb : Below B w0 w) (hBg : B ≤ g)
    (h : ∀ w', Hid (w'.heap[g]? = some (.cells (splice cur off cs).toArray t (0, 0))) → Below B w0 w' → w'.heap.size = w.heap.size → Hid (∀ i, i ≠ g → w'.heap[i]? = w.heap[i]?) → wpList P ops Q rest (a.put o.dst (goInt (Nat.min sLen dLen))) w') :
    wpList P ops Q (o :: rest) a w := by
  refine wpList_plain hgd fun K hK => ?_
  by_cases h0 : cs.length = 0
  · obtain rfl : cs = [] := List.eq_nil_of_length_eq_zero h0
    have hm : Nat.min sLen dLen = 0 := by
      rcases Nat.mul_eq_zero.1 (by simpa using hn.symm) with h | h
      · exact h
      · omega
    have hrun := run_copy_noneK (P := P) w dT sT o.type elem sz dp sp dLen dCap sLen sCap hu hsz hm
    unfold Oper.wp
    simp [execOp, ho, resolve, invoke, builtin, hd, hs, hrun, Result.andThen]
    have := h w (Lib.hid (by simpa [splice] using hg)) hb rfl (Lib.hid fun _ _ => rfl)
    rw [hm] at this
    exact hK _ _ this
  · obtain ⟨rfl, ad, rfl, hsrc⟩ := hpos (by omega)
    have hrun := run_copy_rowK (P := P) w dT sT o.type elem sz g off dLen dCap ad sLen sCap cur.toArray t cs hu hsz hg hn hsrc (by simpa using hfit) h1
    unfold Oper.wp
    simp [execOp, ho, resolve, invoke, builtin, hd, hs, hrun, Result.andThen]
    have := h _ (Lib.hid (by simpa [splice] using setRow_heap w g _ _ t _ hg)) (below_setRow hb hBg _) (by simp [World.setRow]) (Lib.hid fun i hi => setRow_other w g i _ hi)
    exact hK _ _ this
theorem step_copy_spliceK {ops : Array Oper} {o : Oper} {a : Act} {w : World} {K : Act → World → Prop} {Q : Exit → Act → World → Prop} {E : Prop} (hgd : o.guard = none) (d s : Operand) (dT sT : TypeId)
    (ho : o.op = .call { callee := .builtin .copy, args := #[d, s], argTypes := #[dT, sT] }) (elem : TypeId) (sz : Nat) (hz0 : 0 < sz) (hu : P.underlying dT = some (.slice elem)) (hsz : (P.info? elem).map (·.size) = some sz)
    (dp sp : Option Addr) (dLen dCap sLen sCap : Nat) (hd : a.eval d = .slice dp dLen dCap) (hs : a.eval s = .slice sp sLen sCap)
    (g off : Nat) (cur : List Value) (t : TypeId) (hg : w.heap[g]? = some (.cells cur.toArray t (0, 0))) (cs : List Value) (hn : cs.length = Nat.min sLen dLen * sz)
    (hpos : 0 < cs.length → dp = some ⟨g, off, none⟩ ∧ ∃ ad, sp = some ad ∧ ∀ j v, cs[j]? = some v → w.cell? (ad.add j) = some v)
    (hfit : off + cs.length ≤ cur.length) (h1 : ∀ v ∈ cs, v.oneCell' = true) (B : Nat) (w0 : World) (hb : Below B w0 w) (hBg : B ≤ g)
    (h : ∀ w', Hid (w'.heap[g]? = some (.cells (splice cur off cs).toArray t (0, 0))) → Below B w0 w' → w'.heap.size = w.heap.size → Hid (∀ i, i ≠ g → w'.heap[i]? = w.heap[i]?) → K (a.put o.dst (goInt (Nat.min sLen dLen))) w') :
    if Region.wanted o (yielded ops a.tmps) = true then Oper.wp P o a w K Q else E := by
  have hw : Region.wanted o (yielded ops a.tmps) = true := by simp [Region.wanted, hgd]
  rw [if_pos hw]
  by_cases h0 : cs.length = 0
  · obtain rfl : cs = [] := List.eq_nil_of_length_eq_zero h0
    have hm : Nat.min sLen dLen = 0 := by
      rcases Nat.mul_eq_zero.1 (by simpa using hn.symm) with h | h
      · exact h
      · omega
    have hrun := run_copy_noneK (P := P) w dT sT o.type elem sz dp sp dLen dCap sLen sCap hu hsz hm
    unfold Oper.wp
    simp [execOp, ho, resolve, invoke, builtin, hd, hs, hrun, Result.andThen]
    have := h w (Lib.hid (by simpa [splice] using hg)) hb rfl (Lib.hid fun _ _ => rfl)
    rw [hm] at this
    exact this
  · obtain ⟨rfl, ad, rfl, hsrc⟩ := hpos (by omega)
    have hrun := run_copy_rowK (P := P) w dT sT o.type elem sz g off dLen dCap ad sLen sCap cur.toArray t cs hu hsz hg hn hsrc (by simpa using hfit) h1
    unfold Oper.wp
    simp [execOp, ho, resolve, invoke, builtin, hd, hs, hrun, Result.andThen]
    have := h _ (Lib.hid (by simpa [splice] using setRow_heap w g _ _ t _ hg)) (below_setRow hb hBg _) (by simp [World.setRow]) (Lib.hid fun i hi => setRow_other w g i _ hi)
    exact this
theorem zeros_row {w w' : World} {olds : List Value} {z : Value} {k cp n size : Nat} {e : TypeId} (hw : w' = w.drew.alloc (.cells (olds.toArray ++ Builtin.zeroCells z.cells k ++ Builtin.zeroCells z.cells (cp - (n + k))) e)) (hol : olds.length = n * size) (hz : z.cells.size = size) (hcp : n + k ≤ cp) :
    ∃ L : List Value, w'.heap[w.heap.size]? = some (.cells L.toArray e (0, 0)) ∧ L.length = cp * size ∧ L.take (n * size) = olds ∧ Below w.heap.size w w' ∧ w'.heap.size = w.heap.size + 1 := by
  refine ⟨(olds.toArray ++ Builtin.zeroCells z.cells k ++ Builtin.zeroCells z.cells (cp - (n + k))).toList, ?_, ?_, ?_, ?_, ?_⟩
  · rw [hw, Array.toArray_toList]; exact blk_new w.drew _
  · simp only [Array.length_toList, Array.size_append, size_zeroCells, hz, List.size_toArray, hol]
    rw [← Nat.add_mul, ← Nat.add_mul]; congr 1; omega
  · rw [Array.toList_append, Array.toList_append, List.append_assoc]
    rw [List.take_append_of_le_length (by simp [hol]), List.take_of_length_le (by simp [hol])]
  · rw [hw]; exact (bel_drew (Below.refl _ _)).alloc (Nat.le_refl _) _
  · rw [hw]; simp
/-- 'append(s, make([]E, k)...)' where s has no room: a new row. -/
theorem wpList_append_zerosK {w : World} {ops : Array Oper} {rest : List Oper} {o : Oper} {a : Act} {Q : Exit → Act → World → Prop} (hgd : o.guard = none) (s x : Operand) (t tn : TypeId)
    (ho : o.op = .call { callee := .builtin .append, args := #[s, x], argTypes := #[t, tn] }) (e : TypeId) (i : TypeInfo) (z : Value) (size bytes : Nat) (kq kn : IntKind)
    (ht : P.underlying t = some (.slice e)) (htn : P.underlying tn = some (.int kn)) (hi : P.info? e = some i) (hz : i.zero = some z) (hsize : i.size = size) (hby : i.bytes = bytes) (hs0 : 0 < size)
    (A : Option Addr) (n c : Nat) (hs : a.eval s = .slice A n c) (k : Nat) (hx : a.eval x = .int kq k) (olds : List Value) (hol : olds.length = n * size)
    (hold : 0 < n → ∃ ad, A = some ad ∧ ∀ j v, olds[j]? = some v → w.cell? (ad.add j) = some v) (h0 : 0 < k) (hg : c < n + k) (hnc : n ≤ c) (hbig : (n + k) * bytes ≤ 140737488355328) (hm : n + k ≤ maxLen)
    (h : ∀ cp, n + k ≤ cp → cp ≤ maxLen → ∀ (w' : World) (L : List Value), Hid (w'.heap[w.heap.size]? = some (.cells L.toArray e (0, 0))) → Hid (L.length = cp * size) → Hid (L.take (n * size) = olds) → Hid (Below w.heap.size w w') → Hid (w'.heap.size = w.heap.size + 1) → wpList P ops Q rest (a.put o.dst (.slice (some ⟨w.heap.size, 0, none⟩) (n + k) cp)) w') (hzs : z.cells.size = size) :
    wpList P ops Q (o :: rest) a w := by
  refine wpList_plain hgd fun K hK => ?_
  have hold' : (Builtin.firstCells i.size n (.slice A n c)).run P w.drew = .ok olds.toArray w.drew := by
    rw [hsize]
    cases A with
    | none =>
      have hn0 : n = 0 := by
        rcases Nat.eq_zero_or_pos n with h | h
        · exact h
        · obtain ⟨ad, h, -⟩ := hold h; cases h
      subst hn0
      obtain rfl : olds = [] := List.eq_nil_of_length_eq_zero (by simpa using hol)
      exact run_firstCells_none w.drew size 0 0 c
    | some ad =>
      refine run_firstCells_some w.drew size n ad n c olds hol fun j v hj => ?_
      have hn0 : 0 < n := by
        rcases Nat.eq_zero_or_pos n with h | h
        · subst h
          have h1 : olds = [] := List.eq_nil_of_length_eq_zero (by simpa using hol)
          subst h1; simp at hj
        · exact h
      obtain ⟨ad', h1, h2⟩ := hold hn0
      injection h1 with h1; subst h1
      exact h2 j v hj
  have h63 : ((n + k : Nat) : Int) ≤ 9223372036854775807 := by unfold maxLen at hm; omega
  have hkb : k * bytes ≤ (n + k) * bytes := Nat.mul_le_mul_right _ (by omega)
  have hrun := Lib.run_append_grow_zeros (P := P) w t tn o.type e i z kq kn ht htn hi hz A n c olds hold' k h0 (by omega) hg h63 (by rw [hby]; omega) (by rw [hby]; exact growslice_fits hg hbig)
  unfold Oper.wp
  simp [execOp, ho, resolve, invoke, builtin, hs, hx, hrun, Result.andThen]
  obtain ⟨L, h1, h2, h3, h4, h5⟩ := zeros_row (w := w) (olds := olds) (z := z) (k := k) (cp := grownCap w (n + k) c e) (n := n) (size := size) (e := e) rfl hol hzs (grownCap_ge w _ _ _)
  have := h _ (grownCap_ge w _ _ _) (grownCap_le_maxLen w (n + k) c e hm) _ L (Lib.hid h1) (Lib.hid h2) (Lib.hid h3) (Lib.hid h4) (Lib.hid h5)
  rw [← Array.append_assoc]
  exact hK _ _ this
end
end Go.Proofs.YtfpcgfgofemhoaaGreat

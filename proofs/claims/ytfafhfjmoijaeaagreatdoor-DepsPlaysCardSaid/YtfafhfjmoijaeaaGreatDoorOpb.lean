/- XOpb: out of XOpen XOpen2 XOpenP XOpd XOpenQ (pick.py). -/
import Derived.Test.YtfafhfjmoijaeaaGreatDoorKg
import Derived.ProofKit
import Derived.Deep.Slices
import Derived.Deep.Fields
import Derived.ChangeSame
import Derived.Lib.SmallJoins
import Derived.SizedLaws
namespace Go.Proofs.YtfafhfjmoijaeaaGreatDoor
open Go.RowKit
set_option linter.unusedVariables false
set_option linter.unusedSimpArgs false

section
open Go.ChangeShapes Go.WideShapes Go.Deep

theorem list_of {α : Type} {Q : Nat → α → Prop} : ∀ n, (∀ i, i < n → ∃ x, Q i x) → ∃ l : List α, l.length = n ∧ ∀ i x, l[i]? = some x → Q i x
  | 0, _ => ⟨[], rfl, by simp⟩
  | n + 1, h => by
    obtain ⟨l, hl, hQ⟩ := list_of n fun i hi => h i (by omega)
    obtain ⟨x, hx⟩ := h n (by omega)
    refine ⟨l ++ [x], by simp [hl], fun i y hy => ?_⟩
    rw [List.getElem?_append] at hy
    split at hy
    · exact hQ i y hy
    · rename_i hi
      have : i = n := by
        have := (List.getElem?_eq_some_iff.1 hy).1
        simp at this; omega
      subst this
      simp [hl] at hy
      exact hy ▸ hx

theorem spot_add {a : Addr} (h : (a.add 0).spot = none) : ∃ b off, a = ⟨b, off, none⟩ := by
  obtain ⟨b, off, s⟩ := a
  have : s = none := by simpa [Addr.add] using h
  exact ⟨b, off, by rw [this]⟩

end
section
open Go.ChangeShapes Go.WideShapes Go.Deep

variable {H : Type} {enc : TypeId × Value → H} {P : Program} {w : World} {base : Nat} {spare : Nat → Bool} {held : Bool}
theorem open_slice_fields {t e : TypeId} {fs : Array Field} {fuel : Nat} {cs : List Value} {x : DataW H × List MemPlace} (ht : P.underlying t = some (.slice e)) (he : P.underlying e = some (.struct fs))
    (hone : oneCellFields P fs = true) (hC : P.cellsOf e = fs.size) (h : DataW.trod enc P w base spare held fuel t cs = some x) :
    (cs = [.slice none 0 0] ∧ x = (.nil, [])) ∨
    ∃ (a : Addr) (len cap m : Nat) (D : Nat → DataW H) (Pl : Nat → List MemPlace), cs = [.slice (some a) len cap] ∧ base ≤ a.block ∧ len ≤ cap ∧ cap ≤ maxLen ∧ m = (if spare a.block then cap else len) ∧
      x = (.slice ((List.range len).map D) ((List.range (m - len)).map fun j => D (len + j)), MemPlace.row a (m * fs.size) ++ (List.range m).flatMap Pl) ∧
      ∀ i, i < m → ∃ (ys : List (DataW H × List MemPlace)) (n : Nat), D i = .agg (ys.map (·.1)) ∧ Pl i = ys.flatMap (·.2) ∧ ys.length = fs.size ∧
        ∀ (j : Nat) (f : Field), fs[j]? = some f → ∃ (v : Value) (y : DataW H × List MemPlace), w.cell? (a.add (i * fs.size + j)) = some v ∧ ys[j]? = some y ∧ DataW.trod enc P w base spare held n f.type [v] = some y := by
  rcases open_slice ht h with h0 | ⟨a, len, cap, m, n, D, Pl, hcs, hb, hl, hm, hmm, hx, hi⟩
  · exact .inl h0
  · refine .inr ⟨a, len, cap, m, D, Pl, hcs, hb, hl, hm, hmm, by rw [hC] at hx; exact hx, fun i him => ?_⟩
    obtain ⟨cs', hc, ht'⟩ := hi i him
    rw [hC] at hc
    obtain ⟨ys, n', hn', hy, hlen, hyl, hf⟩ := DataW.trod_struct he ht'
    obtain ⟨_, hcl, hat⟩ := World.cells?_some hc
    simp only [Prod.mk.injEq] at hy
    refine ⟨ys, n', hy.1, hy.2, hyl, fun j f hj => ?_⟩
    obtain ⟨ho, hk⟩ := hone_of hone j f hj
    have hjl : j < fs.size := (Array.getElem?_eq_some_iff.1 hj).1
    have hcell := hat j hjl
    have hv : cs'[j]? = some (cs'[j]'(by omega)) := List.getElem?_eq_getElem (by omega)
    have h1 := hf j f hj
    rw [ho, hk] at h1
    have hone' : (cs'.drop j).take 1 = [cs'[j]'(by omega)] := by
      rw [List.drop_eq_getElem_cons (by omega)]
      rfl
    rw [hone'] at h1
    have hys : ys[j]? = some (ys[j]'(by omega)) := List.getElem?_eq_getElem (by omega)
    refine ⟨_, _, ?_, hys, h1.trans hys⟩
    rw [← Go.Deep.add_add, hcell, hv]

theorem shape_slice {t e : TypeId} {fuel : Nat} {v : Value} {x : DataW H × List MemPlace} (ht : P.underlying t = some (.slice e)) (h : DataW.trod enc P w base spare held fuel t [v] = some x) : ∃ A len cap, v = .slice A len cap := by
  rcases open_slice ht h with ⟨hcs, -⟩ | ⟨a, len, cap, m, n, D, Pl, hcs, -⟩
  · simp at hcs; exact ⟨_, _, _, hcs⟩
  · simp at hcs; exact ⟨_, _, _, hcs⟩
end
section
open Go.ChangeShapes Go.WideShapes Go.Deep

theorem weightsAll_mem {H : Type} {P : Program} {e : TypeId} : ∀ {l : List (DataW H)} {d : DataW H}, d ∈ l → ∀ n ∈ d.weights P e, n ∈ DataW.weightsAll P e l
  | d' :: r, d, hd, n, hn => by
    simp only [DataW.weightsAll, List.mem_append]
    rcases List.mem_cons.1 hd with rfl | h
    · exact Or.inl hn
    · exact Or.inr (weightsAll_mem h n hn)
/-- All that a datum weighs is within the reach. -/
def Wt {H : Type} (P : Program) (t : TypeId) (d : DataW H) : Prop := ∀ n ∈ d.weights P t, n ≤ reachBytes
theorem wt_arg {H : Type} {P : Program} {ts : List TypeId} {ds : List (DataW H)} (h : (DataW.weightsEach P ts ds).all (· ≤ reachBytes) = true) {j : Nat} {t : TypeId} {d : DataW H} (ht : ts[j]? = some t) (hd : ds[j]? = some d) : Wt P t d :=
  fun n hn => by simpa using List.all_eq_true.1 h _ (DataW.weights_mem_each ht hd n hn)
theorem wt_field {H : Type} {P : Program} {t : TypeId} {fs : Array Field} {ys : List (DataW H)} (hu : P.underlying t = some (.struct fs)) (h : Wt P t (.agg ys)) {j : Nat} {f : Field} {y : DataW H} (hf : fs[j]? = some f) (hy : ys[j]? = some y) : Wt P f.type y :=
  fun n hn => h n (by
    simp only [DataW.weights, hu]
    exact DataW.weights_mem_each (j := j) (by rw [List.getElem?_map, Array.getElem?_toList, hf]; rfl) hy n hn)
theorem wt_elem {H : Type} {P : Program} {t e : TypeId} {es sp : List (DataW H)} (hu : P.underlying t = some (.slice e)) (h : Wt P t (.slice es sp)) {d : DataW H} (hd : d ∈ es) : Wt P e d :=
  fun n hn => h n (by
    simp only [DataW.weights, hu, List.mem_cons, List.mem_append]
    exact Or.inr (Or.inl (weightsAll_mem hd n hn)))
theorem wt_slice {H : Type} {P : Program} {t e : TypeId} {es sp : List (DataW H)} (hu : P.underlying t = some (.slice e)) (h : Wt P t (.slice es sp)) : (es.length + sp.length) * P.bytesOf e ≤ reachBytes :=
  h _ (by simp [DataW.weights, hu])

end
section
open Go.ChangeShapes Go.WideShapes Go.Deep

variable {H : Type} {enc : TypeId × Value → H} {P : Program} {w : World} {base : Nat} {spare : Nat → Bool} {held : Bool}
theorem open_row2 {α : Type} {cells : α → List Value} {Q : α → Prop} {t e : TypeId} {fs : Array Field} {fuel : Nat} {A : Option Addr} {len cap : Nat} {x : DataW H × List MemPlace} (ht : P.underlying t = some (.slice e)) (he : P.underlying e = some (.struct fs))
    (hone : oneCellFields P fs = true) (hC : P.cellsOf e = fs.size) (h0 : 0 < fs.size)
    (hel : ∀ (g : Nat → Value) (n : Nat), (∀ (j : Nat) (f : Field), fs[j]? = some f → ∃ y, DataW.trod enc P w base spare held n f.type [g j] = some y ∧ Wt P f.type y.1) → ∃ x, Q x ∧ (cells x).length = fs.size ∧ ∀ (j : Nat) (u : Value), (cells x)[j]? = some u → g j = u)
    (h : DataW.trod enc P w base spare held fuel t [.slice A len cap] = some x) (hwt : Wt P t x.1) :
    ∃ xs, RowAt cells fs.size w w.heap.size A len xs ∧ (∀ x ∈ xs, Q x) ∧ len ≤ cap ∧ cap ≤ maxLen ∧ (A = none → cap = 0) ∧ len * P.bytesOf e ≤ reachBytes := by
  rcases open_slice_fields ht he hone hC h with ⟨hcs, -⟩ | ⟨a, len', cap', m, D, Pl, hcs, hb, hl, hm, hmm, hx, hi⟩
  · simp at hcs
    obtain ⟨rfl, rfl, rfl⟩ := hcs
    exact ⟨[], RowAt.nil_, by simp, Nat.le_refl _, by simp [maxLen], fun _ => rfl, by simp⟩
  · simp at hcs
    obtain ⟨rfl, rfl, rfl⟩ := hcs
    have hlm : len ≤ m := by rw [hmm]; split <;> omega
    rw [hx] at hwt
    have hby : len * P.bytesOf e ≤ reachBytes := by
      have := wt_slice ht hwt
      simp only [List.length_map, List.length_range] at this
      exact Nat.le_trans (Nat.mul_le_mul_right _ (by omega)) this
    have hall : ∀ i, i < len → ∃ x, Q x ∧ (cells x).length = fs.size ∧ ∀ (j : Nat) (u : Value), (cells x)[j]? = some u → w.cell? (a.add (i * fs.size + j)) = some u := by
      intro i hil
      obtain ⟨ys, n, hD, -, -, hf⟩ := hi i (by omega)
      have hwi : Wt P e (D i) := wt_elem ht hwt (List.mem_map.2 ⟨i, List.mem_range.2 hil, rfl⟩)
      rw [hD] at hwi
      have hg : ∀ j, ∃ v, ∀ f : Field, fs[j]? = some f → w.cell? (a.add (i * fs.size + j)) = some v ∧ ∃ y, DataW.trod enc P w base spare held n f.type [v] = some y ∧ Wt P f.type y.1 := by
        intro j
        cases hj : fs[j]? with
        | none => exact ⟨default, fun f hf => by cases hf⟩
        | some f =>
          obtain ⟨v, y, h1, hy, h2⟩ := hf j f hj
          exact ⟨v, fun f' hf' => by injection hf' with e; subst e; exact ⟨h1, y, h2, wt_field he hwi hj (by rw [List.getElem?_map, hy]; rfl)⟩⟩
      obtain ⟨g, hg⟩ := Classical.axiomOfChoice hg
      obtain ⟨x, hQ, hlen, hx⟩ := hel g n fun j f hj => (hg j f hj).2
      refine ⟨x, hQ, hlen, fun j u hu => ?_⟩
      have hj : j < fs.size := by rw [← hlen]; exact (List.getElem?_eq_some_iff.1 hu).1
      rw [← hx j u hu]
      exact (hg j _ (Array.getElem?_eq_getElem hj)).1
    obtain ⟨xs, hxl, hxs⟩ := list_of (Q := fun i x => Q x ∧ (cells x).length = fs.size ∧ ∀ (j : Nat) (u : Value), (cells x)[j]? = some u → w.cell? (a.add (i * fs.size + j)) = some u) len hall
    refine ⟨xs, ⟨hxl, fun hpos => ?_⟩, fun x hx => ?_, hl, hm, (fun h => by cases h), hby⟩
    · have hx0 : xs[0]? = some (xs[0]'(by omega)) := List.getElem?_eq_getElem (by omega)
      obtain ⟨-, hl0, hc0⟩ := hxs 0 _ hx0
      have hu0 := List.getElem?_eq_getElem (l := cells xs[0]) (i := 0) (by omega)
      have hcell0 := hc0 0 _ hu0
      rw [Nat.zero_mul, Nat.zero_add] at hcell0
      obtain ⟨b, off, rfl⟩ := spot_add (World.cell?_spot hcell0)
      refine ⟨b, off, rfl, ?_, fun i x hx j u hu => ?_⟩
      · have := World.block_lt_of_cell? w _ hcell0
        simpa [Addr.add] using this
      · have := (hxs i x hx).2.2 j u hu
        rwa [Addr.add_lit, ← Nat.add_assoc] at this
    · obtain ⟨i, hi⟩ := List.getElem?_of_mem hx
      exact (hxs i x hi).1

theorem fs_types {fs : Array Field} {ts : List TypeId} (hfs : fs.toList.map (·.type) = ts) : fs.size = ts.length ∧ ∀ (j : Nat) (f : Field), fs[j]? = some f → ts[j]? = some f.type := by
  subst hfs
  exact ⟨by simp, fun j f hj => by rw [List.getElem?_map, Array.getElem?_toList, hj]; rfl⟩
theorem fs_at {fs : Array Field} {ts : List TypeId} (hfs : fs.toList.map (·.type) = ts) (j : Nat) {t : TypeId} (ht : ts[j]? = some t) : ∃ f, fs[j]? = some f ∧ f.type = t := by
  obtain ⟨h1, h2⟩ := fs_types hfs
  have hj : j < fs.size := by rw [h1]; exact (List.getElem?_eq_some_iff.1 ht).1
  have e : fs[j]? = some fs[j] := Array.getElem?_eq_getElem hj
  exact ⟨_, e, by have := h2 j _ e; rw [ht] at this; exact (Option.some.inj this).symm⟩

theorem wt_string {t : TypeId} {s : ByteArray} (h : Wt P t (.lit (.string s.data.toList) : DataW H)) : s.size ≤ 140737488351232 := by
  have := h s.data.toList.length (by simp [DataW.weights])
  simp [reachBytes] at this
  exact this
theorem open_ws2 {t e ts tb : TypeId} {fs : Array Field} {fuel : Nat} {A : Option Addr} {len cap : Nat} {x : DataW H × List MemPlace} (ht : P.underlying t = some (.slice e)) (he : P.underlying e = some (.struct fs))
    (hone : oneCellFields P fs = true) (hC : P.cellsOf e = 3) (hB : P.bytesOf e = 40) (hfs : fs.toList.map (·.type) = [ts, ts, tb]) (hts : P.underlying ts = some .string) (htb : P.underlying tb = some .bool)
    (h : DataW.trod enc P w base spare held fuel t [.slice A len cap] = some x) (hwt : Wt P t x.1) : ∃ ws, WsAt w w.heap.size A len ws ∧ len ≤ cap ∧ len * 40 ≤ 140737488351232 ∧ (∀ x ∈ ws, x.key.size ≤ 140737488351232 ∧ x.val.size ≤ 140737488351232) := by
  have hsz : fs.size = 3 := (fs_types hfs).1
  obtain ⟨f0, e0, g0⟩ := fs_at hfs 0 rfl
  obtain ⟨f1, e1, g1⟩ := fs_at hfs 1 rfl
  obtain ⟨f2, e2, g2⟩ := fs_at hfs 2 rfl
  obtain ⟨xs, h1, h2, h3, h4, h5, h6⟩ := open_row2 (cells := Wr.cells) (Q := fun x : Wr => x.key.size ≤ 140737488351232 ∧ x.val.size ≤ 140737488351232) ht he hone (by rw [hC, hsz]) (by omega) (fun g n hg => by
    obtain ⟨y0, hy0, w0⟩ := hg 0 _ e0
    obtain ⟨y1, hy1, w1⟩ := hg 1 _ e1
    obtain ⟨y2, hy2, -⟩ := hg 2 _ e2
    rw [g0] at hy0 w0
    rw [g1] at hy1 w1
    rw [g2] at hy2
    obtain ⟨k, hk, ek, -⟩ := DataW.trod_string hts hy0
    obtain ⟨v, hv, ev, -⟩ := DataW.trod_string hts hy1
    rw [ek] at w0
    rw [ev] at w1
    have zk := wt_string w0
    have zv := wt_string w1
    obtain ⟨d, hd, -⟩ := DataW.trod_bool htb hy2
    simp at hk hv hd
    refine ⟨⟨k, v, d⟩, ⟨zk, zv⟩, hsz.symm, fun j u hu => ?_⟩
    match j, hu with
    | 0, hu => simp [Wr.cells] at hu; rw [hk, hu]
    | 1, hu => simp [Wr.cells] at hu; rw [hv, hu]
    | 2, hu => simp [Wr.cells] at hu; rw [hd, hu]) h hwt
  rw [hsz] at h1
  rw [hB] at h6
  exact ⟨xs, h1, h3, h6, h2⟩

end
section
open Go.ChangeShapes Go.WideShapes Go.Deep
variable {H : Type} {enc : TypeId × Value → H} {P : Program} {w : World} {base : Nat} {spare : Nat → Bool} {held : Bool}
theorem open_row3 {α : Type} {cells : α → List Value} {Q : α → Prop} {t e : TypeId} {fuel size : Nat} {A : Option Addr} {len cap : Nat} {x : DataW H × List MemPlace} (ht : P.underlying t = some (.slice e)) (hC : P.cellsOf e = size) (h0 : 0 < size)
    (hel : ∀ (cs : List Value) (n : Nat) (y : DataW H × List MemPlace), DataW.trod enc P w base spare held n e cs = some y → Wt P e y.1 → ∃ x, Q x ∧ cells x = cs)
    (h : DataW.trod enc P w base spare held fuel t [.slice A len cap] = some x) (hwt : Wt P t x.1) :
    ∃ xs, RowAt cells size w w.heap.size A len xs ∧ (∀ x ∈ xs, Q x) ∧ len ≤ cap ∧ cap ≤ maxLen ∧ (A = none → cap = 0) ∧ len * P.bytesOf e ≤ reachBytes := by
  rcases open_slice ht h with ⟨hcs, -⟩ | ⟨a, len', cap', m, n, D, Pl, hcs, hb, hl, hm, hmm, hx, hi⟩
  · simp at hcs
    obtain ⟨rfl, rfl, rfl⟩ := hcs
    exact ⟨[], RowAt.nil_, by simp, Nat.le_refl _, by simp [maxLen], fun _ => rfl, by simp⟩
  · simp at hcs
    obtain ⟨rfl, rfl, rfl⟩ := hcs
    have hlm : len ≤ m := by rw [hmm]; split <;> omega
    rw [hx] at hwt
    have hby : len * P.bytesOf e ≤ reachBytes := by
      have := wt_slice ht hwt
      simp only [List.length_map, List.length_range] at this
      exact Nat.le_trans (Nat.mul_le_mul_right _ (by omega)) this
    have hall : ∀ i, i < len → ∃ x, Q x ∧ (cells x).length = size ∧ ∀ (j : Nat) (u : Value), (cells x)[j]? = some u → w.cell? (a.add (i * size + j)) = some u := by
      intro i hil
      obtain ⟨cs', hc, htr⟩ := hi i (by omega)
      rw [hC] at hc
      have hwi : Wt P e (D i) := wt_elem ht hwt (List.mem_map.2 ⟨i, List.mem_range.2 hil, rfl⟩)
      obtain ⟨x, hQ, rfl⟩ := hel cs' n (D i, Pl i) htr hwi
      obtain ⟨-, hcl, hat⟩ := World.cells?_some hc
      refine ⟨x, hQ, hcl, fun j u hu => ?_⟩
      have hj : j < size := by rw [← hcl]; exact (List.getElem?_eq_some_iff.1 hu).1
      have := hat j hj
      rw [Go.Deep.add_add] at this
      rw [this, hu]
    obtain ⟨xs, hxl, hxs⟩ := list_of (Q := fun i x => Q x ∧ (cells x).length = size ∧ ∀ (j : Nat) (u : Value), (cells x)[j]? = some u → w.cell? (a.add (i * size + j)) = some u) len hall
    refine ⟨xs, ⟨hxl, fun hpos => ?_⟩, fun x hx => ?_, hl, hm, (fun h => by cases h), hby⟩
    · have hx0 : xs[0]? = some (xs[0]'(by omega)) := List.getElem?_eq_getElem (by omega)
      obtain ⟨-, hl0, hc0⟩ := hxs 0 _ hx0
      have hu0 := List.getElem?_eq_getElem (l := cells xs[0]) (i := 0) (by omega)
      have hcell0 := hc0 0 _ hu0
      rw [Nat.zero_mul, Nat.zero_add] at hcell0
      obtain ⟨b, off, rfl⟩ := spot_add (World.cell?_spot hcell0)
      refine ⟨b, off, rfl, ?_, fun i x hx j u hu => ?_⟩
      · have := World.block_lt_of_cell? w _ hcell0
        simpa [Addr.add] using this
      · have := (hxs i x hx).2.2 j u hu
        rwa [Addr.add_lit, ← Nat.add_assoc] at this
    · obtain ⟨i, hi⟩ := List.getElem?_of_mem hx
      exact (hxs i x hi).1
theorem fld_at {fs : Array Field} {l : List (TypeId × Nat)} (hfs : fs.toList.map (fun f => (f.type, f.offset)) = l) (j : Nat) {t : TypeId} {o : Nat} (ht : l[j]? = some (t, o)) : ∃ f, fs[j]? = some f ∧ f.type = t ∧ f.offset = o := by
  subst hfs
  rw [List.getElem?_map, Array.getElem?_toList] at ht
  cases hj : fs[j]? with
  | none => rw [hj] at ht; cases ht
  | some f => rw [hj] at ht; simp at ht; exact ⟨f, rfl, ht.1, ht.2⟩
end
end Go.Proofs.YtfafhfjmoijaeaaGreatDoor

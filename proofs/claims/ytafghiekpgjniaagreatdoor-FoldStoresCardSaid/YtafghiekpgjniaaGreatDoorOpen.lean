/- Arguments that came in, opened to the lists that they read as. Over any program. -/
import Derived.Test.YtafghiekpgjniaaGreatDoorMa
import Derived.ProofKit
import Derived.Deep.Slices
import Derived.Deep.Fields
import Derived.ChangeSame
import Derived.Lib.SmallJoins
namespace Go.Proofs.YtafghiekpgjniaaGreatDoor
open Go.RowKit
set_option linter.unusedVariables false
set_option linter.unusedSimpArgs false

open Go.ChangeShapes Go.WideShapes Go.Deep

theorem list_of {α : Type} {Q : Nat → α → Prop} : ∀ n, (∀ i, i < n → ∃ x, Q i x) → ∃ l : List α, l.length = n ∧ ∀ i x, l[i]? = some x → Q i x
  | 0, _ => ⟨[], rfl, by simp⟩
  | n + 1, h => by
    obtain ⟨l, hl, hQ⟩ := list_of n fun i hi => h i (by omega)
    obtain ⟨x, hx⟩ := h n (by omega)
    refine ⟨l ++ [x], by simp [hl], fun i y hy => ?_⟩
    rw [List.getElem?_append] at hy
    split at hy
    · exact hQ i y hy
    · rename_i hi
      have : i = n := by
        have := (List.getElem?_eq_some_iff.1 hy).1
        simp at this; omega
      subst this
      simp [hl] at hy
      exact hy ▸ hx

theorem spot_add {a : Addr} (h : (a.add 0).spot = none) : ∃ b off, a = ⟨b, off, none⟩ := by
  obtain ⟨b, off, s⟩ := a
  have : s = none := by simpa [Addr.add] using h
  exact ⟨b, off, by rw [this]⟩

section
variable {H : Type} {enc : TypeId × Value → H} {P : Program} {w : World} {base : Nat} {spare : Nat → Bool} {held : Bool}
theorem open_slice_fields {t e : TypeId} {fs : Array Field} {fuel : Nat} {cs : List Value} {x : DataW H × List MemPlace} (ht : P.underlying t = some (.slice e)) (he : P.underlying e = some (.struct fs))
    (hone : oneCellFields P fs = true) (hC : P.cellsOf e = fs.size) (h : DataW.trod enc P w base spare held fuel t cs = some x) :
    (cs = [.slice none 0 0] ∧ x = (.nil, [])) ∨
    ∃ (a : Addr) (len cap m : Nat) (D : Nat → DataW H) (Pl : Nat → List MemPlace), cs = [.slice (some a) len cap] ∧ base ≤ a.block ∧ len ≤ cap ∧ cap ≤ maxLen ∧ m = (if spare a.block then cap else len) ∧
      x = (.slice ((List.range len).map D) ((List.range (m - len)).map fun j => D (len + j)), MemPlace.row a (m * fs.size) ++ (List.range m).flatMap Pl) ∧
      ∀ i, i < m → ∃ (ys : List (DataW H × List MemPlace)) (n : Nat), D i = .agg (ys.map (·.1)) ∧ Pl i = ys.flatMap (·.2) ∧ ys.length = fs.size ∧
        ∀ (j : Nat) (f : Field), fs[j]? = some f → ∃ (v : Value) (y : DataW H × List MemPlace), w.cell? (a.add (i * fs.size + j)) = some v ∧ ys[j]? = some y ∧ DataW.trod enc P w base spare held n f.type [v] = some y := by
  rcases open_slice ht h with h0 | ⟨a, len, cap, m, n, D, Pl, hcs, hb, hl, hm, hmm, hx, hi⟩
  · exact .inl h0
  · refine .inr ⟨a, len, cap, m, D, Pl, hcs, hb, hl, hm, hmm, by rw [hC] at hx; exact hx, fun i him => ?_⟩
    obtain ⟨cs', hc, ht'⟩ := hi i him
    rw [hC] at hc
    obtain ⟨ys, n', hn', hy, hlen, hyl, hf⟩ := DataW.trod_struct he ht'
    obtain ⟨_, hcl, hat⟩ := World.cells?_some hc
    simp only [Prod.mk.injEq] at hy
    refine ⟨ys, n', hy.1, hy.2, hyl, fun j f hj => ?_⟩
    obtain ⟨ho, hk⟩ := hone_of hone j f hj
    have hjl : j < fs.size := (Array.getElem?_eq_some_iff.1 hj).1
    have hcell := hat j hjl
    have hv : cs'[j]? = some (cs'[j]'(by omega)) := List.getElem?_eq_getElem (by omega)
    have h1 := hf j f hj
    rw [ho, hk] at h1
    have hone' : (cs'.drop j).take 1 = [cs'[j]'(by omega)] := by
      rw [List.drop_eq_getElem_cons (by omega)]
      rfl
    rw [hone'] at h1
    have hys : ys[j]? = some (ys[j]'(by omega)) := List.getElem?_eq_getElem (by omega)
    refine ⟨_, _, ?_, hys, h1.trans hys⟩
    rw [← Go.Deep.add_add, hcell, hv]

/-- What is asked of a slice of structs: each element's fields are cells that read as an x with Q x. -/
theorem open_row {α : Type} {cells : α → List Value} {Q : α → Prop} {t e : TypeId} {fs : Array Field} {fuel : Nat} {A : Option Addr} {len cap : Nat} {x : DataW H × List MemPlace} (ht : P.underlying t = some (.slice e)) (he : P.underlying e = some (.struct fs))
    (hone : oneCellFields P fs = true) (hC : P.cellsOf e = fs.size) (h0 : 0 < fs.size)
    (hel : ∀ (g : Nat → Value) (n : Nat), (∀ (j : Nat) (f : Field), fs[j]? = some f → ∃ y, DataW.trod enc P w base spare held n f.type [g j] = some y) → ∃ x, Q x ∧ (cells x).length = fs.size ∧ ∀ (j : Nat) (u : Value), (cells x)[j]? = some u → g j = u)
    (h : DataW.trod enc P w base spare held fuel t [.slice A len cap] = some x) :
    ∃ xs, RowAt cells fs.size w w.heap.size A len xs ∧ (∀ x ∈ xs, Q x) ∧ len ≤ cap ∧ cap ≤ maxLen ∧ (A = none → cap = 0) := by
  rcases open_slice_fields ht he hone hC h with ⟨hcs, -⟩ | ⟨a, len', cap', m, D, Pl, hcs, hb, hl, hm, hmm, hx, hi⟩
  · simp at hcs
    obtain ⟨rfl, rfl, rfl⟩ := hcs
    exact ⟨[], RowAt.nil_, by simp, Nat.le_refl _, by simp [maxLen], fun _ => rfl⟩
  · simp at hcs
    obtain ⟨rfl, rfl, rfl⟩ := hcs
    have hlm : len ≤ m := by rw [hmm]; split <;> omega
    have hall : ∀ i, i < len → ∃ x, Q x ∧ (cells x).length = fs.size ∧ ∀ (j : Nat) (u : Value), (cells x)[j]? = some u → w.cell? (a.add (i * fs.size + j)) = some u := by
      intro i hil
      obtain ⟨ys, n, -, -, -, hf⟩ := hi i (by omega)
      have hg : ∀ j, ∃ v, ∀ f : Field, fs[j]? = some f → w.cell? (a.add (i * fs.size + j)) = some v ∧ ∃ y, DataW.trod enc P w base spare held n f.type [v] = some y := by
        intro j
        cases hj : fs[j]? with
        | none => exact ⟨default, fun f hf => by cases hf⟩
        | some f =>
          obtain ⟨v, y, h1, -, h2⟩ := hf j f hj
          exact ⟨v, fun f' hf' => by injection hf' with e; subst e; exact ⟨h1, y, h2⟩⟩
      obtain ⟨g, hg⟩ := Classical.axiomOfChoice hg
      obtain ⟨x, hQ, hlen, hx⟩ := hel g n fun j f hj => (hg j f hj).2
      refine ⟨x, hQ, hlen, fun j u hu => ?_⟩
      have hj : j < fs.size := by rw [← hlen]; exact (List.getElem?_eq_some_iff.1 hu).1
      rw [← hx j u hu]
      exact (hg j _ (Array.getElem?_eq_getElem hj)).1
    obtain ⟨xs, hxl, hxs⟩ := list_of (Q := fun i x => Q x ∧ (cells x).length = fs.size ∧ ∀ (j : Nat) (u : Value), (cells x)[j]? = some u → w.cell? (a.add (i * fs.size + j)) = some u) len hall
    refine ⟨xs, ⟨hxl, fun hpos => ?_⟩, fun x hx => ?_, hl, hm, fun h => by cases h⟩
    · have hx0 : xs[0]? = some (xs[0]'(by omega)) := List.getElem?_eq_getElem (by omega)
      obtain ⟨-, hl0, hc0⟩ := hxs 0 _ hx0
      have hu0 := List.getElem?_eq_getElem (l := cells xs[0]) (i := 0) (by omega)
      have hcell0 := hc0 0 _ hu0
      rw [Nat.zero_mul, Nat.zero_add] at hcell0
      obtain ⟨b, off, rfl⟩ := spot_add (World.cell?_spot hcell0)
      refine ⟨b, off, rfl, ?_, fun i x hx j u hu => ?_⟩
      · have := World.block_lt_of_cell? w _ hcell0
        simpa [Addr.add] using this
      · have := (hxs i x hx).2.2 j u hu
        rwa [Addr.add_lit, ← Nat.add_assoc] at this
    · obtain ⟨i, hi⟩ := List.getElem?_of_mem hx
      exact (hxs i x hi).1

theorem shape_slice {t e : TypeId} {fuel : Nat} {v : Value} {x : DataW H × List MemPlace} (ht : P.underlying t = some (.slice e)) (h : DataW.trod enc P w base spare held fuel t [v] = some x) : ∃ A len cap, v = .slice A len cap := by
  rcases open_slice ht h with ⟨hcs, -⟩ | ⟨a, len, cap, m, n, D, Pl, hcs, -⟩
  · simp at hcs; exact ⟨_, _, _, hcs⟩
  · simp at hcs; exact ⟨_, _, _, hcs⟩
theorem open_ws {t e ts tb : TypeId} {fs : Array Field} {fuel : Nat} {A : Option Addr} {len cap : Nat} {x : DataW H × List MemPlace} (ht : P.underlying t = some (.slice e)) (he : P.underlying e = some (.struct fs))
    (hone : oneCellFields P fs = true) (hC : P.cellsOf e = 3) (hfs : fs.toList.map (·.type) = [ts, ts, tb]) (hts : P.underlying ts = some .string) (htb : P.underlying tb = some .bool)
    (h : DataW.trod enc P w base spare held fuel t [.slice A len cap] = some x) : ∃ ws, WsAt w w.heap.size A len ws ∧ len ≤ cap ∧ cap ≤ maxLen ∧ (∀ x ∈ ws, x.key.size ≤ maxLen ∧ x.val.size ≤ maxLen) := by
  have hsz : fs.size = 3 := by rw [← Array.length_toList]; simpa using congrArg List.length hfs
  have hty : ∀ (j : Nat) (f : Field), fs[j]? = some f → [ts, ts, tb][j]? = some f.type := by
    intro j f hj
    rw [← hfs, List.getElem?_map, Array.getElem?_toList, hj]; rfl
  obtain ⟨xs, h1, h2, h3, h4, h5⟩ := open_row (cells := Wr.cells) (Q := fun x : Wr => x.key.size ≤ maxLen ∧ x.val.size ≤ maxLen) ht he hone (by rw [hC, hsz]) (by omega) (fun g n hg => by
    have e0 : fs[0]? = some (fs[0]'(by omega)) := Array.getElem?_eq_getElem _
    have e1 : fs[1]? = some (fs[1]'(by omega)) := Array.getElem?_eq_getElem _
    have e2 : fs[2]? = some (fs[2]'(by omega)) := Array.getElem?_eq_getElem _
    obtain ⟨y0, hy0⟩ := hg 0 _ e0
    obtain ⟨y1, hy1⟩ := hg 1 _ e1
    obtain ⟨y2, hy2⟩ := hg 2 _ e2
    have t0 := hty 0 _ e0
    have t1 := hty 1 _ e1
    have t2 := hty 2 _ e2
    simp at t0 t1 t2
    rw [← t0] at hy0
    rw [← t1] at hy1
    rw [← t2] at hy2
    obtain ⟨k, hk, -, zk⟩ := DataW.trod_string hts hy0
    obtain ⟨v, hv, -, zv⟩ := DataW.trod_string hts hy1
    obtain ⟨d, hd, -⟩ := DataW.trod_bool htb hy2
    simp at hk hv hd
    refine ⟨⟨k, v, d⟩, ⟨zk, zv⟩, hsz.symm, fun j u hu => ?_⟩
    match j, hu with
    | 0, hu => simp [Wr.cells] at hu; rw [hk, hu]
    | 1, hu => simp [Wr.cells] at hu; rw [hv, hu]
    | 2, hu => simp [Wr.cells] at hu; rw [hd, hu]) h
  rw [hsz] at h1
  exact ⟨xs, h1, h3, h4, h2⟩
end
end Go.Proofs.YtafghiekpgjniaaGreatDoor

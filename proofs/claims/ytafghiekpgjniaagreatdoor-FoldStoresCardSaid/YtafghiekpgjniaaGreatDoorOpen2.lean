/- Arguments that came in, opened with the bounds that the form's own reach gives: slices of structs, and slices within them. Over any program. -/
import Derived.Test.YtafghiekpgjniaaGreatDoorOpen
import Derived.Test.YtafghiekpgjniaaGreatDoorTwL
import Derived.Test.YtafghiekpgjniaaGreatDoorMa
import Derived.SizedLaws
namespace Go.Proofs.YtafghiekpgjniaaGreatDoor
open Go.RowKit
set_option linter.unusedVariables false
set_option linter.unusedSimpArgs false

open Go.ChangeShapes Go.WideShapes Go.Deep

theorem weightsAll_mem {H : Type} {P : Program} {e : TypeId} : ∀ {l : List (DataW H)} {d : DataW H}, d ∈ l → ∀ n ∈ d.weights P e, n ∈ DataW.weightsAll P e l
  | d' :: r, d, hd, n, hn => by
    simp only [DataW.weightsAll, List.mem_append]
    rcases List.mem_cons.1 hd with rfl | h
    · exact Or.inl hn
    · exact Or.inr (weightsAll_mem h n hn)
/-- All that a datum weighs is within the reach. -/
def Wt {H : Type} (P : Program) (t : TypeId) (d : DataW H) : Prop := ∀ n ∈ d.weights P t, n ≤ reachBytes
theorem wt_arg {H : Type} {P : Program} {ts : List TypeId} {ds : List (DataW H)} (h : (DataW.weightsEach P ts ds).all (· ≤ reachBytes) = true) {j : Nat} {t : TypeId} {d : DataW H} (ht : ts[j]? = some t) (hd : ds[j]? = some d) : Wt P t d :=
  fun n hn => by simpa using List.all_eq_true.1 h _ (DataW.weights_mem_each ht hd n hn)
theorem wt_field {H : Type} {P : Program} {t : TypeId} {fs : Array Field} {ys : List (DataW H)} (hu : P.underlying t = some (.struct fs)) (h : Wt P t (.agg ys)) {j : Nat} {f : Field} {y : DataW H} (hf : fs[j]? = some f) (hy : ys[j]? = some y) : Wt P f.type y :=
  fun n hn => h n (by
    simp only [DataW.weights, hu]
    exact DataW.weights_mem_each (j := j) (by rw [List.getElem?_map, Array.getElem?_toList, hf]; rfl) hy n hn)
theorem wt_elem {H : Type} {P : Program} {t e : TypeId} {es sp : List (DataW H)} (hu : P.underlying t = some (.slice e)) (h : Wt P t (.slice es sp)) {d : DataW H} (hd : d ∈ es) : Wt P e d :=
  fun n hn => h n (by
    simp only [DataW.weights, hu, List.mem_cons, List.mem_append]
    exact Or.inr (Or.inl (weightsAll_mem hd n hn)))
theorem wt_slice {H : Type} {P : Program} {t e : TypeId} {es sp : List (DataW H)} (hu : P.underlying t = some (.slice e)) (h : Wt P t (.slice es sp)) : (es.length + sp.length) * P.bytesOf e ≤ reachBytes :=
  h _ (by simp [DataW.weights, hu])

section
variable {H : Type} {enc : TypeId × Value → H} {P : Program} {w : World} {base : Nat} {spare : Nat → Bool} {held : Bool}
theorem open_row2 {α : Type} {cells : α → List Value} {Q : α → Prop} {t e : TypeId} {fs : Array Field} {fuel : Nat} {A : Option Addr} {len cap : Nat} {x : DataW H × List MemPlace} (ht : P.underlying t = some (.slice e)) (he : P.underlying e = some (.struct fs))
    (hone : oneCellFields P fs = true) (hC : P.cellsOf e = fs.size) (h0 : 0 < fs.size)
    (hel : ∀ (g : Nat → Value) (n : Nat), (∀ (j : Nat) (f : Field), fs[j]? = some f → ∃ y, DataW.trod enc P w base spare held n f.type [g j] = some y ∧ Wt P f.type y.1) → ∃ x, Q x ∧ (cells x).length = fs.size ∧ ∀ (j : Nat) (u : Value), (cells x)[j]? = some u → g j = u)
    (h : DataW.trod enc P w base spare held fuel t [.slice A len cap] = some x) (hwt : Wt P t x.1) :
    ∃ xs, RowAt cells fs.size w w.heap.size A len xs ∧ (∀ x ∈ xs, Q x) ∧ len ≤ cap ∧ cap ≤ maxLen ∧ (A = none → cap = 0) ∧ len * P.bytesOf e ≤ reachBytes := by
  rcases open_slice_fields ht he hone hC h with ⟨hcs, -⟩ | ⟨a, len', cap', m, D, Pl, hcs, hb, hl, hm, hmm, hx, hi⟩
  · simp at hcs
    obtain ⟨rfl, rfl, rfl⟩ := hcs
    exact ⟨[], RowAt.nil_, by simp, Nat.le_refl _, by simp [maxLen], fun _ => rfl, by simp⟩
  · simp at hcs
    obtain ⟨rfl, rfl, rfl⟩ := hcs
    have hlm : len ≤ m := by rw [hmm]; split <;> omega
    rw [hx] at hwt
    have hby : len * P.bytesOf e ≤ reachBytes := by
      have := wt_slice ht hwt
      simp only [List.length_map, List.length_range] at this
      exact Nat.le_trans (Nat.mul_le_mul_right _ (by omega)) this
    have hall : ∀ i, i < len → ∃ x, Q x ∧ (cells x).length = fs.size ∧ ∀ (j : Nat) (u : Value), (cells x)[j]? = some u → w.cell? (a.add (i * fs.size + j)) = some u := by
      intro i hil
      obtain ⟨ys, n, hD, -, -, hf⟩ := hi i (by omega)
      have hwi : Wt P e (D i) := wt_elem ht hwt (List.mem_map.2 ⟨i, List.mem_range.2 hil, rfl⟩)
      rw [hD] at hwi
      have hg : ∀ j, ∃ v, ∀ f : Field, fs[j]? = some f → w.cell? (a.add (i * fs.size + j)) = some v ∧ ∃ y, DataW.trod enc P w base spare held n f.type [v] = some y ∧ Wt P f.type y.1 := by
        intro j
        cases hj : fs[j]? with
        | none => exact ⟨default, fun f hf => by cases hf⟩
        | some f =>
          obtain ⟨v, y, h1, hy, h2⟩ := hf j f hj
          exact ⟨v, fun f' hf' => by injection hf' with e; subst e; exact ⟨h1, y, h2, wt_field he hwi hj (by rw [List.getElem?_map, hy]; rfl)⟩⟩
      obtain ⟨g, hg⟩ := Classical.axiomOfChoice hg
      obtain ⟨x, hQ, hlen, hx⟩ := hel g n fun j f hj => (hg j f hj).2
      refine ⟨x, hQ, hlen, fun j u hu => ?_⟩
      have hj : j < fs.size := by rw [← hlen]; exact (List.getElem?_eq_some_iff.1 hu).1
      rw [← hx j u hu]
      exact (hg j _ (Array.getElem?_eq_getElem hj)).1
    obtain ⟨xs, hxl, hxs⟩ := list_of (Q := fun i x => Q x ∧ (cells x).length = fs.size ∧ ∀ (j : Nat) (u : Value), (cells x)[j]? = some u → w.cell? (a.add (i * fs.size + j)) = some u) len hall
    refine ⟨xs, ⟨hxl, fun hpos => ?_⟩, fun x hx => ?_, hl, hm, (fun h => by cases h), hby⟩
    · have hx0 : xs[0]? = some (xs[0]'(by omega)) := List.getElem?_eq_getElem (by omega)
      obtain ⟨-, hl0, hc0⟩ := hxs 0 _ hx0
      have hu0 := List.getElem?_eq_getElem (l := cells xs[0]) (i := 0) (by omega)
      have hcell0 := hc0 0 _ hu0
      rw [Nat.zero_mul, Nat.zero_add] at hcell0
      obtain ⟨b, off, rfl⟩ := spot_add (World.cell?_spot hcell0)
      refine ⟨b, off, rfl, ?_, fun i x hx j u hu => ?_⟩
      · have := World.block_lt_of_cell? w _ hcell0
        simpa [Addr.add] using this
      · have := (hxs i x hx).2.2 j u hu
        rwa [Addr.add_lit, ← Nat.add_assoc] at this
    · obtain ⟨i, hi⟩ := List.getElem?_of_mem hx
      exact (hxs i x hi).1

theorem fs_types {fs : Array Field} {ts : List TypeId} (hfs : fs.toList.map (·.type) = ts) : fs.size = ts.length ∧ ∀ (j : Nat) (f : Field), fs[j]? = some f → ts[j]? = some f.type := by
  subst hfs
  exact ⟨by simp, fun j f hj => by rw [List.getElem?_map, Array.getElem?_toList, hj]; rfl⟩
theorem fs_at {fs : Array Field} {ts : List TypeId} (hfs : fs.toList.map (·.type) = ts) (j : Nat) {t : TypeId} (ht : ts[j]? = some t) : ∃ f, fs[j]? = some f ∧ f.type = t := by
  obtain ⟨h1, h2⟩ := fs_types hfs
  have hj : j < fs.size := by rw [h1]; exact (List.getElem?_eq_some_iff.1 ht).1
  have e : fs[j]? = some fs[j] := Array.getElem?_eq_getElem hj
  exact ⟨_, e, by have := h2 j _ e; rw [ht] at this; exact (Option.some.inj this).symm⟩

theorem wt_string {t : TypeId} {s : ByteArray} (h : Wt P t (.lit (.string s.data.toList) : DataW H)) : s.size ≤ 140737488351232 := by
  have := h s.data.toList.length (by simp [DataW.weights])
  simp [reachBytes] at this
  exact this
theorem open_ws2 {t e ts tb : TypeId} {fs : Array Field} {fuel : Nat} {A : Option Addr} {len cap : Nat} {x : DataW H × List MemPlace} (ht : P.underlying t = some (.slice e)) (he : P.underlying e = some (.struct fs))
    (hone : oneCellFields P fs = true) (hC : P.cellsOf e = 3) (hB : P.bytesOf e = 40) (hfs : fs.toList.map (·.type) = [ts, ts, tb]) (hts : P.underlying ts = some .string) (htb : P.underlying tb = some .bool)
    (h : DataW.trod enc P w base spare held fuel t [.slice A len cap] = some x) (hwt : Wt P t x.1) : ∃ ws, WsAt w w.heap.size A len ws ∧ len ≤ cap ∧ len * 40 ≤ 140737488351232 ∧ (∀ x ∈ ws, x.key.size ≤ 140737488351232 ∧ x.val.size ≤ 140737488351232) := by
  have hsz : fs.size = 3 := (fs_types hfs).1
  obtain ⟨f0, e0, g0⟩ := fs_at hfs 0 rfl
  obtain ⟨f1, e1, g1⟩ := fs_at hfs 1 rfl
  obtain ⟨f2, e2, g2⟩ := fs_at hfs 2 rfl
  obtain ⟨xs, h1, h2, h3, h4, h5, h6⟩ := open_row2 (cells := Wr.cells) (Q := fun x : Wr => x.key.size ≤ 140737488351232 ∧ x.val.size ≤ 140737488351232) ht he hone (by rw [hC, hsz]) (by omega) (fun g n hg => by
    obtain ⟨y0, hy0, w0⟩ := hg 0 _ e0
    obtain ⟨y1, hy1, w1⟩ := hg 1 _ e1
    obtain ⟨y2, hy2, -⟩ := hg 2 _ e2
    rw [g0] at hy0 w0
    rw [g1] at hy1 w1
    rw [g2] at hy2
    obtain ⟨k, hk, ek, -⟩ := DataW.trod_string hts hy0
    obtain ⟨v, hv, ev, -⟩ := DataW.trod_string hts hy1
    rw [ek] at w0
    rw [ev] at w1
    have zk := wt_string w0
    have zv := wt_string w1
    obtain ⟨d, hd, -⟩ := DataW.trod_bool htb hy2
    simp at hk hv hd
    refine ⟨⟨k, v, d⟩, ⟨zk, zv⟩, hsz.symm, fun j u hu => ?_⟩
    match j, hu with
    | 0, hu => simp [Wr.cells] at hu; rw [hk, hu]
    | 1, hu => simp [Wr.cells] at hu; rw [hv, hu]
    | 2, hu => simp [Wr.cells] at hu; rw [hd, hu]) h hwt
  rw [hsz] at h1
  rw [hB] at h6
  exact ⟨xs, h1, h3, h6, h2⟩

/-- A slice of transactions that came in. -/
theorem open_txs {t e ti tw ew ts tb : TypeId} {fs fw : Array Field} {fuel : Nat} {A : Option Addr} {len cap : Nat} {x : DataW H × List MemPlace} (ht : P.underlying t = some (.slice e)) (he : P.underlying e = some (.struct fs))
    (hone : oneCellFields P fs = true) (hC : P.cellsOf e = 2) (hB : P.bytesOf e = 32) (hfs : fs.toList.map (·.type) = [ti, tw]) (hti : P.underlying ti = some (.int .i64)) (htw : P.underlying tw = some (.slice ew)) (hew : P.underlying ew = some (.struct fw))
    (honew : oneCellFields P fw = true) (hCw : P.cellsOf ew = 3) (hBw : P.bytesOf ew = 40) (hfw : fw.toList.map (·.type) = [ts, ts, tb]) (hts : P.underlying ts = some .string) (htb : P.underlying tb = some .bool)
    (h : DataW.trod enc P w base spare held fuel t [.slice A len cap] = some x) (hwt : Wt P t x.1) : ∃ rs, TxsAt w w.heap.size A len rs ∧ len ≤ cap ∧ len * 32 ≤ 140737488351232 ∧ (∀ r ∈ rs, ((Lit.int .i64 r.number).wf = true ∧ r.len ≤ r.cap) ∧ ∀ x ∈ r.ws, x.key.size ≤ 140737488351232 ∧ x.val.size ≤ 140737488351232) := by
  have hsz : fs.size = 2 := (fs_types hfs).1
  obtain ⟨f0, e0, g0⟩ := fs_at hfs 0 rfl
  obtain ⟨f1, e1, g1⟩ := fs_at hfs 1 rfl
  obtain ⟨xs, h1, h2, h3, h4, h5, h6⟩ := open_row2 (cells := RTx.cells) (Q := fun r : RTx => (WsAt w w.heap.size r.A r.len r.ws ∧ r.len * 40 ≤ 140737488351232) ∧ ((Lit.int .i64 r.number).wf = true ∧ r.len ≤ r.cap) ∧ ∀ x ∈ r.ws, x.key.size ≤ 140737488351232 ∧ x.val.size ≤ 140737488351232) ht he hone (by rw [hC, hsz]) (by omega) (fun g n hg => by
    obtain ⟨y0, hy0, -⟩ := hg 0 _ e0
    obtain ⟨y1, hy1, w1⟩ := hg 1 _ e1
    rw [g0] at hy0
    rw [g1] at hy1 w1
    obtain ⟨k, hk, -, wk⟩ := DataW.trod_int hti hy0
    obtain ⟨A', len', cap', hv⟩ := shape_slice htw hy1
    rw [hv] at hy1
    obtain ⟨ws, hws, hlc, hl40, hwz⟩ := open_ws2 htw hew honew hCw hBw hfw hts htb hy1 w1
    simp at hk
    refine ⟨⟨k, A', len', cap', ws⟩, ⟨⟨hws, hl40⟩, ⟨wk, hlc⟩, hwz⟩, hsz.symm, fun j u hu => ?_⟩
    match j, hu with
    | 0, hu => simp [RTx.cells] at hu; rw [hk, hu]
    | 1, hu => simp [RTx.cells] at hu; rw [hv, hu]) h hwt
  rw [hsz] at h1
  rw [hB] at h6
  exact ⟨xs, ⟨h1, fun r hr => (h2 r hr).1⟩, h3, h6, fun r hr => (h2 r hr).2⟩

/-- A slice of ints that came in. -/
theorem open_is {t e : TypeId} {fuel : Nat} {A : Option Addr} {len cap : Nat} {x : DataW H × List MemPlace} (ht : P.underlying t = some (.slice e)) (he : P.underlying e = some (.int .i64)) (hC : P.cellsOf e = 1) (hB : P.bytesOf e = 8)
    (h : DataW.trod enc P w base spare held fuel t [.slice A len cap] = some x) (hwt : Wt P t x.1) : ∃ l : List Int, RowAt Icell 1 w w.heap.size A len l ∧ len ≤ cap ∧ len * 8 ≤ 140737488351232 ∧ (∀ n ∈ l, (Lit.int .i64 n).wf = true) := by
  rcases open_ints ht he hC h with ⟨hcs, hx⟩ | ⟨a, len', cap', zs, hcs, hb, hl, hm, hz, hx, hcell, hwz⟩
  · simp at hcs
    obtain ⟨rfl, rfl, rfl⟩ := hcs
    exact ⟨[], RowAt.nil_, Nat.le_refl _, by simp, by simp⟩
  · simp at hcs
    obtain ⟨rfl, rfl, rfl⟩ := hcs
    have hby : len * 8 ≤ 140737488351232 := by
      rw [hx] at hwt
      have := wt_slice ht hwt
      rw [hB] at this
      simp only [lits, List.length_map, List.length_take, List.length_drop, reachBytes] at this
      split at hz <;> omega
    have hlz : len ≤ zs.length := by rw [hz]; split <;> omega
    refine ⟨zs.take len, ⟨by simp; omega, fun hpos => ?_⟩, hl, hby, fun n hn => hwz n (List.mem_of_mem_take hn)⟩
    have h0 := hcell 0 (by omega)
    obtain ⟨b, off, rfl⟩ := spot_add (World.cell?_spot h0)
    refine ⟨b, off, rfl, by simpa [Addr.add] using World.block_lt_of_cell? w _ h0, fun i x hx j u hu => ?_⟩
    have hi : i < len := by have := (List.getElem?_eq_some_iff.1 hx).1; simp at this; omega
    have h1 := hcell i (by omega)
    rw [List.getElem?_take_of_lt hi] at hx
    match j, hu with
    | 0, hu =>
      simp [Icell] at hu
      rw [Addr.add_lit] at h1
      simp only [Nat.mul_one, Nat.add_zero]
      rw [h1, ← hu]
      simp [List.getD, hx]
end
end Go.Proofs.YtafghiekpgjniaaGreatDoor

/- DepsEnds: plain words: who has waited, who was told. -/
import Derived.Test.YtdcnaieieggclaaDl8
namespace Go.Proofs.Ytdcnaieieggclaa
open Go.RowKit
set_option linter.unusedVariables false
set_option linter.unusedSimpArgs false

open Go.Maps Go.Sort
structure PInv (rs : List RTx) (a : Nat) (E : Nat → Bool) (T : Nat → Nat) (W : Nat → Bool) : Prop where
  wait : ∀ j, j ≤ a → depL rs E j ≠ [] → W j = true
  told : ∀ j, T j = if W j = true ∧ depL rs E j = [] then 1 else 0
  fut : ∀ j, a < j → W j = false
section
variable {rs : List RTx} {a : Nat} {E : Nat → Bool} {T : Nat → Nat} {W : Nat → Bool}
theorem depL_zero (rs : List RTx) (E : Nat → Bool) : depL rs E 0 = [] := by simp [depL]
theorem PInv.start (rs : List RTx) : PInv rs 0 E0 (fun _ => 0) (fun _ => false) := by
  refine ⟨fun j hj h => ?_, fun j => by simp, fun j _ => rfl⟩
  obtain rfl : j = 0 := by omega
  exact absurd (depL_zero _ _) h
def addW1 (rs : List RTx) (a : Nat) (E : Nat → Bool) (W : Nat → Bool) : Nat → Bool := fun j => if j = a + 1 then decide (0 < (depL rs E (a + 1)).length) else W j
theorem PInv.add (h : PInv rs a E T W) : PInv rs (a + 1) E T (addW1 rs a E W) := by
  refine ⟨fun j hj hd => ?_, fun j => ?_, fun j hj => ?_⟩
  · unfold addW1
    by_cases hja : j = a + 1
    · subst hja; rw [if_pos rfl]; exact decide_eq_true (List.length_pos_iff.2 hd)
    · rw [if_neg hja]; exact h.wait j (by omega) hd
  · unfold addW1
    by_cases hja : j = a + 1
    · subst hja
      rw [h.told, h.fut _ (by omega)]
      simp only [if_pos, decide_eq_true_eq, Bool.false_eq_true, false_and, if_false]
      rw [if_neg]
      rintro ⟨h1, h2⟩; rw [h2] at h1; simp at h1
    · rw [if_neg hja]; exact h.told j
  · unfold addW1; rw [if_neg (by omega)]; exact h.fut j (by omega)
def upT (T : Nat → Nat) (L : List Nat) : Nat → Nat := fun j => T j + if j ∈ L then 1 else 0
theorem upT_nil (T : Nat → Nat) : upT T [] = T := by funext j; simp [upT]
theorem upT_snoc {T : Nat → Nat} {L : List Nat} {x : Nat} (hx : x ∉ L) : upT T (L ++ [x]) x = upT T L x + 1 ∧ ∀ j, j ≠ x → upT T (L ++ [x]) j = upT T L j := by
  constructor
  · simp [upT, hx]
  · intro j hj; simp [upT, hj]
theorem told_one {n j : Nat} (h : j ∈ toldL rs a E n) (hE : E n = false) : depL rs E j = [n] := by
  obtain ⟨-, -, h3, h4⟩ := mem_toldL.1 h
  have hn : n ∈ depL rs E j := mem_depL.2 ⟨h3, hE⟩
  match hd : depL rs E j, h4 with
  | [b], _ => rw [hd] at hn; simp at hn; rw [hn]
theorem told_free {n j : Nat} (h : j ∈ toldL rs a E n) (hE : E n = false) : depL rs (E1 E n) j = [] := by
  rw [depL_E1, told_one h hE]; simp
theorem told_open {n j : Nat} (hc : Closed rs a E) (h : j ∈ toldL rs a E n) (hE : E n = false) : E1 E n j = false := by
  obtain ⟨h1, h2, h3, -⟩ := mem_toldL.1 h
  have hlt := dep_lt h3
  have : E j = false := by
    cases he : E j
    · rfl
    · rw [hc j h1 h2 he n h3] at hE; cases hE
  simp [E1, this]; omega
theorem PInv.done (h : PInv rs a E T W) {n : Nat} (hE : E n = false) : PInv rs a (E1 E n) (upT T (toldL rs a E n)) W := by
  refine ⟨fun j hj hd => ?_, fun j => ?_, h.fut⟩
  · refine h.wait j hj fun h0 => hd ?_
    rw [depL_E1, h0]; rfl
  · unfold upT
    by_cases hj : j ∈ toldL rs a E n
    · have h1 := told_one hj hE
      have h2 := told_free hj hE
      obtain ⟨-, h4, -⟩ := mem_toldL.1 hj
      rw [if_pos hj, if_pos ⟨h.wait j h4 (by rw [h1]; simp), h2⟩, h.told, if_neg (by rw [h1]; simp)]
    · rw [if_neg hj, Nat.add_zero, h.told]
      congr 1
      rw [eq_iff_iff]
      refine and_congr_right fun hw => ⟨fun h0 => (by rw [depL_E1, h0]; rfl), fun h0 => ?_⟩
      apply Classical.byContradiction
      intro hne
      refine hj (mem_toldL.2 ?_)
      have hja : j ≤ a := by
        apply Classical.byContradiction
        intro hc
        rw [h.fut j (by omega)] at hw; cases hw
      have hj1 : 1 ≤ j := by
        rcases Nat.eq_zero_or_pos j with h0 | h0
        · subst h0; exact absurd (depL_zero _ _) hne
        · exact h0
      rw [depL_E1] at h0
      have hall : ∀ b ∈ depL rs E j, b = n := fun b hb => by
        have := List.filter_eq_nil_iff.1 h0 b hb
        simpa using this
      have hnd := depL_nodup rs E j
      match hd : depL rs E j, hne with
      | [], hne => exact absurd rfl hne
      | [b], _ =>
        have hb : b ∈ depL rs E j := by rw [hd]; simp
        obtain rfl := hall b hb
        exact ⟨hj1, hja, (mem_depL.1 hb).1, by simp⟩
      | b :: c :: l, _ =>
        rw [hd] at hall hnd
        have h5 := hall b (by simp)
        have h6 := hall c (by simp)
        rw [h5, h6] at hnd
        simp at hnd
theorem ended_all (h : openL a E = []) {j : Nat} (h1 : 1 ≤ j) (h2 : j ≤ a) : E j = true := by
  cases he : E j
  · have := mem_openL.2 ⟨h1, h2, he⟩
    rw [h] at this; cases this
  · rfl
theorem ended_dep (h : openL a E = []) {j : Nat} (h2 : j ≤ a) : depL rs E j = [] := by
  refine List.eq_nil_iff_forall_not_mem.2 fun b hb => ?_
  obtain ⟨hd, hE⟩ := mem_depL.1 hb
  have hlt := dep_lt hd
  rw [ended_all h hlt.1 (by omega)] at hE; cases hE
end
def frB (rs : List RTx) (E : Nat → Bool) (b : Nat) : Bool := decide ((depL rs E b).length = 0)
def frL (rs : List RTx) (E : Nat → Bool) (op : List Nat) (i : Nat) : List Nat := (op.take i).filter (frB rs E)
theorem frL_succ {rs : List RTx} {E : Nat → Bool} {op : List Nat} {i b : Nat} (h : op[i]? = some b) : frL rs E op (i + 1) = frL rs E op i ++ if frB rs E b = true then [b] else [] := by
  unfold frL; rw [List.take_add_one, h, List.filter_append]
  simp only [Option.toList_some, List.filter_cons, List.filter_nil]
theorem frL_le (rs : List RTx) (E : Nat → Bool) (op : List Nat) (i : Nat) : (frL rs E op i).length ≤ op.length := by
  unfold frL; exact Nat.le_trans (List.length_filter_le _ _) (List.length_take_le' _ _)
theorem frL_head {rs : List RTx} {a : Nat} {E : Nat → Bool} {n : Nat} {l : List Nat} (h : openL a E = n :: l) : ∃ l', frL rs E (openL a E) (openL a E).length = n :: l' := by
  unfold frL
  rw [List.take_length, h, List.filter_cons, if_pos]
  · exact ⟨_, rfl⟩
  · unfold frB; rw [(head_free h).2.2.2]; rfl
theorem mem_frL {rs : List RTx} {a : Nat} {E : Nat → Bool} {i b : Nat} (h : b ∈ frL rs E (openL a E) i) : 1 ≤ b ∧ b ≤ a ∧ E b = false ∧ depL rs E b = [] := by
  unfold frL frB at h
  obtain ⟨h1, h2⟩ := List.mem_filter.1 h
  obtain ⟨h3, h4, h5⟩ := mem_openL.1 (List.mem_of_mem_take h1)
  exact ⟨h3, h4, h5, List.eq_nil_of_length_eq_zero (of_decide_eq_true h2)⟩
theorem openL_add {a : Nat} {E : Nat → Bool} (h : E (a + 1) = false) : (openL (a + 1) E).length = (openL a E).length + 1 := by
  unfold openL; rw [List.range_succ, List.filter_append, List.length_append]; simp [h]
theorem near_no {rs : List RTx} {a n i : Nat} {E : Nat → Bool} (hc : Closed rs a E) (hn : n ≤ a) (hd : depL rs E n = []) (h1 : 1 ≤ i) (hi : i < n) (hE : E i = false) : pairB rs (i - 1) (n - 1) = false := by
  cases hp : pairB rs (i - 1) (n - 1)
  · rfl
  · have := near_ended hc h1 n n (Nat.le_refl _) hn hi hp (fun b hb => by
      cases he : E b
      · have := mem_depL.2 ⟨hb, he⟩
        rw [hd] at this; cases this
      · rfl)
    rw [this] at hE; cases hE
/-- A row of numbers. -/
def NumAt (w : World) (g n : Nat) (T : Nat → Nat) : Prop := ∃ C : Array Value, w.heap[g]? = some (.cells C 3 (0, 0)) ∧ C.size = n + 1 ∧ ∀ j, j ≤ n → C[j]? = some (.int .i64 (T j : Nat))
theorem NumAt.lt {w : World} {g n : Nat} {F : Nat → Nat} (h : NumAt w g n F) : g < w.heap.size := by
  obtain ⟨C, h1, -⟩ := h; exact blk_lt h1
theorem NumAt.of_block {w w' : World} {g n : Nat} {F : Nat → Nat} (h : NumAt w g n F) (hb : w'.heap[g]? = w.heap[g]?) : NumAt w' g n F := by
  obtain ⟨C, h1, h2⟩ := h; exact ⟨C, hb.trans h1, h2⟩
theorem NumAt.cell {w : World} {g n : Nat} {F : Nat → Nat} (h : NumAt w g n F) {j : Nat} (hj : j ≤ n) : w.cell? ⟨g, j, none⟩ = some (.int .i64 (F j : Nat)) ∧ w.frozen? ⟨g, j, none⟩ = false := by
  obtain ⟨C, h1, -, h3⟩ := h
  exact ⟨(blk_cell h1 j).trans (h3 j hj), blk_frozen h1 j⟩
theorem NumAt.set {w : World} {g n : Nat} {F G : Nat → Nat} (h : NumAt w g n F) {j : Nat} (hj : j ≤ n) {v : Int} (hv : ((G j : Nat) : Int) = v) (hG : ∀ i, i ≠ j → G i = F i) : NumAt (w.setCell ⟨g, j, none⟩ (.int .i64 v)) g n G := by
  obtain ⟨C, h1, h2, h3⟩ := h
  refine ⟨_, blk_set h1 j _, by simpa using h2, fun i hi => ?_⟩
  rw [Array.getElem?_setIfInBounds]
  by_cases hij : j = i
  · subst hij; rw [if_pos rfl, if_pos (by omega), hv]
  · rw [if_neg hij, h3 i hi, hG i (fun e => hij e.symm)]
theorem NumAt.made {w : World} {g n : Nat} (h : w.ownsRow g 3 1 (.slice (some ⟨g, 0, none⟩) (n + 1) (n + 1)) (n + 1) (madeCells (Value.int .i64 0).cells ((n + 1) * 1)).toList) : NumAt w g n (fun _ => 0) := by
  have hb := blk_of_own h
  refine ⟨_, hb, by have := h.1; simpa using this, fun j hj => ?_⟩
  simp [madeCells, Value.cells]
  exact ⟨j, by rw [List.getElem?_range (by omega)], by simp [Nat.mod_one]⟩
/-- What the law keeps in memory. -/
structure EndSt (rs : List RTx) (len : Nat) (t : TB) (gE gT gW a : Nat) (E : Nat → Bool) (T : Nat → Nat) (W : Nat → Bool) (X : World) : Prop where
  tab : Tabs rs a E t X
  e : EndAt X gE len E
  n : NumAt X gT len T
  w : EndAt X gW len W
theorem EndSt.below {rs : List RTx} {len : Nat} {t : TB} {gE gT gW a : Nat} {E : Nat → Bool} {T : Nat → Nat} {W : Nat → Bool} {X Y : World} (h : EndSt rs len t gE gT gW a E T W X) (hb : Below X.heap.size X Y) : EndSt rs len t gE gT gW a E T W Y :=
  ⟨h.tab.below hb, h.e.of_block (hb.block _ h.e.lt), h.n.of_block (hb.block _ h.n.lt), h.w.of_block (hb.block _ h.w.lt)⟩
theorem EndSt.kept {rs : List RTx} {len : Nat} {t : TB} {gE gT gW a a' : Nat} {E : Nat → Bool} {T : Nat → Nat} {W : Nat → Bool} {X Y : World} (h : EndSt rs len t gE gT gW a E T W X) (hK : Kept X Y t.has) (hg : ∀ j, t.has j → j < gE) (h1 : gE < gT) (h2 : gT < gW) {E' : Nat → Bool} (hT : Tabs rs a' E' t Y) :
    Tabs rs a' E' t Y ∧ EndAt Y gE len E ∧ NumAt Y gT len T ∧ EndAt Y gW len W :=
  ⟨hT, h.e.of_block (hK.block _ h.e.lt (fun hx => by have := hg _ hx; omega)), h.n.of_block (hK.block _ h.n.lt (fun hx => by have := hg _ hx; omega)), h.w.of_block (hK.block _ h.w.lt (fun hx => by have := hg _ hx; omega))⟩
theorem PInv.upT_le {rs : List RTx} {a : Nat} {E : Nat → Bool} {T : Nat → Nat} {W : Nat → Bool} (h : PInv rs a E T W) (L : List Nat) (x : Nat) : upT T L x ≤ 2 := by
  have h1 : T x ≤ 1 := by rw [h.told]; split <;> omega
  unfold upT
  split <;> omega
theorem not_take {L : List Nat} (h : L.Pairwise (· < ·)) {j x : Nat} (hx : L[j]? = some x) : x ∉ L.take j := by
  intro hm
  obtain ⟨i, hi⟩ := List.getElem?_of_mem hm
  have hij : i < j := by have := (List.getElem?_eq_some_iff.1 hi).1; simp at this; omega
  rw [List.getElem?_take_of_lt hij] at hi
  obtain ⟨h7, h8⟩ := List.getElem?_eq_some_iff.1 hi
  obtain ⟨h9, h10⟩ := List.getElem?_eq_some_iff.1 hx
  have := List.pairwise_iff_getElem.1 h i j h7 h9 hij
  omega
end Go.Proofs.Ytdcnaieieggclaa

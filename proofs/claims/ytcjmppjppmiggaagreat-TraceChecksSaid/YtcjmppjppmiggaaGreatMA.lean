/- Lemmas and contracts of functions that statements of this seat stand on, many texts in one; each holds under the premises typed in its head. -/
import Derived.Test.YtcjmppjppmiggaaGreatRd
import Derived.Deep.QuietTactic
import Derived.BigQuiet
import Derived.Deep.RegionLaw
/- The document's table of dependencies at memory: Add. -/
namespace Go.Proofs.YtcjmppjppmiggaaGreat
open Go.RowKit
set_option linter.unusedVariables false
set_option linter.unusedSimpArgs false

set_option maxRecDepth 100000
theorem step_copy {P : Program} {ops : Array Oper} {o : Oper} {a : Act} {w : World} {K : Act → World → Prop} {Q : Exit → Act → World → Prop} {E : Prop} {α : Type} {cells : α → List Value}
    (hg : o.guard = none) (s x : Operand) (t : TypeId) (hop : o.op = Op.call { callee := Callee.builtin Builtin.append, args := #[s, x], argTypes := #[t, t] })
    (e : TypeId) (i : TypeInfo) (z : Value) (size bytes : Nat) (h1 : P.underlying t = some (.slice e)) (h2 : P.info? e = some i) (h3 : i.zero = some z) (h4 : i.size = size) (h5 : i.bytes = bytes) (h6 : z.cells.size = size) (h7 : 0 < size)
    (hlen : ∀ x, (cells x).length = size) (h1c : ∀ x, ∀ u ∈ cells x, u.oneCell' = true)
    (hs : a.eval s = .slice none 0 0) (B0 : Nat) (A : Option Addr) (m c : Nat) (ys : List α) (hx : a.eval x = .slice A m c) (hrow : RowAt cells size w B0 A m ys) (hnil : A = none → c = 0)
    (b1 : m ≤ maxLen) (b2 : m * bytes ≤ 140737488355328)
    (hK : ∀ A' c' w', TkAt cells size e w' w.heap.size A' m c' ys → Below w.heap.size w w' → K (a.put o.dst (.slice A' m c')) w') :
    if Region.wanted o (yielded ops a.tmps) = true then Oper.wp P o a w K Q else E := by
  have hw : Region.wanted o (yielded ops a.tmps) = true := by simp [Region.wanted, hg]
  rw [if_pos hw]
  have hm : ys.length = m := hrow.1
  have h := wpList_append_row (P := P) (ops := ops) (rest := []) (Q := fun e b w' => e = .normal ∧ K b w') hg s x t hop w.heap.size e i z size bytes h1 h2 h3 h4 h5 h6 h7 (.slice none 0 0) 0 [] hs (World.ownsRow_nil _ _ _ _) A m c B0 ys hx hrow hnil (fun y _ => hlen y) h1c (by simpa using b1) (by simpa using b2) (Nat.le_refl _) (fun v' w' hown hgr => by
    have hown2 : w'.ownsRow w.heap.size e size v' ys.length (ys.flatMap cells) := by
      rw [hm]; simpa using hown
    obtain ⟨A', c', rfl, -, hT⟩ := TkAt.own (cells := cells) (B := w.heap.size) (fun x _ => hlen x) hown2 (Nat.le_refl _)
    rw [hm] at hT ⊢
    exact ⟨rfl, hK A' c' w' hT (below_grown_own (World.ownsRow_nil w w.heap.size e size) hgr (Nat.le_refl _))⟩)
  unfold wpList at h
  rw [if_pos hw] at h
  rcases h with h | ⟨-, b, w', h, -⟩
  · unfold Oper.wp at h ⊢
    generalize (execOp a.eval o).run P w = r at *
    cases r with
    | ok n w' =>
      cases n <;> simp only [Oper.upon] at h ⊢ <;>
        first
          | exact h.2
          | exact Calls.mono h (fun e w'' he => by cases e <;> first | exact he.2 | cases he.1 | (obtain ⟨_, _, h9, _⟩ := he; cases h9))
          | exact Rows.mono h (fun _ _ he => he.2)
    | halt x w' => cases x <;> simp only [Oper.upon] at h ⊢ <;> first | exact h | cases h.1
  · cases h
theorem info_one : (Tryz.prog.info? 161).map (fun i => (i.zero, i.size, i.bytes)) = some (some (.agg #[.int .i64 0, .slice none 0 0, .slice none 0 0, .bool false]), 4, 64) := by kernel_rfl
end Go.Proofs.YtcjmppjppmiggaaGreat

/- The document's table of dependencies at memory: New; a cell of one is stored; plain words of Done. -/

namespace Go.Proofs.YtcjmppjppmiggaaGreat
open Go.RowKit
set_option linter.unusedVariables false
set_option linter.unusedSimpArgs false

set_option maxRecDepth 100000
theorem RTAt.notX {w : World} {Bo g n c b : Nat} {A : Option Addr} {xs : List O2} {cs : Array Value} {e : TypeId} (h : RTAt w Bo g A n c xs) (hb : w.heap[b]? = some (.cells cs e (0, 0))) (h1 : e ≠ 114) (h2 : e ≠ 161) : ¬ (b = g ∨ ∃ a, A = some a ∧ b = a.block) := by
  rintro (rfl | ⟨a, ea, rfl⟩)
  · exact blk_ne2 hb h.st h1 rfl
  · obtain ⟨c2, hc2⟩ := h.tk.ty ea
    exact blk_ne2 hb hc2 h2 rfl
theorem RTAt.keepTk {α : Type} {cells : α → List Value} {size : Nat} {e : TypeId} {w w' : World} {Bo g n c B2 n2 c2 : Nat} {A A2 : Option Addr} {xs : List O2} {l : List α} (h : RTAt w Bo g A n c xs) (hT : TkAt cells size e w B2 A2 n2 c2 l) (h1 : e ≠ 114) (h2 : e ≠ 161) (k : Kept w w' (fun b => b = g ∨ ∃ a, A = some a ∧ b = a.block)) : TkAt cells size e w' B2 A2 n2 c2 l :=
  hT.kept k (fun a ea => by
    obtain ⟨cs, hcs⟩ := hT.ty ea
    exact h.notX hcs h1 h2)
theorem r11new_any (w : World) : Calls Tryz.prog 28 #[] w fun e w' => e = .returned (.pointer (some ⟨w.heap.size, 0, none⟩)) ∧ RTAt w' w.heap.size w.heap.size none 0 0 [] ∧ Below w.heap.size w w' := by
  go_enter Tryz.func28, Tryz.ntmps28
  go_wp2_with fail
  go_ret
  exact ⟨rfl, ⟨blk_new _ _, TkAt.nil _ _, fun x hx => by cases hx⟩, bel_alloc (Below.refl _ _) _⟩
theorem TkAt.setc {α : Type} {cells : α → List Value} {size : Nat} {e : TypeId} {w : World} {B b off n cap i j : Nat} {l : List α} {x x' : α} {u : Value} (h : TkAt cells size e w B (some ⟨b, off, none⟩) n cap l) (hx : l[i]? = some x) (hlen : ∀ x, (cells x).length = size) (hj : j < size) (hc : cells x' = (cells x).set j u) :
    TkAt cells size e (w.setCell ⟨b, off + i * size + j, none⟩ u) B (some ⟨b, off, none⟩) n cap (l.set i x') := by
  obtain ⟨h1, h2, ⟨h3, -⟩ | ⟨g, o, cur, h3, h4, h5, h6, h7⟩⟩ := h
  · cases h3
  · injection h3 with h3
    injection h3 with e1 e2
    subst e1 e2
    refine ⟨by simpa using h1, h2, Or.inr ⟨_, _, _, rfl, h4, blk_set h5 _ u, by simpa using h6, fun q y hq k v hv => ?_⟩⟩
    have hi : i < l.length := (List.getElem?_eq_some_iff.1 hx).1
    have hks : k < size := by rw [← hlen y]; exact (List.getElem?_eq_some_iff.1 hv).1
    have hib : off + i * size + j < cur.size := by
      have hin : i + 1 ≤ cap := by omega
      have : (i + 1) * size ≤ cap * size := Nat.mul_le_mul_right _ hin
      rw [Nat.add_mul, Nat.one_mul] at this
      omega
    rw [Array.getElem?_setIfInBounds]
    by_cases hqi : i = q
    · subst hqi
      rw [List.getElem?_set_self hi] at hq
      injection hq with hq
      subst hq
      rw [hc] at hv
      by_cases hjk : j = k
      · subst hjk
        rw [if_pos rfl, if_pos hib]
        rw [List.getElem?_set_self (by rw [hlen]; exact hj)] at hv
        exact hv
      · rw [if_neg (by omega)]
        rw [List.getElem?_set_ne hjk] at hv
        exact h7 i x hx k v hv
    · rw [List.getElem?_set_ne hqi] at hq
      rw [if_neg]
      · exact h7 q y hq k v hv
      · intro he
        rcases Nat.lt_or_gt_of_ne hqi with hlt | hlt
        · have : (i + 1) * size ≤ q * size := Nat.mul_le_mul_right _ hlt
          rw [Nat.add_mul, Nat.one_mul] at this
          omega
        · have : (q + 1) * size ≤ i * size := Nat.mul_le_mul_right _ hlt
          rw [Nat.add_mul, Nat.one_mul] at this
          omega
theorem RTAt.setO {w : World} {Bo g b off n c i j : Nat} {xs : List O2} {x x' : O2} {u : Value} (h : RTAt w Bo g (some ⟨b, off, none⟩) n c xs) (hx : xs[i]? = some x) (hj : j < 4) (hc : O2.cells x' = (O2.cells x).set j u)
    (h1 : TkAt Wr.cells 3 85 w Bo x'.W.A x'.W.n x'.W.c x'.o.ws) (h2 : TkAt nC 1 3 w Bo x'.T.A x'.T.n x'.T.c x'.o.wt) :
    RTAt (w.setCell ⟨b, off + i * 4 + j, none⟩ u) Bo g (some ⟨b, off, none⟩) n c (xs.set i x') ∧ Kept w (w.setCell ⟨b, off + i * 4 + j, none⟩ u) (fun q => q = b) := by
  have hk : Kept w (w.setCell ⟨b, off + i * 4 + j, none⟩ u) (fun q => q = b) := (Kept.refl w (fun q => q = b)).setCell (p := ⟨b, off + i * 4 + j, none⟩) (Or.inl rfl) _
  have hk2 : Kept w (w.setCell ⟨b, off + i * 4 + j, none⟩ u) (fun q => q = g ∨ ∃ a, some (⟨b, off, none⟩ : Addr) = some a ∧ q = a.block) := hk.mono fun q e => Or.inr ⟨_, rfl, e⟩
  refine ⟨⟨?_, h.tk.setc hx len_O2 hj hc, fun y hy => ?_⟩, hk⟩
  · exact hk.blk h.st (blk_lt h.st) (fun e => by
      obtain ⟨cs, hcs⟩ := h.tk.ty rfl
      exact blk_ne2 hcs h.st (by decide) e.symm)
  · rcases List.mem_or_eq_of_mem_set hy with hy | rfl
    · exact ⟨h.keepTk (h.el y hy).1 (by decide) (by decide) hk2, h.keepTk (h.el y hy).2 (by decide) (by decide) hk2⟩
    · exact ⟨h.keepTk h1 (by decide) (by decide) hk2, h.keepTk h2 (by decide) (by decide) hk2⟩
def fltO (N : Nat) (o : O1) : O1 := { o with wt := o.wt.filter fun b => decide (b ≠ N) }
def endO (o : O1) : O1 := { o with ended := true }
theorem doneO_eq {L : List O1} {N i : Nat} {o : O1} (hp : (L.map O1.num).Pairwise (· < ·)) (hi : L[i]? = some o) (ho : o.num = N) : doneO L N = (L.set i (endO o)).map (fltO N) := by
  apply List.ext_getElem?
  intro j
  unfold doneO
  rw [List.getElem?_map, List.getElem?_map]
  have hil : i < L.length := (List.getElem?_eq_some_iff.1 hi).1
  by_cases hj : i = j
  · subst hj
    rw [List.getElem?_set_self hil, hi]
    simp [fltO, endO, ho]
  · rw [List.getElem?_set_ne hj]
    cases hL : L[j]? with
    | none => rfl
    | some y =>
      have hne : y.num ≠ N := by
        intro e
        rw [List.pairwise_map] at hp
        obtain ⟨hi1, rfl⟩ := List.getElem?_eq_some_iff.1 hi
        obtain ⟨hj1, rfl⟩ := List.getElem?_eq_some_iff.1 hL
        rcases Nat.lt_or_gt_of_ne hj with h | h
        · have := List.pairwise_iff_getElem.1 hp i j hi1 hj1 h; omega
        · have := List.pairwise_iff_getElem.1 hp j i hj1 hi1 h; omega
      simp [fltO, hne]
theorem outO_end {L : List O1} {N i : Nat} {o : O1} (hi : L[i]? = some o) : outO (L.set i (endO o)) N = outO L N := by
  have hil : i < L.length := (List.getElem?_eq_some_iff.1 hi).1
  have h1 : L = L.take i ++ o :: L.drop (i + 1) := by
    obtain ⟨h, rfl⟩ := List.getElem?_eq_some_iff.1 hi
    simp
  have h2 : L.set i (endO o) = L.take i ++ endO o :: L.drop (i + 1) := by rw [List.set_eq_take_append_cons_drop, if_pos hil]
  rw [h2]
  conv => rhs; rw [h1]
  unfold outO
  simp only [List.filter_append, List.map_append, List.filter_cons]
  congr 1
  by_cases hq : (decide (o.wt ≠ []) && decide ((o.wt.filter fun b => decide (b ≠ N)) = [])) = true
  · rw [if_pos hq, if_pos (by exact hq)]; rfl
  · rw [if_neg hq, if_neg (by exact hq)]
theorem outO_succ {L : List O1} {N k : Nat} {o : O1} (h : L[k]? = some o) : outO (L.take (k + 1)) N = outO (L.take k) N ++ if (decide (o.wt ≠ []) && decide ((o.wt.filter fun b => decide (b ≠ N)) = [])) = true then [o.num] else [] := by
  unfold outO
  rw [List.take_add_one, h, Option.toList_some, List.filter_append, List.map_append]
  congr 1
  rw [List.filter_cons]
  split <;> rfl
theorem fltO_succ {L : List O1} {N k : Nat} {o : O1} (h : L[k]? = some o) : ((L.take k).map (fltO N) ++ L.drop k).set k (fltO N o) = (L.take (k + 1)).map (fltO N) ++ L.drop (k + 1) := by
  have hk : k < L.length := (List.getElem?_eq_some_iff.1 h).1
  have h1 : L.drop k = o :: L.drop (k + 1) := by
    obtain ⟨h, rfl⟩ := List.getElem?_eq_some_iff.1 h
    simp
  have hl : ((L.take k).map (fltO N)).length = k := by simp; omega
  rw [h1, List.set_append_right _ _ (by omega), hl, Nat.sub_self, List.set_cons_zero, List.take_add_one, h, Option.toList_some, List.map_append, List.append_assoc]
  rfl
end Go.Proofs.YtcjmppjppmiggaaGreat


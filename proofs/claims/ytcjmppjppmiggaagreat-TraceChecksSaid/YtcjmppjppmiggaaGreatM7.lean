/- Lemmas and contracts of functions that statements of this seat stand on, many texts in one; each holds under the premises typed in its head. -/
import Derived.Test.YtcjmppjppmiggaaGreatRt0
import Derived.Test.YtcjmppjppmiggaaGreatMB
/- The document's table of dependencies: with, without. -/
namespace Go.Proofs.YtcjmppjppmiggaaGreat
open Go.RowKit
set_option linter.unusedVariables false
set_option linter.unusedSimpArgs false

set_option maxRecDepth 100000
def R11List (w : World) (Bo : Nat) (A : Option Addr) (l : List Nat) (e : Ending) (w' : World) : Prop :=
  ∃ A' n' c', e = .returned (.slice A' n' c') ∧ TkAt nC 1 3 w' Bo A' n' c' l ∧ Below w.heap.size w w' ∧ ∀ a, A' = some a → A' = A ∨ w.heap.size ≤ a.block
set_option maxHeartbeats 4000000 in
theorem r11with_any (Bo : Nat) (A : Option Addr) (n c : Nat) (l : List Nat) (x : Nat) (w : World) (h : TkAt nC 1 3 w Bo A n c l) (hBo : Bo ≤ w.heap.size) (hn : n ≤ 65537) :
    Calls Tryz.prog 86 #[.slice A n c, .int .i64 x] w (R11List w Bo A (withN l x)) := by
  have HR := Lib.hid h.row
  have Hlen := Lib.hid h.len
  have H := Lib.hid h
  have HBo := Lib.hid hBo
  clear h hBo
  go_enter Tryz.func86, Tryz.ntmps86
  go_wp2_with fail
  go_loopw [5, 6, 7] (fun v p i wr => ∃ (k : Nat) (put : Bool) (A' : Option Addr) (n' c' : Nat) (ls : List Nat), k ≤ n ∧ i = .int .i64 k ∧ p = .bool put ∧ v = .slice A' n' c' ∧ Hid (InsAt x (l.take k) put ls) ∧ Hid ((l.take k).contains x = false) ∧ Hid (TkAt nC 1 3 wr w.heap.size A' n' c' ls) ∧ Hid (Below w.heap.size w wr) ∧ n' ≤ 2 * k) (fun _ _ i _ => n - (RowKit.intOf i).toNat)
  case atStart => exact ⟨0, false, none, 0, 0, [], Nat.zero_le _, rfl, rfl, rfl, Lib.hid ⟨fun e => by (cases e), fun _ => ⟨by simp, by simp⟩⟩, Lib.hid (by simp), Lib.hid (TkAt.nil _ _), Lib.hid (Below.refl _ _), by omega⟩
  case round =>
    obtain ⟨k, put, A', n', c', ls, hk, rfl, rfl, rfl, HI, HC, HT, HB, hn'⟩ := hrel
    by_cases hlt : k < n
    · obtain ⟨b, off, y, rfl, hbl, hy, hyc⟩ := (HR.out.below HB.out).at_ hlt
      have y0 : wr.cell? ⟨b, off + k, none⟩ = some (.int .i64 y) := by simpa using hyc 0 _ rfl
      have Hy := Lib.hid hy
      clear hy hyc
      by_cases hyx : y = x
      · subst hyx
        go_wp2_with fail
        go_ret
        have hm : l.contains y = true := by
          simp only [List.contains_iff_mem]
          exact List.mem_of_getElem? Hy.out
        exact ⟨_, _, _, rfl, by unfold withN; rw [if_pos hm]; exact H.out.below HB.out, HB.out, fun a _ => Or.inl rfl⟩
      · have hyx' : ¬ (y : Int) = x := by omega
        cases put with
        | true =>
          go_wp2_with (first | (at_builtin; refine wpList_pushI rfl _ _ rfl w.heap.size A' n' c' _ rfl HT.out HB.out.size y 1 rfl (by omega) ?_; intro A3 c3 w3 h1 h2 h3; have HT3 := Lib.hid h1; have HB3 : Hid (Below w.heap.size w w3) := Lib.hid (HB.out.trans (h2.below HB.out.size (fun q ⟨ad, e, e2⟩ => by rw [e2]; exact (HT.out.lt e).1))); clear h1 h2 h3) | fail)
          refine ⟨⟨k + 1, true, A3, n' + 1, c3, _, by omega, by go_num, rfl, rfl, Lib.hid (by rw [take_snoc Hy.out]; exact HI.out.put), Lib.hid (by rw [contains_take Hy.out, HC.out, decide_eq_false hyx]; rfl), HT3, HB3, by omega⟩, by simp [RowKit.intOf]; omega⟩
        | false =>
          by_cases hxy : x < y
          · have hxy' : (x : Int) < y := by omega
            go_wp2_with (first | (at_builtin; refine wpList_pushI rfl _ _ rfl w.heap.size A' n' c' _ rfl HT.out HB.out.size x 1 rfl (by omega) ?_; intro A3 c3 w3 h1 h2 h3; have HT3 := Lib.hid h1; have HB3 : Hid (Below w.heap.size w w3) := Lib.hid (HB.out.trans (h2.below HB.out.size (fun q ⟨ad, e, e2⟩ => by rw [e2]; exact (HT.out.lt e).1))); clear h1 h2 h3; have y1 : w3.cell? ⟨b, off + k, none⟩ = some (.int .i64 y) := (HB3.out.cell (p := ⟨b, off + k, none⟩) hbl).trans ((HB.out.cell (p := ⟨b, off + k, none⟩) hbl).symm.trans y0)) | (at_builtin; refine wpList_pushI rfl _ _ rfl w.heap.size A3 (n' + 1) c3 _ rfl HT3.out HB3.out.size y 1 rfl (by omega) ?_; intro A4 c4 w4 h1 h2 h3; have HT4 := Lib.hid h1; have HB4 : Hid (Below w.heap.size w w4) := Lib.hid (HB3.out.trans (h2.below HB3.out.size (fun q ⟨ad, e, e2⟩ => by rw [e2]; exact (HT3.out.lt e).1))); clear h1 h2 h3) | fail)
            refine ⟨⟨k + 1, true, A4, n' + 1 + 1, c4, _, by omega, by go_num, rfl, rfl, Lib.hid (by rw [take_snoc Hy.out]; exact HI.out.new hxy), Lib.hid (by rw [contains_take Hy.out, HC.out, decide_eq_false hyx]; rfl), HT4, HB4, by omega⟩, by simp [RowKit.intOf]; omega⟩
          · have hxy' : ¬ (x : Int) < y := by omega
            go_wp2_with (first | (at_builtin; refine wpList_pushI rfl _ _ rfl w.heap.size A' n' c' _ rfl HT.out HB.out.size y 1 rfl (by omega) ?_; intro A3 c3 w3 h1 h2 h3; have HT3 := Lib.hid h1; have HB3 : Hid (Below w.heap.size w w3) := Lib.hid (HB.out.trans (h2.below HB.out.size (fun q ⟨ad, e, e2⟩ => by rw [e2]; exact (HT.out.lt e).1))); clear h1 h2 h3) | fail)
            refine ⟨⟨k + 1, false, A3, n' + 1, c3, _, by omega, by go_num, rfl, rfl, Lib.hid (by rw [take_snoc Hy.out]; exact HI.out.pass hxy), Lib.hid (by rw [contains_take Hy.out, HC.out, decide_eq_false hyx]; rfl), HT3, HB3, by omega⟩, by simp [RowKit.intOf]; omega⟩
    · obtain rfl : n = k := by omega
      have hI := HI.out
      have hC := HC.out
      rw [List.take_of_length_le (by rw [Hlen.out]; exact Nat.le_refl _)] at hI hC
      have hW : withN l x = insN x l := by unfold withN; rw [if_neg (by rw [hC]; exact Bool.false_ne_true)]
      have HW := Lib.hid hW
      have HE := Lib.hid hI.end_
      clear hI hC hW
      cases put with
      | true =>
        go_wp2_with fail
        go_ret
        refine ⟨_, _, _, rfl, ?_, HB.out, fun a ea => Or.inr (HT.out.lt ea).1⟩
        have := HE.out
        rw [if_pos trivial] at this
        rw [HW.out, ← this]; exact HT.out.more HBo.out
      | false =>
        go_wp2_with (first | (at_builtin; refine wpList_pushI rfl _ _ rfl w.heap.size A' n' c' _ rfl HT.out HB.out.size x 1 rfl (by omega) ?_; intro A3 c3 w3 h1 h2 h3; have HT3 := Lib.hid h1; have HB3 : Hid (Below w.heap.size w w3) := Lib.hid (HB.out.trans (h2.below HB.out.size (fun q ⟨ad, e, e2⟩ => by rw [e2]; exact (HT.out.lt e).1))); clear h1 h2 h3) | fail)
        go_ret
        refine ⟨_, _, _, rfl, ?_, HB3.out, fun a ea => Or.inr (HT3.out.lt ea).1⟩
        have := HE.out
        rw [if_neg Bool.false_ne_true] at this
        rw [HW.out, ← this]; exact HT3.out.more HBo.out
set_option maxHeartbeats 4000000 in
theorem r11without_any (Bo : Nat) (A : Option Addr) (n c : Nat) (l : List Nat) (x : Nat) (w : World) (h : TkAt nC 1 3 w Bo A n c l) (hBo : Bo ≤ w.heap.size) (hn : n ≤ 65537) :
    Calls Tryz.prog 89 #[.slice A n c, .int .i64 x] w (R11List w Bo A (l.filter fun b => decide (b ≠ x))) := by
  have HR := Lib.hid h.row
  have Hlen := Lib.hid h.len
  have HBo := Lib.hid hBo
  clear h hBo
  go_enter Tryz.func89, Tryz.ntmps89
  go_wp2_with fail
  go_loopw [5, 6] (fun v i wr => ∃ (k : Nat) (A' : Option Addr) (n' c' : Nat), k ≤ n ∧ i = .int .i64 k ∧ v = .slice A' n' c' ∧ Hid (TkAt nC 1 3 wr w.heap.size A' n' c' ((l.take k).filter fun b => decide (b ≠ x))) ∧ Hid (Below w.heap.size w wr) ∧ n' ≤ k) (fun _ i _ => n - (RowKit.intOf i).toNat)
  case atStart => exact ⟨0, none, 0, 0, Nat.zero_le _, rfl, rfl, Lib.hid (TkAt.nil _ _), Lib.hid (Below.refl _ _), by omega⟩
  case round =>
    obtain ⟨k, A', n', c', hk, rfl, rfl, HT, HB, hn'⟩ := hrel
    by_cases hlt : k < n
    · obtain ⟨b, off, y, rfl, hbl, hy, hyc⟩ := (HR.out.below HB.out).at_ hlt
      have y0 : wr.cell? ⟨b, off + k, none⟩ = some (.int .i64 y) := by simpa using hyc 0 _ rfl
      have Hy := Lib.hid hy
      clear hy hyc
      by_cases hyx : y = x
      · have hyx' : (y : Int) = x := by omega
        go_wp2_with fail
        refine ⟨⟨k + 1, A', n', c', by omega, by go_num, rfl, Lib.hid ?_, HB, by omega⟩, by simp [RowKit.intOf]; omega⟩
        rw [take_snoc Hy.out, List.filter_append]
        have : ([y].filter fun b => decide (b ≠ x)) = [] := by simp [hyx]
        rw [this, List.append_nil]; exact HT.out
      · have hyx' : ¬ (y : Int) = x := by omega
        go_wp2_with (first | (at_builtin; refine wpList_pushI rfl _ _ rfl w.heap.size A' n' c' _ rfl HT.out HB.out.size y 1 rfl (by omega) ?_; intro A3 c3 w3 h1 h2 h3; have HT3 := Lib.hid h1; have HB3 : Hid (Below w.heap.size w w3) := Lib.hid (HB.out.trans (h2.below HB.out.size (fun q ⟨ad, e, e2⟩ => by rw [e2]; exact (HT.out.lt e).1))); clear h1 h2 h3) | fail)
        refine ⟨⟨k + 1, A3, n' + 1, c3, by omega, by go_num, rfl, Lib.hid ?_, HB3, by omega⟩, by simp [RowKit.intOf]; omega⟩
        rw [take_snoc Hy.out, List.filter_append]
        have : ([y].filter fun b => decide (b ≠ x)) = [y] := by simp [hyx]
        rw [this]; exact HT3.out
    · obtain rfl : n = k := by omega
      go_wp2_with fail
      go_ret
      refine ⟨_, _, _, rfl, ?_, HB.out, fun a ea => Or.inr (HT.out.lt ea).1⟩
      have := HT.out
      rw [List.take_of_length_le (by rw [Hlen.out]; exact Nat.le_refl _)] at this
      exact this.more HBo.out
end Go.Proofs.YtcjmppjppmiggaaGreat

/- The document's table of dependencies at memory: last, place. -/

namespace Go.Proofs.YtcjmppjppmiggaaGreat
open Go.RowKit
set_option linter.unusedVariables false
set_option linter.unusedSimpArgs false

set_option maxRecDepth 100000
structure S3 where
  A : Option Addr
  n : Nat
  c : Nat
def S3.v (s : S3) : Value := .slice s.A s.n s.c
structure O2 where
  o : O1
  W : S3
  T : S3
def O2.cells (x : O2) : List Value := [.int .i64 x.o.num, x.W.v, x.T.v, .bool x.o.ended]
theorem len_O2 (x : O2) : (O2.cells x).length = 4 := rfl
theorem one_O2 (x : O2) : ∀ u ∈ O2.cells x, u.oneCell' = true := fun u hu => by
  simp [O2.cells] at hu
  rcases hu with rfl | rfl | rfl | rfl <;> rfl
structure RTAt (w : World) (Bo g : Nat) (A : Option Addr) (n c : Nat) (xs : List O2) : Prop where
  st : w.heap[g]? = some (.cells #[.slice A n c] 114 (0, 0))
  tk : TkAt O2.cells 4 161 w Bo A n c xs
  el : ∀ x ∈ xs, TkAt Wr.cells 3 85 w Bo x.W.A x.W.n x.W.c x.o.ws ∧ TkAt nC 1 3 w Bo x.T.A x.T.n x.T.c x.o.wt
def hasR (g : Nat) (A : Option Addr) (xs : List O2) (b : Nat) : Prop := b = g ∨ (∃ a, A = some a ∧ b = a.block) ∨ ∃ x ∈ xs, (∃ a, x.W.A = some a ∧ b = a.block) ∨ ∃ a, x.T.A = some a ∧ b = a.block
section
variable {w w' : World} {Bo g n c : Nat} {A : Option Addr} {xs : List O2} {X : Nat → Prop}
theorem RTAt.kept (h : RTAt w Bo g A n c xs) (k : Kept w w' X) (hX : ∀ b, hasR g A xs b → ¬ X b) : RTAt w' Bo g A n c xs :=
  ⟨k.blk h.st (blk_lt h.st) (hX _ (Or.inl rfl)), h.tk.kept k (fun a e => hX _ (Or.inr (Or.inl ⟨a, e, rfl⟩))), fun x hx => ⟨(h.el x hx).1.kept k (fun a e => hX _ (Or.inr (Or.inr ⟨x, hx, Or.inl ⟨a, e, rfl⟩⟩))), (h.el x hx).2.kept k (fun a e => hX _ (Or.inr (Or.inr ⟨x, hx, Or.inr ⟨a, e, rfl⟩⟩)))⟩⟩
theorem RTAt.below (h : RTAt w Bo g A n c xs) (hb : Below w.heap.size w w') : RTAt w' Bo g A n c xs := h.kept (X := fun _ => False) (Kept.of_below hb) (fun _ _ h => h)
theorem RTAt.cell4 {i : Nat} (h : RTAt w Bo g A n c xs) (hi : i < n) : ∃ b off x, A = some ⟨b, off, none⟩ ∧ b < w.heap.size ∧ xs[i]? = some x ∧ w.cell? ⟨b, off + i * 4, none⟩ = some (.int .i64 x.o.num) ∧ w.cell? ⟨b, off + i * 4 + 1, none⟩ = some x.W.v ∧ w.cell? ⟨b, off + i * 4 + 2, none⟩ = some x.T.v ∧ w.cell? ⟨b, off + i * 4 + 3, none⟩ = some (.bool x.o.ended) := by
  obtain ⟨b, off, x, e, hb, hx, hc⟩ := h.tk.row.at_ hi
  exact ⟨b, off, x, e, hb, hx, hc 0 _ rfl, hc 1 _ rfl, hc 2 _ rfl, hc 3 _ rfl⟩
end
def lastI (L : List O1) (k : ByteArray) : Nat → Option Nat
  | 0 => none
  | n + 1 => match L[n]? with
    | some o => if hasKey o.ws k = true then some n else lastI L k n
    | none => lastI L k n
theorem lastI_take (L : List O1) (k : ByteArray) : ∀ n, n ≤ L.length → (L.take n).reverse.find? (fun o => hasKey o.ws k) = (lastI L k n).bind fun i => L[i]?
  | 0, _ => rfl
  | n + 1, h => by
    have e : L[n]? = some L[n] := List.getElem?_eq_getElem (by omega)
    rw [List.take_add_one, e, Option.toList_some, List.reverse_append, List.reverse_singleton, List.singleton_append, List.find?_cons, lastI, e]
    simp only
    by_cases hk : hasKey L[n].ws k = true
    · rw [hk, if_pos rfl]; simp [e]
    · rw [if_neg hk]
      have : hasKey L[n].ws k = false := by simpa using hk
      rw [this]
      exact lastI_take L k n (by omega)
theorem lastI_lt (L : List O1) (k : ByteArray) : ∀ n i, lastI L k n = some i → i < n
  | 0, i, h => by cases h
  | n + 1, i, h => by
    rw [lastI] at h
    split at h
    · split at h
      · injection h with h; omega
      · have := lastI_lt L k n i h; omega
    · have := lastI_lt L k n i h; omega
theorem lastO_eq (L : List O1) (k : ByteArray) : lastO L k = (lastI L k L.length).bind fun i => L[i]? := by
  have := lastI_take L k L.length (Nat.le_refl _)
  rw [List.take_length] at this
  exact this
theorem toLk_eq (a b : ByteArray) : (a.toList == b.toList) = decide (a = b) := by
  rw [ByteArray.toList_eq, ByteArray.toList_eq]
  by_cases h : a = b
  · simp [h]
  · simp only [h, decide_false, beq_eq_false_iff_ne]
    exact fun e => h (kL_inj e)
def ixV : Option Nat → Int
  | some i => i
  | none => -1
theorem hasKey_snoc (ws : List Wr) (x : Wr) (k : ByteArray) : hasKey (ws ++ [x]) k = (hasKey ws k || keyIs k x) := by simp [hasKey]
set_option maxHeartbeats 4000000 in
theorem r11last_any (Bo g : Nat) (A : Option Addr) (n c : Nat) (xs : List O2) (k : ByteArray) (w : World) (h : RTAt w Bo g A n c xs) (hn : n ≤ 65537) (hw : ∀ x ∈ xs, x.W.n ≤ 65536) :
    Calls Tryz.prog 85 #[.pointer (some ⟨g, 0, none⟩), .string k] w fun e w' => e = .returned (.int .i64 (ixV (lastI (xs.map O2.o) k n))) ∧ w = w' := by
  have c0 := blk_cell h.st 0
  have H := Lib.hid h
  have Hw := Lib.hid hw
  have hlen := h.tk.len
  have Hlen := Lib.hid hlen
  have hfin : ∀ (r : Option Nat) (w' : World), lastI (xs.map O2.o) k n = r → w = w' → (Ending.returned (.int .i64 (ixV r)) = .returned (.int .i64 (ixV (lastI (xs.map O2.o) k n))) ∧ w = w') := fun r w' e e2 => by subst e; exact ⟨rfl, e2⟩
  have Hf := Lib.hid hfin
  clear h hw hlen hfin
  go_enter Tryz.func85, Tryz.ntmps85
  go_wp2_with fail
  go_loopw [5] (fun i wr => ∃ m : Nat, m ≤ n ∧ i = .int .i64 ((m : Int) - 1) ∧ w = wr ∧ Hid (lastI (xs.map O2.o) k n = lastI (xs.map O2.o) k m)) (fun i _ => (RowKit.intOf i + 1).toNat)
  case atStart => exact ⟨n, Nat.le_refl _, by first | rfl | go_num, rfl, Lib.hid rfl⟩
  case round =>
    obtain ⟨m, hm, rfl, rfl, HL⟩ := hrel
    cases m with
    | zero =>
      have h0 : ¬ (0 : Int) ≤ ((0 : Nat) : Int) - 1 := by omega
      go_wp2_with fail
      go_ret
      exact Hf.out none _ HL.out rfl
    | succ m =>
      have h0 : (0 : Int) ≤ ((m + 1 : Nat) : Int) - 1 := by omega
      have hm1 : ((m + 1 : Nat) : Int) - 1 = (m : Int) := by omega
      obtain ⟨b, off, x, rfl, hbl, hx, x0, x1, x2, x3⟩ := H.out.cell4 (i := m) (by omega)
      have HW := Lib.hid (H.out.el x (List.mem_of_getElem? hx)).1
      have hwn := Hw.out x (List.mem_of_getElem? hx)
      obtain ⟨⟨xn, xw, xt, xe⟩, ⟨WA, Wn, Wc⟩, ⟨TA, Tn, Tc⟩⟩ := x
      simp only [S3.v] at x0 x1 x2 x3 hwn
      have hxo : (xs.map O2.o)[m]? = some ⟨xn, xw, xt, xe⟩ := by rw [List.getElem?_map, hx]; rfl
      have HX := Lib.hid hxo
      rw [hm1]
      clear hx hxo
      go_wp2_with fail
      go_loopw [6] (fun i wr => ∃ j : Nat, j ≤ Wn ∧ i = .int .i64 j ∧ w = wr ∧ Hid (hasKey (xw.take j) k = false)) (fun i _ => Wn - (RowKit.intOf i).toNat)
      case atStart => exact ⟨0, Nat.zero_le _, rfl, rfl, Lib.hid rfl⟩
      case round =>
        obtain ⟨j, hj, rfl, rfl, HK⟩ := hrel
        by_cases hlt : j < Wn
        · obtain ⟨b2, off2, y, rfl, hbl2, hy, hyc⟩ := HW.out.row.at_ hlt
          have y0 : w.cell? ⟨b2, off2 + j * 3, none⟩ = some (.string y.key) := by simpa using hyc 0 _ rfl
          have Hy := Lib.hid hy
          clear hy hyc
          by_cases hyk : y.key = k
          · have hq : (y.key.toList == k.toList) = true := by rw [hyk]; exact beq_self_eq_true _
            go_wp2_with fail
            go_ret
            refine Hf.out (some m) _ ?_ rfl
            rw [HL.out, lastI, HX.out]
            simp only
            rw [if_pos]
            rw [hasKey_iff]
            exact ⟨y, List.mem_of_getElem? Hy.out, hyk⟩
          · have hq : (y.key.toList == k.toList) = false := by rw [toLk_eq]; exact decide_eq_false hyk
            go_wp2_with fail
            refine ⟨⟨j + 1, by omega, by go_num, by first | exact rfl | trivial, Lib.hid ?_⟩, by simp [RowKit.intOf]; omega⟩
            rw [List.take_add_one, Hy.out, Option.toList_some, hasKey_snoc, HK.out, Bool.false_or, keyIs]
            exact hq
        · obtain rfl : Wn = j := by omega
          have hk := HK.out
          rw [List.take_of_length_le (Nat.le_of_eq HW.out.len)] at hk
          have Hk := Lib.hid hk
          clear hk
          go_wp2_with fail
          refine ⟨⟨m, by omega, by go_num, by first | exact rfl | trivial, Lib.hid ?_⟩, by show (((m : Int) - 1) + 1).toNat < ((m : Int) + 1).toNat; omega⟩
          rw [HL.out, lastI, HX.out]
          simp only
          rw [if_neg (by rw [Hk.out]; exact Bool.false_ne_true)]
end Go.Proofs.YtcjmppjppmiggaaGreat

/- The document's table of dependencies at memory: place. -/

namespace Go.Proofs.YtcjmppjppmiggaaGreat
open Go.RowKit
set_option linter.unusedVariables false
set_option linter.unusedSimpArgs false

set_option maxRecDepth 100000
def openB (N : Nat) (o : O1) : Bool := decide (o.num = N) && !o.ended
def placeI (L : List O1) (N : Nat) : Option Nat := L.findIdx? (openB N)
theorem placeI_none {L : List O1} {N : Nat} (h : ∀ (i : Nat) (o : O1), L[i]? = some o → openB N o = false) : placeI L N = none := by
  unfold placeI
  rw [List.findIdx?_eq_none_iff]
  intro o ho
  obtain ⟨i, hi⟩ := List.mem_iff_getElem?.1 ho
  exact h i o hi
theorem placeI_some {L : List O1} {N i : Nat} {o : O1} (hi : L[i]? = some o) (ho : openB N o = true) (h : ∀ j, j < i → ∀ o, L[j]? = some o → openB N o = false) : placeI L N = some i := by
  unfold placeI
  obtain ⟨h1, h2⟩ := List.getElem?_eq_some_iff.1 hi
  rw [List.findIdx?_eq_some_iff_getElem]
  refine ⟨h1, by rw [h2]; exact ho, fun j hj => ?_⟩
  rw [h j hj _ (List.getElem?_eq_getElem (by omega))]
  exact Bool.false_ne_true
set_option maxHeartbeats 4000000 in
theorem r11place_any (Bo g : Nat) (A : Option Addr) (n c : Nat) (xs : List O2) (N : Nat) (w : World) (h : RTAt w Bo g A n c xs) (hn : n ≤ 65537) :
    Calls Tryz.prog 88 #[.pointer (some ⟨g, 0, none⟩), .int .i64 N] w fun e w' => e = .returned (.int .i64 (ixV (placeI (xs.map O2.o) N))) ∧ w = w' := by
  have c0 := blk_cell h.st 0
  have H := Lib.hid h
  have hlen := h.tk.len
  have Hlen := Lib.hid hlen
  have hfin : ∀ (r : Option Nat) (w' : World), placeI (xs.map O2.o) N = r → w = w' → (Ending.returned (.int .i64 (ixV r)) = .returned (.int .i64 (ixV (placeI (xs.map O2.o) N))) ∧ w = w') := fun r w' e e2 => by subst e; exact ⟨rfl, e2⟩
  have Hf := Lib.hid hfin
  clear h hlen hfin
  go_enter Tryz.func88, Tryz.ntmps88
  go_wp2_with fail
  go_loopw [5] (fun i wr => ∃ m : Nat, m ≤ n ∧ i = .int .i64 m ∧ w = wr ∧ Hid (∀ j, j < m → ∀ o, (xs.map O2.o)[j]? = some o → openB N o = false)) (fun i _ => n - (RowKit.intOf i).toNat)
  case atStart => exact ⟨0, Nat.zero_le _, rfl, rfl, Lib.hid (fun j hj => by omega)⟩
  case round =>
    obtain ⟨m, hm, rfl, rfl, HL⟩ := hrel
    by_cases hlt : m < n
    · obtain ⟨b, off, x, rfl, hbl, hx, x0, x1, x2, x3⟩ := H.out.cell4 (i := m) hlt
      obtain ⟨⟨xn, xw, xt, xe⟩, ⟨WA, Wn, Wc⟩, ⟨TA, Tn, Tc⟩⟩ := x
      simp only [S3.v] at x0 x1 x2 x3
      have hxo : (xs.map O2.o)[m]? = some ⟨xn, xw, xt, xe⟩ := by rw [List.getElem?_map, hx]; rfl
      have HX := Lib.hid hxo
      have HN : openB N ⟨xn, xw, xt, xe⟩ = false → Hid (∀ j, j < m + 1 → ∀ o, (xs.map O2.o)[j]? = some o → openB N o = false) := fun ho => Lib.hid (fun j hj o hjo => by
        by_cases hjm : j = m
        · subst hjm; rw [hxo] at hjo; injection hjo with hjo; subst hjo; exact ho
        · exact HL.out j (by omega) o hjo)
      have HN2 := Lib.hid HN
      clear hx hxo HN
      by_cases hnn : xn = N
      · have hq : (xn : Int) = N := by omega
        cases xe with
        | true =>
          go_wp2_with fail
          exact ⟨⟨m + 1, by omega, by go_num, by first | exact rfl | trivial, HN2.out (by simp [openB])⟩, by simp [RowKit.intOf]; omega⟩
        | false =>
          go_wp2_with fail
          go_ret
          exact Hf.out (some m) _ (placeI_some HX.out (by simp [openB, hnn]) HL.out) rfl
      · have hq : ¬ (xn : Int) = N := by omega
        go_wp2_with fail
        exact ⟨⟨m + 1, by omega, by go_num, by first | exact rfl | trivial, HN2.out (by simp [openB, hnn])⟩, by simp [RowKit.intOf]; omega⟩
    · obtain rfl : n = m := by omega
      go_wp2_with fail
      go_ret
      refine Hf.out none _ (placeI_none fun i o hi => HL.out i ?_ o hi) rfl
      obtain ⟨h1, -⟩ := List.getElem?_eq_some_iff.1 hi
      rw [List.length_map, Hlen.out] at h1
      exact h1
end Go.Proofs.YtcjmppjppmiggaaGreat


/- The document's table of dependencies at memory: last, place. -/
import Derived.Test.YtfafhfjmoijaeaaGreatDoorRt1
namespace Go.Proofs.YtfafhfjmoijaeaaGreatDoor
open Go.RowKit
set_option linter.unusedVariables false
set_option linter.unusedSimpArgs false

set_option maxRecDepth 100000
/-- A slice's three words. -/
structure S3 where
  A : Option Addr
  n : Nat
  c : Nat
def S3.v (s : S3) : Value := .slice s.A s.n s.c
/-- One that was added, and where its lists lie. -/
structure O2 where
  o : O1
  W : S3
  T : S3
def O2.cells (x : O2) : List Value := [.int .i64 x.o.num, x.W.v, x.T.v, .bool x.o.ended]
theorem len_O2 (x : O2) : (O2.cells x).length = 4 := rfl
theorem one_O2 (x : O2) : ∀ u ∈ O2.cells x, u.oneCell' = true := fun u hu => by
  simp [O2.cells] at hu
  rcases hu with rfl | rfl | rfl | rfl <;> rfl
structure RTAt (w : World) (Bo g : Nat) (A : Option Addr) (n c : Nat) (xs : List O2) : Prop where
  st : w.heap[g]? = some (.cells #[.slice A n c] 57 (0, 0))
  tk : TkAt O2.cells 4 79 w Bo A n c xs
  el : ∀ x ∈ xs, TkAt Wr.cells 3 75 w Bo x.W.A x.W.n x.W.c x.o.ws ∧ TkAt nC 1 3 w Bo x.T.A x.T.n x.T.c x.o.wt
def hasR (g : Nat) (A : Option Addr) (xs : List O2) (b : Nat) : Prop := b = g ∨ (∃ a, A = some a ∧ b = a.block) ∨ ∃ x ∈ xs, (∃ a, x.W.A = some a ∧ b = a.block) ∨ ∃ a, x.T.A = some a ∧ b = a.block
section
variable {w w' : World} {Bo g n c : Nat} {A : Option Addr} {xs : List O2} {X : Nat → Prop}
theorem RTAt.kept (h : RTAt w Bo g A n c xs) (k : Kept w w' X) (hX : ∀ b, hasR g A xs b → ¬ X b) : RTAt w' Bo g A n c xs :=
  ⟨k.blk h.st (blk_lt h.st) (hX _ (Or.inl rfl)), h.tk.kept k (fun a e => hX _ (Or.inr (Or.inl ⟨a, e, rfl⟩))), fun x hx => ⟨(h.el x hx).1.kept k (fun a e => hX _ (Or.inr (Or.inr ⟨x, hx, Or.inl ⟨a, e, rfl⟩⟩))), (h.el x hx).2.kept k (fun a e => hX _ (Or.inr (Or.inr ⟨x, hx, Or.inr ⟨a, e, rfl⟩⟩)))⟩⟩
theorem RTAt.below (h : RTAt w Bo g A n c xs) (hb : Below w.heap.size w w') : RTAt w' Bo g A n c xs := h.kept (X := fun _ => False) (Kept.of_below hb) (fun _ _ h => h)
theorem RTAt.cell4 {i : Nat} (h : RTAt w Bo g A n c xs) (hi : i < n) : ∃ b off x, A = some ⟨b, off, none⟩ ∧ b < w.heap.size ∧ xs[i]? = some x ∧ w.cell? ⟨b, off + i * 4, none⟩ = some (.int .i64 x.o.num) ∧ w.cell? ⟨b, off + i * 4 + 1, none⟩ = some x.W.v ∧ w.cell? ⟨b, off + i * 4 + 2, none⟩ = some x.T.v ∧ w.cell? ⟨b, off + i * 4 + 3, none⟩ = some (.bool x.o.ended) := by
  obtain ⟨b, off, x, e, hb, hx, hc⟩ := h.tk.row.at_ hi
  exact ⟨b, off, x, e, hb, hx, hc 0 _ rfl, hc 1 _ rfl, hc 2 _ rfl, hc 3 _ rfl⟩
end
/-- The place of the last one that writes a key, of the first so many. -/
def lastI (L : List O1) (k : ByteArray) : Nat → Option Nat
  | 0 => none
  | n + 1 => match L[n]? with
    | some o => if hasKey o.ws k = true then some n else lastI L k n
    | none => lastI L k n
theorem lastI_take (L : List O1) (k : ByteArray) : ∀ n, n ≤ L.length → (L.take n).reverse.find? (fun o => hasKey o.ws k) = (lastI L k n).bind fun i => L[i]?
  | 0, _ => rfl
  | n + 1, h => by
    have e : L[n]? = some L[n] := List.getElem?_eq_getElem (by omega)
    rw [List.take_add_one, e, Option.toList_some, List.reverse_append, List.reverse_singleton, List.singleton_append, List.find?_cons, lastI, e]
    simp only
    by_cases hk : hasKey L[n].ws k = true
    · rw [hk, if_pos rfl]; simp [e]
    · rw [if_neg hk]
      have : hasKey L[n].ws k = false := by simpa using hk
      rw [this]
      exact lastI_take L k n (by omega)
theorem lastI_lt (L : List O1) (k : ByteArray) : ∀ n i, lastI L k n = some i → i < n
  | 0, i, h => by cases h
  | n + 1, i, h => by
    rw [lastI] at h
    split at h
    · split at h
      · injection h with h; omega
      · have := lastI_lt L k n i h; omega
    · have := lastI_lt L k n i h; omega
theorem lastO_eq (L : List O1) (k : ByteArray) : lastO L k = (lastI L k L.length).bind fun i => L[i]? := by
  have := lastI_take L k L.length (Nat.le_refl _)
  rw [List.take_length] at this
  exact this
theorem toLk_eq (a b : ByteArray) : (a.toList == b.toList) = decide (a = b) := by
  rw [ByteArray.toList_eq, ByteArray.toList_eq]
  by_cases h : a = b
  · simp [h]
  · simp only [h, decide_false, beq_eq_false_iff_ne]
    exact fun e => h (kL_inj e)
def ixV : Option Nat → Int
  | some i => i
  | none => -1
theorem hasKey_snoc (ws : List Wr) (x : Wr) (k : ByteArray) : hasKey (ws ++ [x]) k = (hasKey ws k || keyIs k x) := by simp [hasKey]
set_option maxHeartbeats 4000000 in
theorem r11last_any (Bo g : Nat) (A : Option Addr) (n c : Nat) (xs : List O2) (k : ByteArray) (w : World) (h : RTAt w Bo g A n c xs) (hn : n ≤ 65537) (hw : ∀ x ∈ xs, x.W.n ≤ 65536) :
    Calls Tryz.prog 63 #[.pointer (some ⟨g, 0, none⟩), .string k] w fun e w' => e = .returned (.int .i64 (ixV (lastI (xs.map O2.o) k n))) ∧ w = w' := by
  have c0 := blk_cell h.st 0
  have H := Lib.hid h
  have Hw := Lib.hid hw
  have hlen := h.tk.len
  have Hlen := Lib.hid hlen
  have hfin : ∀ (r : Option Nat) (w' : World), lastI (xs.map O2.o) k n = r → w = w' → (Ending.returned (.int .i64 (ixV r)) = .returned (.int .i64 (ixV (lastI (xs.map O2.o) k n))) ∧ w = w') := fun r w' e e2 => by subst e; exact ⟨rfl, e2⟩
  have Hf := Lib.hid hfin
  clear h hw hlen hfin
  go_enter Tryz.func63, Tryz.ntmps63
  go_wp2_with fail
  go_loopw [5] (fun i wr => ∃ m : Nat, m ≤ n ∧ i = .int .i64 ((m : Int) - 1) ∧ w = wr ∧ Hid (lastI (xs.map O2.o) k n = lastI (xs.map O2.o) k m)) (fun i _ => (RowKit.intOf i + 1).toNat)
  case atStart => exact ⟨n, Nat.le_refl _, by first | rfl | go_num, rfl, Lib.hid rfl⟩
  case round =>
    obtain ⟨m, hm, rfl, rfl, HL⟩ := hrel
    cases m with
    | zero =>
      have h0 : ¬ (0 : Int) ≤ ((0 : Nat) : Int) - 1 := by omega
      go_wp2_with fail
      go_ret
      exact Hf.out none _ HL.out rfl
    | succ m =>
      have h0 : (0 : Int) ≤ ((m + 1 : Nat) : Int) - 1 := by omega
      have hm1 : ((m + 1 : Nat) : Int) - 1 = (m : Int) := by omega
      obtain ⟨b, off, x, rfl, hbl, hx, x0, x1, x2, x3⟩ := H.out.cell4 (i := m) (by omega)
      have HW := Lib.hid (H.out.el x (List.mem_of_getElem? hx)).1
      have hwn := Hw.out x (List.mem_of_getElem? hx)
      obtain ⟨⟨xn, xw, xt, xe⟩, ⟨WA, Wn, Wc⟩, ⟨TA, Tn, Tc⟩⟩ := x
      simp only [S3.v] at x0 x1 x2 x3 hwn
      have hxo : (xs.map O2.o)[m]? = some ⟨xn, xw, xt, xe⟩ := by rw [List.getElem?_map, hx]; rfl
      have HX := Lib.hid hxo
      rw [hm1]
      clear hx hxo
      go_wp2_with fail
      go_loopw [6] (fun i wr => ∃ j : Nat, j ≤ Wn ∧ i = .int .i64 j ∧ w = wr ∧ Hid (hasKey (xw.take j) k = false)) (fun i _ => Wn - (RowKit.intOf i).toNat)
      case atStart => exact ⟨0, Nat.zero_le _, rfl, rfl, Lib.hid rfl⟩
      case round =>
        obtain ⟨j, hj, rfl, rfl, HK⟩ := hrel
        by_cases hlt : j < Wn
        · obtain ⟨b2, off2, y, rfl, hbl2, hy, hyc⟩ := HW.out.row.at_ hlt
          have y0 : w.cell? ⟨b2, off2 + j * 3, none⟩ = some (.string y.key) := by simpa using hyc 0 _ rfl
          have Hy := Lib.hid hy
          clear hy hyc
          by_cases hyk : y.key = k
          · have hq : (y.key.toList == k.toList) = true := by rw [hyk]; exact beq_self_eq_true _
            go_wp2_with fail
            go_ret
            refine Hf.out (some m) _ ?_ rfl
            rw [HL.out, lastI, HX.out]
            simp only
            rw [if_pos]
            rw [hasKey_iff]
            exact ⟨y, List.mem_of_getElem? Hy.out, hyk⟩
          · have hq : (y.key.toList == k.toList) = false := by rw [toLk_eq]; exact decide_eq_false hyk
            go_wp2_with fail
            refine ⟨⟨j + 1, by omega, by go_num, by first | exact rfl | trivial, Lib.hid ?_⟩, by simp [RowKit.intOf]; omega⟩
            rw [List.take_add_one, Hy.out, Option.toList_some, hasKey_snoc, HK.out, Bool.false_or, keyIs]
            exact hq
        · obtain rfl : Wn = j := by omega
          have hk := HK.out
          rw [List.take_of_length_le (Nat.le_of_eq HW.out.len)] at hk
          have Hk := Lib.hid hk
          clear hk
          go_wp2_with fail
          refine ⟨⟨m, by omega, by go_num, by first | exact rfl | trivial, Lib.hid ?_⟩, by show (((m : Int) - 1) + 1).toNat < ((m : Int) + 1).toNat; omega⟩
          rw [HL.out, lastI, HX.out]
          simp only
          rw [if_neg (by rw [Hk.out]; exact Bool.false_ne_true)]
end Go.Proofs.YtfafhfjmoijaeaaGreatDoor

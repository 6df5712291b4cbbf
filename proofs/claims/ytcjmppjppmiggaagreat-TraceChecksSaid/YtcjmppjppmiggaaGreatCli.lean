/- XCli: out of XApp XOwA (pick.py). -/
import Derived.Test.YtcjmppjppmiggaaGreatDw
import Derived.Laws.AppendOwnNone
namespace Go.Proofs.YtcjmppjppmiggaaGreat
open Go.RowKit
set_option linter.unusedVariables false
set_option linter.unusedSimpArgs false

theorem flat_idx {α : Type} {cells : α → List Value} {size : Nat} : ∀ (xs : List α) (hs : ∀ x ∈ xs, (cells x).length = size) (j : Nat) (u : Value), (xs.flatMap cells)[j]? = some u → ∃ i x r, xs[i]? = some x ∧ (cells x)[r]? = some u ∧ j = i * size + r
  | [], _, _, _, h => by simp at h
  | y :: r, hs, j, u, h => by
    have hy := hs y (by simp)
    rw [List.flatMap_cons] at h
    by_cases hj : j < size
    · rw [List.getElem?_append_left (by omega)] at h
      exact ⟨0, y, j, rfl, h, by omega⟩
    · rw [List.getElem?_append_right (by omega), hy] at h
      obtain ⟨i, x, q, h1, h2, h3⟩ := flat_idx r (fun z hz => hs z (by simp [hz])) _ u h
      exact ⟨i + 1, x, q, by simpa using h1, h2, by rw [Nat.add_mul]; omega⟩
theorem below_grown_own {w w' : World} {v : Value} {base n size : Nat} {e : TypeId} {xs : List Value} (h : w.ownsRow base e size v n xs) (hg : w.grownBy w' v.ownBlock) (hb : base ≤ w.heap.size) : Below base w w' :=
  (Below.refl _ _).grown hg hb (fun k hk => (h.lt k hk).1)
theorem wpList_append_row {α : Type} {cells : α → List Value} {P : Program} {w : World} {ops : Array Oper} {rest : List Oper} {o : Oper} {a : Act} {Q : Exit → Act → World → Prop} (hgd : o.guard = none) (s x : Operand) (t : TypeId)
    (ho : o.op = .call { callee := .builtin .append, args := #[s, x], argTypes := #[t, t] })
    (base : Nat) (e : TypeId) (i : TypeInfo) (z : Value) (size bytes : Nat) (ht : P.underlying t = some (.slice e)) (hi : P.info? e = some i) (hz : i.zero = some z)
    (hsize : i.size = size) (hby : i.bytes = bytes) (hzs : z.cells.size = size) (hsz : 0 < size)
    (v : Value) (n : Nat) (xs : List Value) (hs : a.eval s = v) (hown : w.ownsRow base e size v n xs)
    (Ax : Option Addr) (m c B : Nat) (ys : List α) (hx : a.eval x = .slice Ax m c) (hrow : RowAt cells size w B Ax m ys) (hnil : Ax = none → c = 0) (hys : ∀ y ∈ ys, (cells y).length = size) (h1 : ∀ y, ∀ u ∈ cells y, u.oneCell' = true)
    (h63 : n + m ≤ maxLen) (hbytes : (n + m) * bytes ≤ 140737488355328) (hbase : base ≤ w.heap.size)
    (h : ∀ v' w', w'.ownsRow base e size v' (n + m) (xs ++ ys.flatMap cells) → w.grownBy w' v.ownBlock → wpList P ops Q rest (a.put o.dst v') w') : wpList P ops Q (o :: rest) a w := by
  cases Ax with
  | none =>
    have hm : m = 0 := by
      rcases Nat.eq_zero_or_pos m with h0 | h0
      · exact h0
      · obtain ⟨b, off, hh, -⟩ := hrow.2 h0; cases hh
    subst hm
    have hc := hnil rfl
    subst hc
    have hy : ys = [] := List.eq_nil_of_length_eq_zero hrow.1
    subst hy
    exact wpList_append_own_none hgd s x t ho base e i size ht hi v n xs hs hown hx (h v w (by simpa using hown) (grownBy_refl _ _))
  | some ad =>
    refine wpList_append_own w hgd s x t ho base e i z size bytes ht hi hz hsize hby hzs hsz v n xs hs hown ad m c (ys.flatMap cells) hx (by rw [flat_len ys hys, hrow.1]) (fun j u hu => ?_) (fun u hu => ?_) h63 hbytes hbase (fun v' w' h2 h3 _ => h v' w' h2 h3)
    · obtain ⟨q, y, r, hq, hr, hj⟩ := flat_idx ys hys j u hu
      have hm : 0 < m := by
        have := (List.getElem?_eq_some_iff.1 hq).1
        have := hrow.1
        omega
      obtain ⟨b, off, he, -, hc⟩ := hrow.2 hm
      injection he with he
      subst he
      rw [Addr.add_lit, hj, ← Nat.add_assoc]
      exact hc q y hq r u hr
    · obtain ⟨y, -, hu2⟩ := List.mem_flatMap.1 hu
      exact h1 y u hu2
section
set_option maxRecDepth 100000
theorem eqint_some (ad : Addr) (n c : Nat) (w : World) : (binOp .eql 25 (.slice (some ad) n c) (.slice none 0 0)).run Tryz.prog w = .ok (.bool false) w := by kernel_rfl
theorem eqint_none (w : World) : (binOp .eql 25 (.slice none 0 0) (.slice none 0 0)).run Tryz.prog w = .ok (.bool true) w := by kernel_rfl
abbrev OwnI (w : World) (B : Nat) (v : Value) (l : List Int) : Prop := w.ownsRow B 3 1 v l.length (l.flatMap Icell)
set_option maxHeartbeats 1000000 in
theorem clonei_any (A : Option Addr) (len cap : Nat) (l : List Int) (w : World) (hw : RowAt Icell 1 w w.heap.size A len l) (hn : A = none → cap = 0) (hl : len ≤ 17592186044416) :
    Calls Tryz.prog 20 #[.slice A len cap] w fun e w' => ∃ v, e = .returned v ∧ OwnI w' w.heap.size v l ∧ Below w.heap.size w w' := by
  have hlen := hw.len
  cases A with
  | none =>
    have h0 : len = 0 := by
      rcases Nat.eq_zero_or_pos len with h | h
      · exact h
      · obtain ⟨b, off, h, -⟩ := hw.2 h; cases h
    obtain rfl := h0
    obtain rfl := hn rfl
    obtain rfl : l = [] := List.eq_nil_of_length_eq_zero hlen
    have he := eqint_none
    go_enter Tryz.func20, Tryz.ntmps20
    go_wp2_with fail
    go_ret
    exact ⟨_, rfl, World.ownsRow_nil _ _ _ _, Below.refl _ _⟩
  | some ad =>
    obtain ⟨i0, hi, hz0, hz1, hz2⟩ := info_parts info_int
    have he := eqint_some ad len cap
    have hlen' := Lib.hid hlen
    clear hlen
    have hmade : ∀ X : World, (X.alloc (.cells #[] 3)).ownsRow X.heap.size 3 1 (.slice (some ⟨X.heap.size, 0, none⟩) 0 0) 0 [] := fun X => ⟨rfl, Or.inr ⟨_, 0, #[], rfl, Nat.le_refl _, blk_new _ _, Nat.le_refl _, Nat.zero_le _, rfl, rfl⟩⟩
    have Hmade := Lib.hid hmade
    clear hmade hn
    have hrow : ∀ X : World, Below w.heap.size w X → RowAt Icell 1 X X.heap.size (some ad) len l := fun X hX => (hw.below hX).more hX.size
    have Hrow := Lib.hid hrow
    clear hrow hw
    go_enter Tryz.func20, Tryz.ntmps20
    go_wp2_with (at_builtin; refine wpList_append_row (cells := Icell) rfl _ _ 25 rfl w.heap.size 3 i0 (.int .i64 0) 1 8 Tryz.underlying25 hi hz0 hz1 hz2 rfl (by decide) _ 0 [] rfl (Hmade.out w) (some ad) len cap _ l rfl (Hrow.out _ (bel_alloc (Below.refl _ _) _)) (fun h => by cases h) (fun _ _ => rfl) (fun y u hu => one_int y u hu) (by unfold maxLen; omega) (by omega) (by simp) ?_)
    intro v' w1 hown hg
    have Hown := Lib.hid hown
    have Hg := Lib.hid (below_grown_own (Hmade.out w) hg (by simp))
    clear hown hg
    go_wp2_with fail
    go_ret
    refine ⟨_, rfl, ?_, ?_⟩
    · have := Hown.out; rw [← hlen'.out] at this; simpa using this
    · exact ((Below.refl _ _).alloc (Nat.le_refl _) _).trans Hg.out
end
end Go.Proofs.YtcjmppjppmiggaaGreat

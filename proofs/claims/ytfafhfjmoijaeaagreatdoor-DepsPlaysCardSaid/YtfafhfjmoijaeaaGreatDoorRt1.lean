/- XKs: out of XCli XGt0 XTc1 XRg1 XRg2 XGt3 XRt1 (pick.py). -/
import Derived.Test.YtfafhfjmoijaeaaGreatDoorRt0
import Derived.Test.YtfafhfjmoijaeaaGreatDoorTkN
import Derived.Test.YtfafhfjmoijaeaaGreatDoorBk0
import Derived.Test.YtfafhfjmoijaeaaGreatDoorDx
import Derived.Test.YtfafhfjmoijaeaaGreatDoorKt
import Derived.Laws.AppendOwnNone
import Derived.Deep.QuietTactic
import Derived.BigQuiet
namespace Go.Proofs.YtfafhfjmoijaeaaGreatDoor
open Go.RowKit
set_option linter.unusedVariables false
set_option linter.unusedSimpArgs false

theorem flat_idx {α : Type} {cells : α → List Value} {size : Nat} : ∀ (xs : List α) (hs : ∀ x ∈ xs, (cells x).length = size) (j : Nat) (u : Value), (xs.flatMap cells)[j]? = some u → ∃ i x r, xs[i]? = some x ∧ (cells x)[r]? = some u ∧ j = i * size + r
  | [], _, _, _, h => by simp at h
  | y :: r, hs, j, u, h => by
    have hy := hs y (by simp)
    rw [List.flatMap_cons] at h
    by_cases hj : j < size
    · rw [List.getElem?_append_left (by omega)] at h
      exact ⟨0, y, j, rfl, h, by omega⟩
    · rw [List.getElem?_append_right (by omega), hy] at h
      obtain ⟨i, x, q, h1, h2, h3⟩ := flat_idx r (fun z hz => hs z (by simp [hz])) _ u h
      exact ⟨i + 1, x, q, by simpa using h1, h2, by rw [Nat.add_mul]; omega⟩
theorem wpList_append_row {α : Type} {cells : α → List Value} {P : Program} {w : World} {ops : Array Oper} {rest : List Oper} {o : Oper} {a : Act} {Q : Exit → Act → World → Prop} (hgd : o.guard = none) (s x : Operand) (t : TypeId)
    (ho : o.op = .call { callee := .builtin .append, args := #[s, x], argTypes := #[t, t] })
    (base : Nat) (e : TypeId) (i : TypeInfo) (z : Value) (size bytes : Nat) (ht : P.underlying t = some (.slice e)) (hi : P.info? e = some i) (hz : i.zero = some z)
    (hsize : i.size = size) (hby : i.bytes = bytes) (hzs : z.cells.size = size) (hsz : 0 < size)
    (v : Value) (n : Nat) (xs : List Value) (hs : a.eval s = v) (hown : w.ownsRow base e size v n xs)
    (Ax : Option Addr) (m c B : Nat) (ys : List α) (hx : a.eval x = .slice Ax m c) (hrow : RowAt cells size w B Ax m ys) (hnil : Ax = none → c = 0) (hys : ∀ y ∈ ys, (cells y).length = size) (h1 : ∀ y, ∀ u ∈ cells y, u.oneCell' = true)
    (h63 : n + m ≤ maxLen) (hbytes : (n + m) * bytes ≤ 140737488355328) (hbase : base ≤ w.heap.size)
    (h : ∀ v' w', w'.ownsRow base e size v' (n + m) (xs ++ ys.flatMap cells) → w.grownBy w' v.ownBlock → wpList P ops Q rest (a.put o.dst v') w') : wpList P ops Q (o :: rest) a w := by
  cases Ax with
  | none =>
    have hm : m = 0 := by
      rcases Nat.eq_zero_or_pos m with h0 | h0
      · exact h0
      · obtain ⟨b, off, hh, -⟩ := hrow.2 h0; cases hh
    subst hm
    have hc := hnil rfl
    subst hc
    have hy : ys = [] := List.eq_nil_of_length_eq_zero hrow.1
    subst hy
    exact wpList_append_own_none hgd s x t ho base e i size ht hi v n xs hs hown hx (h v w (by simpa using hown) (grownBy_refl _ _))
  | some ad =>
    refine wpList_append_own w hgd s x t ho base e i z size bytes ht hi hz hsize hby hzs hsz v n xs hs hown ad m c (ys.flatMap cells) hx (by rw [flat_len ys hys, hrow.1]) (fun j u hu => ?_) (fun u hu => ?_) h63 hbytes hbase (fun v' w' h2 h3 _ => h v' w' h2 h3)
    · obtain ⟨q, y, r, hq, hr, hj⟩ := flat_idx ys hys j u hu
      have hm : 0 < m := by
        have := (List.getElem?_eq_some_iff.1 hq).1
        have := hrow.1
        omega
      obtain ⟨b, off, he, -, hc⟩ := hrow.2 hm
      injection he with he
      subst he
      rw [Addr.add_lit, hj, ← Nat.add_assoc]
      exact hc q y hq r u hr
    · obtain ⟨y, -, hu2⟩ := List.mem_flatMap.1 hu
      exact h1 y u hu2
section
set_option maxRecDepth 100000
def nC (n : Nat) : List Value := [.int .i64 n]
theorem one_nC (x : Nat) : ∀ u ∈ nC x, u.oneCell' = true := fun u hu => by simp [nC] at hu; subst hu; rfl
theorem contains_take {l : List Nat} {n k b : Nat} (h : l[k]? = some b) : (l.take (k + 1)).contains n = ((l.take k).contains n || decide (b = n)) := by
  rw [List.take_add_one, h]
  by_cases hb : b = n
  · subst hb; simp
  · have : n ≠ b := fun e => hb e.symm
    simp [hb, this]
theorem insN_put {n b : Nat} : ∀ {xs : List Nat}, (∃ y ∈ xs, n < y) → insN n (xs ++ [b]) = insN n xs ++ [b]
  | [], h => by obtain ⟨y, hy, -⟩ := h; cases hy
  | x :: r, h => by
    simp only [List.cons_append, insN]
    by_cases hx : n < x
    · rw [if_pos hx, if_pos hx]; rfl
    · rw [if_neg hx, if_neg hx, insN_put (xs := r) (by
        obtain ⟨y, hy, hn⟩ := h
        rcases List.mem_cons.1 hy with rfl | hy
        · exact absurd hn hx
        · exact ⟨y, hy, hn⟩)]
      try rfl
theorem insN_end {n : Nat} : ∀ {xs : List Nat}, (∀ y ∈ xs, ¬ n < y) → insN n xs = xs ++ [n]
  | [], _ => rfl
  | x :: r, h => by
    simp only [insN]
    rw [if_neg (h x (by simp)), insN_end (xs := r) (fun y hy => h y (by simp [hy]))]
    try rfl
theorem insN_new {n b : Nat} : ∀ {xs : List Nat}, (∀ y ∈ xs, ¬ n < y) → n < b → insN n (xs ++ [b]) = (xs ++ [n]) ++ [b]
  | [], _, hb => by simp only [List.nil_append, insN, if_pos hb]; rfl
  | x :: r, h, hb => by
    simp only [List.cons_append, insN]
    rw [if_neg (h x (by simp)), insN_new (xs := r) (fun y hy => h y (by simp [hy])) hb]
    try rfl
/-- How far the new list is. -/
def InsAt (n : Nat) (xs : List Nat) (put : Bool) (ls : List Nat) : Prop := (put = true → (∃ y ∈ xs, n < y) ∧ ls = insN n xs) ∧ (put = false → (∀ y ∈ xs, ¬ n < y) ∧ ls = xs)
theorem InsAt.put {n b : Nat} {xs ls : List Nat} (h : InsAt n xs true ls) : InsAt n (xs ++ [b]) true (ls ++ [b]) := by
  obtain ⟨⟨y, hy, hn⟩, rfl⟩ := h.1 rfl
  exact ⟨fun _ => ⟨⟨y, by simp [hy], hn⟩, (insN_put ⟨y, hy, hn⟩).symm⟩, fun e => by cases e⟩
theorem InsAt.new {n b : Nat} {xs ls : List Nat} (h : InsAt n xs false ls) (hb : n < b) : InsAt n (xs ++ [b]) true ((ls ++ [n]) ++ [b]) := by
  obtain ⟨h1, rfl⟩ := h.2 rfl
  exact ⟨fun _ => ⟨⟨b, by simp, hb⟩, (insN_new h1 hb).symm⟩, fun e => by cases e⟩
theorem InsAt.pass {n b : Nat} {xs ls : List Nat} (h : InsAt n xs false ls) (hb : ¬ n < b) : InsAt n (xs ++ [b]) false (ls ++ [b]) := by
  obtain ⟨h1, rfl⟩ := h.2 rfl
  refine ⟨fun e => by (cases e), fun _ => ⟨fun y hy => ?_, rfl⟩⟩
  rcases List.mem_append.1 hy with hy | hy
  · exact h1 y hy
  · simp at hy; subst hy; exact hb
theorem InsAt.end_ {n : Nat} {xs ls : List Nat} {put : Bool} (h : InsAt n xs put ls) : (if put = true then ls else ls ++ [n]) = insN n xs := by
  cases put
  · obtain ⟨h1, rfl⟩ := h.2 rfl
    rw [if_neg Bool.false_ne_true, insN_end h1]
  · obtain ⟨-, rfl⟩ := h.1 rfl
    rw [if_pos rfl]
theorem insN_len (n : Nat) : ∀ l : List Nat, (insN n l).length = l.length + 1
  | [] => rfl
  | x :: r => by simp only [insN]; split <;> simp [insN_len n r]
theorem take_snoc {l : List Nat} {k b : Nat} (h : l[k]? = some b) : l.take (k + 1) = l.take k ++ [b] := by rw [List.take_add_one, h]; rfl
/-- append of one number that was just laid. -/
theorem wpList_pushI {ops : Array Oper} {rest : List Oper} {o : Oper} {a : Act} {X : World} {Q : Exit → Act → World → Prop} (hg : o.guard = none) (s x : Operand) (hop : o.op = Op.call { callee := Callee.builtin Builtin.append, args := #[s, x], argTypes := #[64, 64] })
    (B : Nat) (A : Option Addr) (n cap : Nat) (l : List Nat) (hs : a.eval s = .slice A n cap) (hT : TkAt nC 1 3 X B A n cap l) (hB : B ≤ X.heap.size) (y c : Nat) (hx : a.eval x = .slice (some ⟨X.heap.size, 0, none⟩) 1 c) (hn : n + 1 ≤ 17592186044416)
    (hK : ∀ A' cap' w', TkAt nC 1 3 w' B A' (n + 1) cap' (l ++ [y]) → Kept X w' (fun b => ∃ a, A = some a ∧ b = a.block) → FromA X A A' → wpList Tryz.prog ops Q rest (a.put o.dst (.slice A' (n + 1) cap')) w') :
    wpList Tryz.prog ops Q (o :: rest) a (X.alloc (.cells #[.int .i64 (y : Int)] 3)) := by
  obtain ⟨i0, hi, hz0, hz1, hz2⟩ := info_parts info_int
  have hb : Below X.heap.size X (X.alloc (.cells #[.int .i64 (y : Int)] 3)) := bel_alloc (Below.refl _ _) _
  refine wpList_push hg s x 64 hop 3 i0 _ 1 8 Tryz.underlying64 hi hz0 hz1 hz2 rfl (by decide) (fun _ => rfl) one_nC B A n cap l hs (hT.below hb) (Nat.le_trans hB hb.size) y ⟨X.heap.size, 0, none⟩ c hx (cells_nw X [.int .i64 (y : Int)] 3) (by simp only [maxLen]; omega) (by omega) fun A' cap' w' h1 h2 h3 => hK A' cap' w' h1 ((Kept.of_below hb).trans2 h2 fun i hi => Or.inl hi) fun ad e => ?_
  rcases h3 ad e with ⟨c', e1, e2⟩ | h4
  · exact Or.inl ⟨c', e1, e2⟩
  · exact Or.inr (Nat.le_trans hb.size h4)
def R11List (w : World) (Bo : Nat) (A : Option Addr) (l : List Nat) (e : Ending) (w' : World) : Prop :=
  ∃ A' n' c', e = .returned (.slice A' n' c') ∧ TkAt nC 1 3 w' Bo A' n' c' l ∧ Below w.heap.size w w' ∧ ∀ a, A' = some a → A' = A ∨ w.heap.size ≤ a.block
set_option maxHeartbeats 4000000 in
theorem r11with_any (Bo : Nat) (A : Option Addr) (n c : Nat) (l : List Nat) (x : Nat) (w : World) (h : TkAt nC 1 3 w Bo A n c l) (hBo : Bo ≤ w.heap.size) (hn : n ≤ 65537) :
    Calls Tryz.prog 64 #[.slice A n c, .int .i64 x] w (R11List w Bo A (withN l x)) := by
  have HR := Lib.hid h.row
  have Hlen := Lib.hid h.len
  have H := Lib.hid h
  have HBo := Lib.hid hBo
  clear h hBo
  go_enter Tryz.func64, Tryz.ntmps64
  go_wp2_with fail
  go_loopw [5, 6, 7] (fun v p i wr => ∃ (k : Nat) (put : Bool) (A' : Option Addr) (n' c' : Nat) (ls : List Nat), k ≤ n ∧ i = .int .i64 k ∧ p = .bool put ∧ v = .slice A' n' c' ∧ Hid (InsAt x (l.take k) put ls) ∧ Hid ((l.take k).contains x = false) ∧ Hid (TkAt nC 1 3 wr w.heap.size A' n' c' ls) ∧ Hid (Below w.heap.size w wr) ∧ n' ≤ 2 * k) (fun _ _ i _ => n - (RowKit.intOf i).toNat)
  case atStart => exact ⟨0, false, none, 0, 0, [], Nat.zero_le _, rfl, rfl, rfl, Lib.hid ⟨fun e => by (cases e), fun _ => ⟨by simp, by simp⟩⟩, Lib.hid (by simp), Lib.hid (TkAt.nil _ _), Lib.hid (Below.refl _ _), by omega⟩
  case round =>
    obtain ⟨k, put, A', n', c', ls, hk, rfl, rfl, rfl, HI, HC, HT, HB, hn'⟩ := hrel
    by_cases hlt : k < n
    · obtain ⟨b, off, y, rfl, hbl, hy, hyc⟩ := (HR.out.below HB.out).at_ hlt
      have y0 : wr.cell? ⟨b, off + k, none⟩ = some (.int .i64 y) := by simpa using hyc 0 _ rfl
      have Hy := Lib.hid hy
      clear hy hyc
      by_cases hyx : y = x
      · subst hyx
        go_wp2_with fail
        go_ret
        have hm : l.contains y = true := by
          simp only [List.contains_iff_mem]
          exact List.mem_of_getElem? Hy.out
        exact ⟨_, _, _, rfl, by unfold withN; rw [if_pos hm]; exact H.out.below HB.out, HB.out, fun a _ => Or.inl rfl⟩
      · have hyx' : ¬ (y : Int) = x := by omega
        cases put with
        | true =>
          go_wp2_with (first | (at_builtin; refine wpList_pushI rfl _ _ rfl w.heap.size A' n' c' _ rfl HT.out HB.out.size y 1 rfl (by omega) ?_; intro A3 c3 w3 h1 h2 h3; have HT3 := Lib.hid h1; have HB3 : Hid (Below w.heap.size w w3) := Lib.hid (HB.out.trans (h2.below HB.out.size (fun q ⟨ad, e, e2⟩ => by rw [e2]; exact (HT.out.lt e).1))); clear h1 h2 h3) | fail)
          refine ⟨⟨k + 1, true, A3, n' + 1, c3, _, by omega, by go_num, rfl, rfl, Lib.hid (by rw [take_snoc Hy.out]; exact HI.out.put), Lib.hid (by rw [contains_take Hy.out, HC.out, decide_eq_false hyx]; rfl), HT3, HB3, by omega⟩, by simp [RowKit.intOf]; omega⟩
        | false =>
          by_cases hxy : x < y
          · have hxy' : (x : Int) < y := by omega
            go_wp2_with (first | (at_builtin; refine wpList_pushI rfl _ _ rfl w.heap.size A' n' c' _ rfl HT.out HB.out.size x 1 rfl (by omega) ?_; intro A3 c3 w3 h1 h2 h3; have HT3 := Lib.hid h1; have HB3 : Hid (Below w.heap.size w w3) := Lib.hid (HB.out.trans (h2.below HB.out.size (fun q ⟨ad, e, e2⟩ => by rw [e2]; exact (HT.out.lt e).1))); clear h1 h2 h3; have y1 : w3.cell? ⟨b, off + k, none⟩ = some (.int .i64 y) := (HB3.out.cell (p := ⟨b, off + k, none⟩) hbl).trans ((HB.out.cell (p := ⟨b, off + k, none⟩) hbl).symm.trans y0)) | (at_builtin; refine wpList_pushI rfl _ _ rfl w.heap.size A3 (n' + 1) c3 _ rfl HT3.out HB3.out.size y 1 rfl (by omega) ?_; intro A4 c4 w4 h1 h2 h3; have HT4 := Lib.hid h1; have HB4 : Hid (Below w.heap.size w w4) := Lib.hid (HB3.out.trans (h2.below HB3.out.size (fun q ⟨ad, e, e2⟩ => by rw [e2]; exact (HT3.out.lt e).1))); clear h1 h2 h3) | fail)
            refine ⟨⟨k + 1, true, A4, n' + 1 + 1, c4, _, by omega, by go_num, rfl, rfl, Lib.hid (by rw [take_snoc Hy.out]; exact HI.out.new hxy), Lib.hid (by rw [contains_take Hy.out, HC.out, decide_eq_false hyx]; rfl), HT4, HB4, by omega⟩, by simp [RowKit.intOf]; omega⟩
          · have hxy' : ¬ (x : Int) < y := by omega
            go_wp2_with (first | (at_builtin; refine wpList_pushI rfl _ _ rfl w.heap.size A' n' c' _ rfl HT.out HB.out.size y 1 rfl (by omega) ?_; intro A3 c3 w3 h1 h2 h3; have HT3 := Lib.hid h1; have HB3 : Hid (Below w.heap.size w w3) := Lib.hid (HB.out.trans (h2.below HB.out.size (fun q ⟨ad, e, e2⟩ => by rw [e2]; exact (HT.out.lt e).1))); clear h1 h2 h3) | fail)
            refine ⟨⟨k + 1, false, A3, n' + 1, c3, _, by omega, by go_num, rfl, rfl, Lib.hid (by rw [take_snoc Hy.out]; exact HI.out.pass hxy), Lib.hid (by rw [contains_take Hy.out, HC.out, decide_eq_false hyx]; rfl), HT3, HB3, by omega⟩, by simp [RowKit.intOf]; omega⟩
    · obtain rfl : n = k := by omega
      have hI := HI.out
      have hC := HC.out
      rw [List.take_of_length_le (by rw [Hlen.out]; exact Nat.le_refl _)] at hI hC
      have hW : withN l x = insN x l := by unfold withN; rw [if_neg (by rw [hC]; exact Bool.false_ne_true)]
      have HW := Lib.hid hW
      have HE := Lib.hid hI.end_
      clear hI hC hW
      cases put with
      | true =>
        go_wp2_with fail
        go_ret
        refine ⟨_, _, _, rfl, ?_, HB.out, fun a ea => Or.inr (HT.out.lt ea).1⟩
        have := HE.out
        rw [if_pos trivial] at this
        rw [HW.out, ← this]; exact HT.out.more HBo.out
      | false =>
        go_wp2_with (first | (at_builtin; refine wpList_pushI rfl _ _ rfl w.heap.size A' n' c' _ rfl HT.out HB.out.size x 1 rfl (by omega) ?_; intro A3 c3 w3 h1 h2 h3; have HT3 := Lib.hid h1; have HB3 : Hid (Below w.heap.size w w3) := Lib.hid (HB.out.trans (h2.below HB.out.size (fun q ⟨ad, e, e2⟩ => by rw [e2]; exact (HT.out.lt e).1))); clear h1 h2 h3) | fail)
        go_ret
        refine ⟨_, _, _, rfl, ?_, HB3.out, fun a ea => Or.inr (HT3.out.lt ea).1⟩
        have := HE.out
        rw [if_neg Bool.false_ne_true] at this
        rw [HW.out, ← this]; exact HT3.out.more HBo.out
set_option maxHeartbeats 4000000 in
theorem r11without_any (Bo : Nat) (A : Option Addr) (n c : Nat) (l : List Nat) (x : Nat) (w : World) (h : TkAt nC 1 3 w Bo A n c l) (hBo : Bo ≤ w.heap.size) (hn : n ≤ 65537) :
    Calls Tryz.prog 69 #[.slice A n c, .int .i64 x] w (R11List w Bo A (l.filter fun b => decide (b ≠ x))) := by
  have HR := Lib.hid h.row
  have Hlen := Lib.hid h.len
  have HBo := Lib.hid hBo
  clear h hBo
  go_enter Tryz.func69, Tryz.ntmps69
  go_wp2_with fail
  go_loopw [5, 6] (fun v i wr => ∃ (k : Nat) (A' : Option Addr) (n' c' : Nat), k ≤ n ∧ i = .int .i64 k ∧ v = .slice A' n' c' ∧ Hid (TkAt nC 1 3 wr w.heap.size A' n' c' ((l.take k).filter fun b => decide (b ≠ x))) ∧ Hid (Below w.heap.size w wr) ∧ n' ≤ k) (fun _ i _ => n - (RowKit.intOf i).toNat)
  case atStart => exact ⟨0, none, 0, 0, Nat.zero_le _, rfl, rfl, Lib.hid (TkAt.nil _ _), Lib.hid (Below.refl _ _), by omega⟩
  case round =>
    obtain ⟨k, A', n', c', hk, rfl, rfl, HT, HB, hn'⟩ := hrel
    by_cases hlt : k < n
    · obtain ⟨b, off, y, rfl, hbl, hy, hyc⟩ := (HR.out.below HB.out).at_ hlt
      have y0 : wr.cell? ⟨b, off + k, none⟩ = some (.int .i64 y) := by simpa using hyc 0 _ rfl
      have Hy := Lib.hid hy
      clear hy hyc
      by_cases hyx : y = x
      · have hyx' : (y : Int) = x := by omega
        go_wp2_with fail
        refine ⟨⟨k + 1, A', n', c', by omega, by go_num, rfl, Lib.hid ?_, HB, by omega⟩, by simp [RowKit.intOf]; omega⟩
        rw [take_snoc Hy.out, List.filter_append]
        have : ([y].filter fun b => decide (b ≠ x)) = [] := by simp [hyx]
        rw [this, List.append_nil]; exact HT.out
      · have hyx' : ¬ (y : Int) = x := by omega
        go_wp2_with (first | (at_builtin; refine wpList_pushI rfl _ _ rfl w.heap.size A' n' c' _ rfl HT.out HB.out.size y 1 rfl (by omega) ?_; intro A3 c3 w3 h1 h2 h3; have HT3 := Lib.hid h1; have HB3 : Hid (Below w.heap.size w w3) := Lib.hid (HB.out.trans (h2.below HB.out.size (fun q ⟨ad, e, e2⟩ => by rw [e2]; exact (HT.out.lt e).1))); clear h1 h2 h3) | fail)
        refine ⟨⟨k + 1, A3, n' + 1, c3, by omega, by go_num, rfl, Lib.hid ?_, HB3, by omega⟩, by simp [RowKit.intOf]; omega⟩
        rw [take_snoc Hy.out, List.filter_append]
        have : ([y].filter fun b => decide (b ≠ x)) = [y] := by simp [hyx]
        rw [this]; exact HT3.out
    · obtain rfl : n = k := by omega
      go_wp2_with fail
      go_ret
      refine ⟨_, _, _, rfl, ?_, HB.out, fun a ea => Or.inr (HT.out.lt ea).1⟩
      have := HT.out
      rw [List.take_of_length_le (by rw [Hlen.out]; exact Nat.le_refl _)] at this
      exact this.more HBo.out
end
end Go.Proofs.YtfafhfjmoijaeaaGreatDoor

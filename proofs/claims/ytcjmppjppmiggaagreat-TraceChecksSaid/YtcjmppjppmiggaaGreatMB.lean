/- Lemmas and contracts of functions that statements of this seat stand on, many texts in one; each holds under the premises typed in its head. -/
import Derived.Test.YtcjmppjppmiggaaGreatM2
import Derived.Test.YtcjmppjppmiggaaGreatM3
import Derived.Test.YtcjmppjppmiggaaGreatCli
import Derived.Test.YtcjmppjppmiggaaGreatBk0
import Derived.Deep.QuietTactic
import Derived.BigQuiet
/- The document's gate, a mark and a list of those beyond it. -/
namespace Go.Proofs.YtcjmppjppmiggaaGreat
open Go.RowKit
set_option linter.unusedVariables false
set_option linter.unusedSimpArgs false

set_option maxRecDepth 100000
def nC (n : Nat) : List Value := [.int .i64 n]
theorem one_nC (x : Nat) : ∀ u ∈ nC x, u.oneCell' = true := fun u hu => by simp [nC] at hu; subst hu; rfl
structure RGAt (w : World) (Bo g : Nat) (A : Option Addr) (n c : Nat) (G : Gt) : Prop where
  ok : G.Ok
  st : w.heap[g]? = some (.cells #[.int .i64 G.mark, .slice A n c] 111 (0, 0))
  tk : TkAt nC 1 3 w Bo A n c G.bs
theorem rise_len2 {N : Nat} : ∀ {l : List Nat}, l.Pairwise (· < ·) → (∀ b ∈ l, b ≤ N) → l.length ≤ N + 1 := fun {l} h hb => by
  have := nodup_le (l := l) (l' := List.range (N + 1)) (h.imp fun h => Nat.ne_of_lt h) (fun b hm => by have := hb b hm; simp; omega)
  simpa using this
theorem RGAt.ne {w : World} {Bo g n c : Nat} {A : Option Addr} {G : Gt} (h : RGAt w Bo g A n c G) {ad : Addr} (e : A = some ad) : ad.block ≠ g := by
  obtain ⟨cs, hc⟩ := h.tk.ty e
  exact blk_ne2 hc h.st (by decide)
theorem RGAt.kept {w w' : World} {Bo g n c : Nat} {A : Option Addr} {G : Gt} {X : Nat → Prop} (h : RGAt w Bo g A n c G) (k : Kept w w' X) (hg : ¬ X g) (hA : ∀ a, A = some a → ¬ X a.block) : RGAt w' Bo g A n c G := ⟨h.ok, k.blk h.st (blk_lt h.st) hg, h.tk.kept k hA⟩
theorem r12mark_any (Bo g : Nat) (A : Option Addr) (n c : Nat) (G : Gt) (w : World) (h : RGAt w Bo g A n c G) : Calls Tryz.prog 53 #[.pointer (some ⟨g, 0, none⟩)] w fun e w' => e = .returned (.int .i64 G.mark) ∧ w = w' := by
  have c0 := blk_cell h.st 0
  clear h
  go_enter Tryz.func53, Tryz.ntmps53
  go_wp2_with fail
  go_ret
  exact ⟨rfl, rfl⟩
theorem contains_take {l : List Nat} {n k b : Nat} (h : l[k]? = some b) : (l.take (k + 1)).contains n = ((l.take k).contains n || decide (b = n)) := by
  rw [List.take_add_one, h]
  by_cases hb : b = n
  · subst hb; simp
  · have : n ≠ b := fun e => hb e.symm
    simp [hb, this]
set_option maxHeartbeats 1000000 in
theorem r12has_any (Bo g : Nat) (A : Option Addr) (n c : Nat) (G : Gt) (x : Nat) (w : World) (h : RGAt w Bo g A n c G) : Calls Tryz.prog 90 #[.pointer (some ⟨g, 0, none⟩), .int .i64 x] w fun e w' => e = .returned (.bool (G.has x)) ∧ w = w' := by
  have c0 := blk_cell h.st 0
  have c1 := blk_cell h.st 1
  have HR := Lib.hid h.tk.row
  have hlen := h.tk.len
  have Hlen := Lib.hid hlen
  have hok := h.ok.mark
  have hn : n ≤ 4398046511104 := by
    have h2 := h.ok
    have := rise_len2 h2.rise (fun b hb => (h2.lo b hb).2)
    omega
  clear h hlen
  by_cases hx : x < 1
  · have Hf : G.has x = false := by simp only [Gt.has]; have : decide (1 ≤ x) = false := by simp; omega
                                    rw [this]; rfl
    rw [Hf]
    have hx1 : ((x : Int) < 1) := by omega
    go_enter Tryz.func90, Tryz.ntmps90
    go_wp2_with fail
    go_ret
    exact ⟨rfl, rfl⟩
  · have hx1 : ¬ ((x : Int) < 1) := by omega
    have Hf : Hid (G.has x = (decide (x ≤ G.mark) || G.bs.contains x)) := Lib.hid (by simp only [Gt.has]; have : decide (1 ≤ x) = true := by simp; omega
                                                                                      rw [this, Bool.true_and])
    obtain ⟨r, hr⟩ : ∃ r, r = G.has x := ⟨_, rfl⟩
    rw [← hr] at Hf ⊢
    clear hr
    go_enter Tryz.func90, Tryz.ntmps90
    go_wp2_with fail
    go_loopw [5] (fun i wr => ∃ k : Nat, k ≤ n ∧ i = .int .i64 k ∧ w = wr ∧ Hid ((G.bs.take k).contains x = false)) (fun i _ => n - (RowKit.intOf i).toNat)
    case atStart => exact ⟨0, Nat.zero_le _, rfl, rfl, Lib.hid (by simp)⟩
    case round =>
      obtain ⟨k, hk, rfl, rfl, HC⟩ := hrel
      by_cases hlt : k < n
      · obtain ⟨b, off, y, rfl, hbl, hy, hyc⟩ := HR.out.at_ hlt
        have y0 : w.cell? ⟨b, off + k, none⟩ = some (.int .i64 y) := by simpa using hyc 0 _ rfl
        have Hy := Lib.hid hy
        clear hy hyc
        by_cases hyx : y = x
        · subst hyx
          go_wp2_with fail
          go_ret
          have h1 := contains_take (n := y) Hy.out
          have h2 : G.bs.contains y = true := by
            simp only [List.contains_iff_mem] at h1 ⊢
            exact List.mem_of_getElem? Hy.out
          have hr : r = true := by rw [Hf.out, h2, Bool.or_true]
          subst hr
          exact ⟨rfl, rfl⟩
        · have hyx' : ¬ (y : Int) = x := by omega
          go_wp2_with fail
          refine ⟨⟨k + 1, by omega, by go_num, by first | exact rfl | trivial, Lib.hid ?_⟩, by simp [RowKit.intOf]; omega⟩
          rw [contains_take Hy.out, HC.out, decide_eq_false hyx]; rfl
      · obtain rfl : k = n := by omega
        have hC := HC.out
        rw [List.take_of_length_le (by rw [Hlen.out]; exact Nat.le_refl _)] at hC
        rw [hC, Bool.or_false] at Hf
        by_cases hm : x ≤ G.mark
        · have hm' : (x : Int) ≤ G.mark := by omega
          have hr : r = true := by rw [Hf.out]; simp [hm]
          subst hr
          go_wp2_with fail
          go_ret
          exact ⟨by first | rfl | simp [hm'], rfl⟩
        · have hm' : ¬ (x : Int) ≤ G.mark := by omega
          have hr : r = false := by rw [Hf.out]; simp [hm]
          subst hr
          go_wp2_with fail
          go_ret
          exact ⟨by first | rfl | simp [hm'], rfl⟩
end Go.Proofs.YtcjmppjppmiggaaGreat

/- The document's gate: Done. -/
namespace Go.Proofs.YtcjmppjppmiggaaGreat
open Go.RowKit
set_option linter.unusedVariables false
set_option linter.unusedSimpArgs false

set_option maxRecDepth 100000
theorem insN_put {n b : Nat} : ∀ {xs : List Nat}, (∃ y ∈ xs, n < y) → insN n (xs ++ [b]) = insN n xs ++ [b]
  | [], h => by obtain ⟨y, hy, -⟩ := h; cases hy
  | x :: r, h => by
    simp only [List.cons_append, insN]
    by_cases hx : n < x
    · rw [if_pos hx, if_pos hx]; rfl
    · rw [if_neg hx, if_neg hx, insN_put (xs := r) (by
        obtain ⟨y, hy, hn⟩ := h
        rcases List.mem_cons.1 hy with rfl | hy
        · exact absurd hn hx
        · exact ⟨y, hy, hn⟩)]
      try rfl
theorem insN_end {n : Nat} : ∀ {xs : List Nat}, (∀ y ∈ xs, ¬ n < y) → insN n xs = xs ++ [n]
  | [], _ => rfl
  | x :: r, h => by
    simp only [insN]
    rw [if_neg (h x (by simp)), insN_end (xs := r) (fun y hy => h y (by simp [hy]))]
    try rfl
theorem insN_new {n b : Nat} : ∀ {xs : List Nat}, (∀ y ∈ xs, ¬ n < y) → n < b → insN n (xs ++ [b]) = (xs ++ [n]) ++ [b]
  | [], _, hb => by simp only [List.nil_append, insN, if_pos hb]; rfl
  | x :: r, h, hb => by
    simp only [List.cons_append, insN]
    rw [if_neg (h x (by simp)), insN_new (xs := r) (fun y hy => h y (by simp [hy])) hb]
    try rfl
def InsAt (n : Nat) (xs : List Nat) (put : Bool) (ls : List Nat) : Prop := (put = true → (∃ y ∈ xs, n < y) ∧ ls = insN n xs) ∧ (put = false → (∀ y ∈ xs, ¬ n < y) ∧ ls = xs)
theorem InsAt.put {n b : Nat} {xs ls : List Nat} (h : InsAt n xs true ls) : InsAt n (xs ++ [b]) true (ls ++ [b]) := by
  obtain ⟨⟨y, hy, hn⟩, rfl⟩ := h.1 rfl
  exact ⟨fun _ => ⟨⟨y, by simp [hy], hn⟩, (insN_put ⟨y, hy, hn⟩).symm⟩, fun e => by cases e⟩
theorem InsAt.new {n b : Nat} {xs ls : List Nat} (h : InsAt n xs false ls) (hb : n < b) : InsAt n (xs ++ [b]) true ((ls ++ [n]) ++ [b]) := by
  obtain ⟨h1, rfl⟩ := h.2 rfl
  exact ⟨fun _ => ⟨⟨b, by simp, hb⟩, (insN_new h1 hb).symm⟩, fun e => by cases e⟩
theorem InsAt.pass {n b : Nat} {xs ls : List Nat} (h : InsAt n xs false ls) (hb : ¬ n < b) : InsAt n (xs ++ [b]) false (ls ++ [b]) := by
  obtain ⟨h1, rfl⟩ := h.2 rfl
  refine ⟨fun e => by (cases e), fun _ => ⟨fun y hy => ?_, rfl⟩⟩
  rcases List.mem_append.1 hy with hy | hy
  · exact h1 y hy
  · simp at hy; subst hy; exact hb
theorem InsAt.end_ {n : Nat} {xs ls : List Nat} {put : Bool} (h : InsAt n xs put ls) : (if put = true then ls else ls ++ [n]) = insN n xs := by
  cases put
  · obtain ⟨h1, rfl⟩ := h.2 rfl
    rw [if_neg Bool.false_ne_true, insN_end h1]
  · obtain ⟨-, rfl⟩ := h.1 rfl
    rw [if_pos rfl]
theorem insN_len (n : Nat) : ∀ l : List Nat, (insN n l).length = l.length + 1
  | [] => rfl
  | x :: r => by simp only [insN]; split <;> simp [insN_len n r]
theorem take_snoc {l : List Nat} {k b : Nat} (h : l[k]? = some b) : l.take (k + 1) = l.take k ++ [b] := by rw [List.take_add_one, h]; rfl
theorem wpList_pushI {ops : Array Oper} {rest : List Oper} {o : Oper} {a : Act} {X : World} {Q : Exit → Act → World → Prop} (hg : o.guard = none) (s x : Operand) (hop : o.op = Op.call { callee := Callee.builtin Builtin.append, args := #[s, x], argTypes := #[25, 25] })
    (B : Nat) (A : Option Addr) (n cap : Nat) (l : List Nat) (hs : a.eval s = .slice A n cap) (hT : TkAt nC 1 3 X B A n cap l) (hB : B ≤ X.heap.size) (y c : Nat) (hx : a.eval x = .slice (some ⟨X.heap.size, 0, none⟩) 1 c) (hn : n + 1 ≤ 17592186044416)
    (hK : ∀ A' cap' w', TkAt nC 1 3 w' B A' (n + 1) cap' (l ++ [y]) → Kept X w' (fun b => ∃ a, A = some a ∧ b = a.block) → FromA X A A' → wpList Tryz.prog ops Q rest (a.put o.dst (.slice A' (n + 1) cap')) w') :
    wpList Tryz.prog ops Q (o :: rest) a (X.alloc (.cells #[.int .i64 (y : Int)] 3)) := by
  obtain ⟨i0, hi, hz0, hz1, hz2⟩ := info_parts info_int
  have hb : Below X.heap.size X (X.alloc (.cells #[.int .i64 (y : Int)] 3)) := bel_alloc (Below.refl _ _) _
  refine wpList_push hg s x 25 hop 3 i0 _ 1 8 Tryz.underlying25 hi hz0 hz1 hz2 rfl (by decide) (fun _ => rfl) one_nC B A n cap l hs (hT.below hb) (Nat.le_trans hB hb.size) y ⟨X.heap.size, 0, none⟩ c hx (cells_nw X [.int .i64 (y : Int)] 3) (by simp only [maxLen]; omega) (by omega) fun A' cap' w' h1 h2 h3 => hK A' cap' w' h1 ((Kept.of_below hb).trans2 h2 fun i hi => Or.inl hi) fun ad e => ?_
  rcases h3 ad e with ⟨c', e1, e2⟩ | h4
  · exact Or.inl ⟨c', e1, e2⟩
  · exact Or.inr (Nat.le_trans hb.size h4)
def R12End (w : World) (Bo g : Nat) (A : Option Addr) (n c : Nat) (G : Gt) (x : Nat) (e : Ending) (w' : World) : Prop :=
  ∃ A' n' c', e = .returned (.tuple #[.int .i64 (G.done x).2.1, .int .i64 (G.done x).2.2]) ∧ RGAt w' Bo g A' n' c' (G.done x).1 ∧ Kept w w' (fun b => b = g) ∧ ∀ a, A' = some a → A' = A ∨ w.heap.size ≤ a.block
set_option maxHeartbeats 4000000 in
theorem r12done_any (Bo g : Nat) (A : Option Addr) (n c : Nat) (G : Gt) (x : Nat) (w : World) (h : RGAt w Bo g A n c G) (hBo : Bo ≤ w.heap.size) : Calls Tryz.prog 72 #[.pointer (some ⟨g, 0, none⟩), .int .i64 x] w (R12End w Bo g A n c G x) := by
  by_cases hv : 1 ≤ x ∧ x ≤ 65536 ∧ G.has x = false
  · have hD : G.done x = (⟨(cas (insN x G.bs) G.mark).1, (cas (insN x G.bs) G.mark).2⟩, (cas (insN x G.bs) G.mark).1 - G.mark, 0) := by unfold Gt.done; rw [if_pos hv]
    have HOk := Lib.hid (h.ok.done x).1
    have Hle := Lib.hid (h.ok.done x).2.1
    rw [hD] at HOk Hle
    have HD := Lib.hid hD
    have hx1 : ¬ (x : Int) < 1 := by omega
    have hx2 : ¬ (65536 : Int) < x := by omega
    have Hhas := Lib.hid (r12has_any Bo g A n c G x w h)
    rw [hv.2.2] at Hhas
    have HR := Lib.hid h.tk.row
    have Hlen := Lib.hid h.tk.len
    have Hm : Hid (G.mark ≤ 65536) := Lib.hid h.ok.mark
    have hl : G.bs.length ≤ 65537 := rise_len2 h.ok.rise (fun b hb => (h.ok.lo b hb).2)
    have Hl := Lib.hid hl
    have hn : n ≤ 65537 := by rw [← h.tk.len]; exact hl
    have H := Lib.hid h
    have HBo := Lib.hid hBo
    obtain ⟨i0, hi, hz0, hz1, hz2⟩ := info_parts info_int
    have c0 := blk_cell h.st 0
    have c1 := blk_cell h.st 1
    clear hD h hl hBo
    go_enter Tryz.func72, Tryz.ntmps72
    go_wp2_with fail
    refine Hhas.out.mono ?_
    rintro e w1 ⟨rfl, rfl⟩
    go_wp2_with fail
    go_loopw [6, 7, 8] (fun v p i wr => ∃ (k : Nat) (put : Bool) (A' : Option Addr) (n' c' : Nat) (ls : List Nat), k ≤ n ∧ i = .int .i64 k ∧ p = .bool put ∧ v = .slice A' n' c' ∧ Hid (InsAt x (G.bs.take k) put ls) ∧ Hid (TkAt nC 1 3 wr w.heap.size A' n' c' ls) ∧ Hid (Below w.heap.size w wr) ∧ n' ≤ 2 * k) (fun _ _ i _ => n - (RowKit.intOf i).toNat)
    case atStart => exact ⟨0, false, none, 0, 0, [], Nat.zero_le _, rfl, rfl, rfl, Lib.hid ⟨fun e => by (cases e), fun _ => ⟨by simp, by simp⟩⟩, Lib.hid (TkAt.nil _ _), Lib.hid (Below.refl _ _), by omega⟩
    case round =>
      obtain ⟨k, put, A', n', c', ls, hk, rfl, rfl, rfl, HI, HT, HB, hn'⟩ := hrel
      have hgr := (HB.out.block _ (blk_lt H.out.st)).trans H.out.st
      have c0 := blk_cell hgr 0
      have c1 := blk_cell hgr 1
      have Hgr := Lib.hid hgr
      clear hgr
      by_cases hlt : k < n
      · obtain ⟨b, off, y, rfl, hbl, hy, hyc⟩ := (HR.out.below HB.out).at_ hlt
        have y0 : wr.cell? ⟨b, off + k, none⟩ = some (.int .i64 y) := by simpa using hyc 0 _ rfl
        have Hy := Lib.hid hy
        clear hy hyc
        cases put with
        | true =>
          go_wp2_with (first | (at_builtin; refine wpList_pushI rfl _ _ rfl w.heap.size A' n' c' _ rfl HT.out HB.out.size y 1 rfl (by omega) ?_; intro A3 c3 w3 h1 h2 h3; have HT3 := Lib.hid h1; have HB3 : Hid (Below w.heap.size w w3) := Lib.hid (HB.out.trans (h2.below HB.out.size (fun q ⟨ad, e, e2⟩ => by rw [e2]; exact (HT.out.lt e).1))); clear h1 h2 h3) | fail)
          refine ⟨⟨k + 1, true, A3, n' + 1, c3, _, by omega, by go_num, rfl, rfl, Lib.hid (by rw [take_snoc Hy.out]; exact HI.out.put), HT3, HB3, by omega⟩, by simp [RowKit.intOf]; omega⟩
        | false =>
          by_cases hxy : x < y
          · have hxy' : (x : Int) < y := by omega
            go_wp2_with (first | (at_builtin; refine wpList_pushI rfl _ _ rfl w.heap.size A' n' c' _ rfl HT.out HB.out.size x 1 rfl (by omega) ?_; intro A3 c3 w3 h1 h2 h3; have HT3 := Lib.hid h1; have HB3 : Hid (Below w.heap.size w w3) := Lib.hid (HB.out.trans (h2.below HB.out.size (fun q ⟨ad, e, e2⟩ => by rw [e2]; exact (HT.out.lt e).1))); have hg3 := (HB3.out.block _ (blk_lt H.out.st)).trans H.out.st; have c1 := blk_cell hg3 1; have y1 : w3.cell? ⟨b, off + k, none⟩ = some (.int .i64 y) := (HB3.out.cell (p := ⟨b, off + k, none⟩) hbl).trans ((HB.out.cell (p := ⟨b, off + k, none⟩) hbl).symm.trans y0); have Hg3 := Lib.hid hg3; clear hg3; clear h1 h2 h3) | (at_builtin; refine wpList_pushI rfl _ _ rfl w.heap.size A3 (n' + 1) c3 _ rfl HT3.out HB3.out.size y 1 rfl (by omega) ?_; intro A4 c4 w4 h1 h2 h3; have HT4 := Lib.hid h1; have HB4 : Hid (Below w.heap.size w w4) := Lib.hid (HB3.out.trans (h2.below HB3.out.size (fun q ⟨ad, e, e2⟩ => by rw [e2]; exact (HT3.out.lt e).1))); clear h1 h2 h3) | fail)
            refine ⟨⟨k + 1, true, A4, n' + 1 + 1, c4, _, by omega, by go_num, rfl, rfl, Lib.hid (by rw [take_snoc Hy.out]; exact HI.out.new hxy), HT4, HB4, by omega⟩, by simp [RowKit.intOf]; omega⟩
          · have hxy' : ¬ (x : Int) < y := by omega
            go_wp2_with (first | (at_builtin; refine wpList_pushI rfl _ _ rfl w.heap.size A' n' c' _ rfl HT.out HB.out.size y 1 rfl (by omega) ?_; intro A3 c3 w3 h1 h2 h3; have HT3 := Lib.hid h1; have HB3 : Hid (Below w.heap.size w w3) := Lib.hid (HB.out.trans (h2.below HB.out.size (fun q ⟨ad, e, e2⟩ => by rw [e2]; exact (HT.out.lt e).1))); clear h1 h2 h3) | fail)
            refine ⟨⟨k + 1, false, A3, n' + 1, c3, _, by omega, by go_num, rfl, rfl, Lib.hid (by rw [take_snoc Hy.out]; exact HI.out.pass hxy), HT3, HB3, by omega⟩, by simp [RowKit.intOf]; omega⟩
      · obtain rfl : n = k := by omega
        have hI := HI.out
        rw [List.take_of_length_le (by rw [Hlen.out]; exact Nat.le_refl _)] at hI
        cases put with
        | true =>
          go_wp2_with fail
          obtain ⟨ls2, hE⟩ : ∃ ls2, ls2 = insN x G.bs := ⟨_, rfl⟩
          have HE := Lib.hid hE
          have HT2 : Hid (TkAt nC 1 3 wr w.heap.size A' n' c' ls2) := Lib.hid (by rw [hE, ← (hI.1 rfl).2]; exact HT.out)
          have HG2 := Hgr
          have HK2 : Hid (Kept w wr (fun b => b = g)) := Lib.hid (Kept.of_below HB.out)
          clear hI hE HT HI c0 c1
          obtain ⟨W2, hW2⟩ : ∃ W2, W2 = wr := ⟨_, rfl⟩
          obtain ⟨A2, hA2⟩ : ∃ A2, A2 = A' := ⟨_, rfl⟩
          obtain ⟨n2, hn2⟩ : ∃ n2, n2 = n' := ⟨_, rfl⟩
          obtain ⟨c2, hc2⟩ : ∃ c2, c2 = c' := ⟨_, rfl⟩
          rw [← hW2] at HT2 HG2 HK2 HB ⊢
          rw [← hA2, ← hn2, ← hc2] at HT2
          rw [← hA2, ← hn2, ← hc2]
          clear hW2 hA2 hn2 hc2 Hgr
          have hins : Hid (ls2.length ≤ 65537 + 1) := Lib.hid (by rw [HE.out, insN_len]; have := Hl.out; omega)
          go_loopw [6, 9] (fun v cnt wr => ∃ (A' : Option Addr) (n' c' m : Nat) (ls : List Nat), v = .slice A' n' c' ∧ cnt = .int .i64 ((m : Int) - G.mark) ∧ G.mark ≤ m ∧ Hid (m + ls.length ≤ 65536 + 65538) ∧ Hid (wr.heap[g]? = some (.cells #[.int .i64 m, .slice A n c] 111 (0, 0))) ∧ Hid (TkAt nC 1 3 wr w.heap.size A' n' c' ls) ∧ Hid (cas (insN x G.bs) G.mark = cas ls m) ∧ Hid (Kept w wr (fun b => b = g))) (fun v _ _ => match v with | .slice _ n _ => n | _ => 0)
          case atStart => exact ⟨A2, n2, c2, G.mark, ls2, rfl, by congr 1; omega, Nat.le_refl _, Lib.hid (by have := Hm.out; have := hins.out; omega), HG2, HT2, Lib.hid (by rw [HE.out]), HK2⟩
          case round =>
            obtain ⟨A', n', c', m, ls, rfl, rfl, hm, HL, HG, HT, HC, HK⟩ := hrel
            have c0 := blk_cell HG.out 0
            have f0 := blk_frozen HG.out 0
            have f1 := blk_frozen HG.out 1
            have c1 := blk_cell HG.out 1
            have hmb : m ≤ 131074 := by have := HL.out; omega
            cases ls with
            | nil =>
              obtain rfl : n' = 0 := by rw [← HT.out.len]; rfl
              have hq0 : decide ((0 : Int) < 0) = false := by decide
              have HC2 : Hid (cas (insN x G.bs) G.mark = (m, [])) := Lib.hid HC.out
              go_wp2_with fail
              go_quiet (fail)
              go_wp2_with fail
              go_ret2
              have hC := HC2.out
              have e9 : ((m - G.mark : Nat) : Int) = (m : Int) - G.mark := by omega
              have hk9 : ∀ u, Kept wr ((wr.drewN nq).setCell ⟨g, 1, none⟩ u) (fun b => b = g) := fun u => ((Kept.refl wr (fun b => b = g)).drewN nq).setCell (p := ⟨g, 1, none⟩) (Or.inl rfl) u
              refine ⟨A', 0, c', ?_, ⟨?_, ?_, ?_⟩, HK.out.trans (hk9 _), ?_⟩
              · show Ending.returned (.tuple #[.int .i64 ((m : Int) - G.mark), .int .i64 0]) = _
                rw [HD.out, hC]
                show _ = Ending.returned (.tuple #[.int .i64 ((m - G.mark : Nat) : Int), .int .i64 0])
                rw [e9]
              · rw [HD.out]; exact HOk.out
              · rw [HD.out, hC]; exact blk_set (w := wr.drewN nq) HG.out 1 _
              · rw [HD.out, hC]
                exact (HT.out.more HBo.out).kept (hk9 _) (fun ad ea => by
                  obtain ⟨cs, hcs⟩ := HT.out.ty ea
                  exact blk_ne2 hcs HG.out (by decide))
              · exact fun ad ea => Or.inr (HT.out.lt ea).1
            | cons y r =>
              obtain ⟨q, rfl⟩ : ∃ q, n' = q + 1 := ⟨r.length, by rw [← HT.out.len]; rfl⟩
              obtain ⟨b, off, y', rfl, hbl, hx, hc⟩ := HT.out.row.at_ (i := 0) (by omega)
              have hy : y' = y := by simp at hx; exact hx.symm
              subst hy
              have x0 : wr.cell? ⟨b, off, none⟩ = some (.int .i64 y') := by
                have := hc 0 _ rfl
                simpa only [Nat.zero_mul, Nat.add_zero] using this
              have hpos : (0 : Int) < (q : Int) + 1 := by omega
              have hq0 : decide ((0 : Int) < (q : Int) + 1) = true := decide_eq_true hpos
              have hwm : IntKind.i64.wrap ((m : Int) + 1) = (m : Int) + 1 := by rw [IntKind.wrap_i64]; omega
              clear hx hc
              by_cases hym : y' = m + 1
              · have hym' : (y' : Int) = (m : Int) + 1 := by omega
                have hq1 : ((y' : Int) == (m : Int) + 1) = true := by simpa using hym'
                go_wp2_with fail
                go_quiet (fail)
                go_wp2_with fail
                have hne : b ≠ g := by
                  obtain ⟨cs, hcs⟩ := HT.out.ty rfl
                  exact blk_ne2 hcs HG.out (by decide)
                have hk9 : Kept wr ((wr.drewN nq).setCell ⟨g, 0, none⟩ (.int .i64 ((m : Int) + 1))) (fun b => b = g) := ((Kept.refl wr (fun b => b = g)).drewN nq).setCell (p := ⟨g, 0, none⟩) (Or.inl rfl) _
                refine ⟨⟨_, _, _, m + 1, r, rfl, by congr 1; omega, by omega, Lib.hid (by have := HL.out; simp only [List.length_cons] at this; omega), Lib.hid (blk_set (w := wr.drewN nq) HG.out 0 _), Lib.hid (HT.out.pop.kept hk9 ?_), Lib.hid (by have := HC.out; rw [cas, if_pos hym] at this; exact this), Lib.hid (HK.out.trans hk9)⟩, Nat.lt_succ_self q⟩
                intro ad ea
                split at ea
                · injection ea with ea; subst ea; exact hne
                · injection ea with ea; subst ea; exact hne
              · have hym' : ¬ (y' : Int) = (m : Int) + 1 := by omega
                have hq1 : ((y' : Int) == (m : Int) + 1) = false := by simpa using hym'
                have HC2 : Hid (cas (insN x G.bs) G.mark = (m, y' :: r)) := Lib.hid (by have := HC.out; rw [cas, if_neg hym] at this; exact this)
                go_wp2_with fail
                go_quiet (fail)
                go_wp2_with fail
                go_ret2
                have hC := HC2.out
                have e9 : ((m - G.mark : Nat) : Int) = (m : Int) - G.mark := by omega
                have hk9 : ∀ u, Kept wr ((wr.drewN nq).setCell ⟨g, 1, none⟩ u) (fun b => b = g) := fun u => ((Kept.refl wr (fun b => b = g)).drewN nq).setCell (p := ⟨g, 1, none⟩) (Or.inl rfl) u
                refine ⟨some ⟨b, off, none⟩, q + 1, c', ?_, ⟨?_, ?_, ?_⟩, HK.out.trans (hk9 _), ?_⟩
                · show Ending.returned (.tuple #[.int .i64 ((m : Int) - G.mark), .int .i64 0]) = _
                  rw [HD.out, hC]
                  show _ = Ending.returned (.tuple #[.int .i64 ((m - G.mark : Nat) : Int), .int .i64 0])
                  rw [e9]
                · rw [HD.out]; exact HOk.out
                · rw [HD.out, hC]; exact blk_set (w := wr.drewN nq) HG.out 1 _
                · rw [HD.out, hC]
                  exact (HT.out.more HBo.out).kept (hk9 _) (fun ad ea => by
                    obtain ⟨cs, hcs⟩ := HT.out.ty ea
                    exact blk_ne2 hcs HG.out (by decide))
                · exact fun ad ea => Or.inr (HT.out.lt ea).1
        | false =>
          go_wp2_with (first | (at_builtin; refine wpList_pushI rfl _ _ rfl w.heap.size A' n' c' _ rfl HT.out HB.out.size x 1 rfl (by omega) ?_; intro A3 c3 w3 h1 h2 h3; have HT3 := Lib.hid h1; have HB3 : Hid (Below w.heap.size w w3) := Lib.hid (HB.out.trans (h2.below HB.out.size (fun q ⟨ad, e, e2⟩ => by rw [e2]; exact (HT.out.lt e).1))); clear h1 h2 h3) | fail)
          obtain ⟨ls2, hE⟩ : ∃ ls2, ls2 = insN x G.bs := ⟨_, rfl⟩
          have HE := Lib.hid hE
          have HT2 : Hid (TkAt nC 1 3 w3 w.heap.size A3 (n' + 1) c3 ls2) := Lib.hid (by
            have := hI.end_
            rw [if_neg Bool.false_ne_true] at this
            rw [hE, ← this]; exact HT3.out)
          have HG2 := Lib.hid ((HB3.out.block _ (blk_lt H.out.st)).trans H.out.st)
          have HK2 : Hid (Kept w w3 (fun b => b = g)) := Lib.hid (Kept.of_below HB3.out)
          clear hI hE HT HI c0 c1 HT3 Hgr HB
          obtain ⟨n2, hn2⟩ : ∃ n2, n2 = n' + 1 := ⟨_, rfl⟩
          rw [← hn2] at HT2 ⊢
          obtain ⟨W2, hW2⟩ : ∃ W2, W2 = w3 := ⟨_, rfl⟩
          obtain ⟨A2, hA2⟩ : ∃ A2, A2 = A3 := ⟨_, rfl⟩
          obtain ⟨c2, hc2⟩ : ∃ c2, c2 = c3 := ⟨_, rfl⟩
          rw [← hW2] at HT2 HG2 HK2 HB3 ⊢
          rw [← hA2, ← hc2] at HT2
          rw [← hA2, ← hc2]
          clear hW2 hA2 hc2 hn2
          have hins : Hid (ls2.length ≤ 65537 + 1) := Lib.hid (by rw [HE.out, insN_len]; have := Hl.out; omega)
          go_loopw [6, 9] (fun v cnt wr => ∃ (A' : Option Addr) (n' c' m : Nat) (ls : List Nat), v = .slice A' n' c' ∧ cnt = .int .i64 ((m : Int) - G.mark) ∧ G.mark ≤ m ∧ Hid (m + ls.length ≤ 65536 + 65538) ∧ Hid (wr.heap[g]? = some (.cells #[.int .i64 m, .slice A n c] 111 (0, 0))) ∧ Hid (TkAt nC 1 3 wr w.heap.size A' n' c' ls) ∧ Hid (cas (insN x G.bs) G.mark = cas ls m) ∧ Hid (Kept w wr (fun b => b = g))) (fun v _ _ => match v with | .slice _ n _ => n | _ => 0)
          case atStart => exact ⟨A2, n2, c2, G.mark, ls2, rfl, by congr 1; omega, Nat.le_refl _, Lib.hid (by have := Hm.out; have := hins.out; omega), HG2, HT2, Lib.hid (by rw [HE.out]), HK2⟩
          case round =>
            obtain ⟨A', n', c', m, ls, rfl, rfl, hm, HL, HG, HT, HC, HK⟩ := hrel
            have c0 := blk_cell HG.out 0
            have f0 := blk_frozen HG.out 0
            have f1 := blk_frozen HG.out 1
            have c1 := blk_cell HG.out 1
            have hmb : m ≤ 131074 := by have := HL.out; omega
            cases ls with
            | nil =>
              obtain rfl : n' = 0 := by rw [← HT.out.len]; rfl
              have hq0 : decide ((0 : Int) < 0) = false := by decide
              have HC2 : Hid (cas (insN x G.bs) G.mark = (m, [])) := Lib.hid HC.out
              go_wp2_with fail
              go_quiet (fail)
              go_wp2_with fail
              go_ret2
              have hC := HC2.out
              have e9 : ((m - G.mark : Nat) : Int) = (m : Int) - G.mark := by omega
              have hk9 : ∀ u, Kept wr ((wr.drewN nq).setCell ⟨g, 1, none⟩ u) (fun b => b = g) := fun u => ((Kept.refl wr (fun b => b = g)).drewN nq).setCell (p := ⟨g, 1, none⟩) (Or.inl rfl) u
              refine ⟨A', 0, c', ?_, ⟨?_, ?_, ?_⟩, HK.out.trans (hk9 _), ?_⟩
              · show Ending.returned (.tuple #[.int .i64 ((m : Int) - G.mark), .int .i64 0]) = _
                rw [HD.out, hC]
                show _ = Ending.returned (.tuple #[.int .i64 ((m - G.mark : Nat) : Int), .int .i64 0])
                rw [e9]
              · rw [HD.out]; exact HOk.out
              · rw [HD.out, hC]; exact blk_set (w := wr.drewN nq) HG.out 1 _
              · rw [HD.out, hC]
                exact (HT.out.more HBo.out).kept (hk9 _) (fun ad ea => by
                  obtain ⟨cs, hcs⟩ := HT.out.ty ea
                  exact blk_ne2 hcs HG.out (by decide))
              · exact fun ad ea => Or.inr (HT.out.lt ea).1
            | cons y r =>
              obtain ⟨q, rfl⟩ : ∃ q, n' = q + 1 := ⟨r.length, by rw [← HT.out.len]; rfl⟩
              obtain ⟨b, off, y', rfl, hbl, hx, hc⟩ := HT.out.row.at_ (i := 0) (by omega)
              have hy : y' = y := by simp at hx; exact hx.symm
              subst hy
              have x0 : wr.cell? ⟨b, off, none⟩ = some (.int .i64 y') := by
                have := hc 0 _ rfl
                simpa only [Nat.zero_mul, Nat.add_zero] using this
              have hpos : (0 : Int) < (q : Int) + 1 := by omega
              have hq0 : decide ((0 : Int) < (q : Int) + 1) = true := decide_eq_true hpos
              have hwm : IntKind.i64.wrap ((m : Int) + 1) = (m : Int) + 1 := by rw [IntKind.wrap_i64]; omega
              clear hx hc
              by_cases hym : y' = m + 1
              · have hym' : (y' : Int) = (m : Int) + 1 := by omega
                have hq1 : ((y' : Int) == (m : Int) + 1) = true := by simpa using hym'
                go_wp2_with fail
                go_quiet (fail)
                go_wp2_with fail
                have hne : b ≠ g := by
                  obtain ⟨cs, hcs⟩ := HT.out.ty rfl
                  exact blk_ne2 hcs HG.out (by decide)
                have hk9 : Kept wr ((wr.drewN nq).setCell ⟨g, 0, none⟩ (.int .i64 ((m : Int) + 1))) (fun b => b = g) := ((Kept.refl wr (fun b => b = g)).drewN nq).setCell (p := ⟨g, 0, none⟩) (Or.inl rfl) _
                refine ⟨⟨_, _, _, m + 1, r, rfl, by congr 1; omega, by omega, Lib.hid (by have := HL.out; simp only [List.length_cons] at this; omega), Lib.hid (blk_set (w := wr.drewN nq) HG.out 0 _), Lib.hid (HT.out.pop.kept hk9 ?_), Lib.hid (by have := HC.out; rw [cas, if_pos hym] at this; exact this), Lib.hid (HK.out.trans hk9)⟩, Nat.lt_succ_self q⟩
                intro ad ea
                split at ea
                · injection ea with ea; subst ea; exact hne
                · injection ea with ea; subst ea; exact hne
              · have hym' : ¬ (y' : Int) = (m : Int) + 1 := by omega
                have hq1 : ((y' : Int) == (m : Int) + 1) = false := by simpa using hym'
                have HC2 : Hid (cas (insN x G.bs) G.mark = (m, y' :: r)) := Lib.hid (by have := HC.out; rw [cas, if_neg hym] at this; exact this)
                go_wp2_with fail
                go_quiet (fail)
                go_wp2_with fail
                go_ret2
                have hC := HC2.out
                have e9 : ((m - G.mark : Nat) : Int) = (m : Int) - G.mark := by omega
                have hk9 : ∀ u, Kept wr ((wr.drewN nq).setCell ⟨g, 1, none⟩ u) (fun b => b = g) := fun u => ((Kept.refl wr (fun b => b = g)).drewN nq).setCell (p := ⟨g, 1, none⟩) (Or.inl rfl) u
                refine ⟨some ⟨b, off, none⟩, q + 1, c', ?_, ⟨?_, ?_, ?_⟩, HK.out.trans (hk9 _), ?_⟩
                · show Ending.returned (.tuple #[.int .i64 ((m : Int) - G.mark), .int .i64 0]) = _
                  rw [HD.out, hC]
                  show _ = Ending.returned (.tuple #[.int .i64 ((m - G.mark : Nat) : Int), .int .i64 0])
                  rw [e9]
                · rw [HD.out]; exact HOk.out
                · rw [HD.out, hC]; exact blk_set (w := wr.drewN nq) HG.out 1 _
                · rw [HD.out, hC]
                  exact (HT.out.more HBo.out).kept (hk9 _) (fun ad ea => by
                    obtain ⟨cs, hcs⟩ := HT.out.ty ea
                    exact blk_ne2 hcs HG.out (by decide))
                · exact fun ad ea => Or.inr (HT.out.lt ea).1
  · have hD : G.done x = (G, 0, 1) := by unfold Gt.done; rw [if_neg hv]
    have hfin : ∀ (w' : World), w = w' → R12End w Bo g A n c G x (.returned (.tuple #[.int .i64 0, .int .i64 1])) w' := fun w' e => by
      subst e
      exact ⟨A, n, c, by rw [hD]; rfl, by rw [hD]; exact h, Kept.refl _ _, fun a _ => Or.inl rfl⟩
    have Hf := Lib.hid hfin
    have Hhas := Lib.hid (r12has_any Bo g A n c G x w h)
    obtain ⟨q, hq⟩ : ∃ q, q = G.has x := ⟨_, rfl⟩
    rw [← hq] at Hhas hv
    clear hfin hD h hq
    by_cases h1 : x < 1
    · have hx1 : (x : Int) < 1 := by omega
      go_enter Tryz.func72, Tryz.ntmps72
      go_wp2_with fail
      go_ret2
      exact Hf.out _ rfl
    · have hx1 : ¬ (x : Int) < 1 := by omega
      by_cases h2 : x ≤ 65536
      · have hx2 : ¬ (65536 : Int) < x := by omega
        have hq : q = true := by cases q; exact absurd ⟨by omega, h2, rfl⟩ hv; rfl
        subst hq
        go_enter Tryz.func72, Tryz.ntmps72
        go_wp2_with fail
        refine Hhas.out.mono ?_
        rintro e w1 ⟨rfl, rfl⟩
        go_wp2_with fail
        go_ret2
        exact Hf.out _ rfl
      · have hx2 : (65536 : Int) < x := by omega
        go_enter Tryz.func72, Tryz.ntmps72
        go_wp2_with fail
        go_ret2
        exact Hf.out _ rfl
end Go.Proofs.YtcjmppjppmiggaaGreat

/- The document's gate: New. -/

namespace Go.Proofs.YtcjmppjppmiggaaGreat
open Go.RowKit
set_option linter.unusedVariables false
set_option linter.unusedSimpArgs false

set_option maxRecDepth 100000
theorem tk_nat {w : World} {B n c : Nat} {A : Option Addr} {bs : List Nat} (h : TkAt Icell 1 3 w B A n c (ints bs)) : TkAt nC 1 3 w B A n c bs := by
  obtain ⟨h1, h2, ⟨h3, h4⟩ | ⟨g', o', cur, h3, h4, h5, h6, h7⟩⟩ := h
  · exact ⟨by simpa [ints] using h1, h2, Or.inl ⟨h3, h4⟩⟩
  · exact ⟨by simpa [ints] using h1, h2, Or.inr ⟨g', o', cur, h3, h4, h5, h6, fun i x hi k u hu => h7 i (x : Int) (by simp [ints, hi]) k u hu⟩⟩
set_option maxHeartbeats 2000000 in
theorem r12may_any (mark : Nat) (A : Option Addr) (n c : Nat) (bs : List Nat) (w : World) (hw : RowAt Icell 1 w w.heap.size A n (ints bs)) (ok : (⟨mark, bs⟩ : Gt).Ok) : Calls Tryz.prog 47 #[.int .i64 mark, .slice A n c] w fun e w' => e = .returned (.bool true) ∧ Below w.heap.size w w' := by
  have hm := ok.mark
  simp only at hm
  have e1 : ¬ (mark : Int) < 0 := by omega
  have e2 : ¬ (65536 : Int) < mark := by omega
  have Hw := Lib.hid hw
  have Hok := Lib.hid ok
  have hlen := hw.len
  simp only [ints, List.length_map] at hlen
  have hn : n ≤ 65537 := by rw [← hlen]; exact rise_len2 ok.rise (fun b hb => (ok.lo b hb).2)
  have Hlen := Lib.hid hlen
  clear hw ok hlen
  go_enter Tryz.func47, Tryz.ntmps47
  go_wp2_with fail
  go_loopw [5] (fun i wr => ∃ k : Nat, k ≤ n ∧ i = .int .i64 k ∧ Hid (Below w.heap.size w wr)) (fun i _ => n - (RowKit.intOf i).toNat)
  case atStart => exact ⟨0, Nat.zero_le _, rfl, Lib.hid (Below.refl _ _)⟩
  case round =>
    obtain ⟨k, hk, rfl, HB⟩ := hrel
    by_cases hlt : k < n
    · obtain ⟨b, off, y', rfl, hbl, hy', hyc⟩ := (Hw.out.below HB.out).at_ hlt
      have hkb : k < bs.length := by rw [Hlen.out]; exact hlt
      obtain ⟨y, hy⟩ : ∃ y, bs[k]? = some y := ⟨_, List.getElem?_eq_getElem hkb⟩
      obtain rfl : y' = (y : Int) := by simp only [ints, List.getElem?_map, hy, Option.map_some, Option.some.injEq] at hy'; exact hy'.symm
      have y0 : wr.cell? ⟨b, off + k, none⟩ = some (.int .i64 y) := by simpa using hyc 0 _ rfl
      have hlo := Hok.out.lo y (List.mem_of_getElem? hy)
      simp only at hlo
      have d1 : decide ((y : Int) < (mark : Int) + 2) = false := decide_eq_false (by omega)
      have d2 : decide ((65536 : Int) < (y : Int)) = false := decide_eq_false (by omega)
      have hwm : IntKind.i64.wrap ((mark : Int) + 2) = (mark : Int) + 2 := by rw [IntKind.wrap_i64]; omega
      have hi0 : (0 : Int) ≤ (k : Int) := by omega
      have hi1 : (k : Int) < (n : Int) := by omega
      by_cases hk0 : k = 0
      · have d3 : decide ((0 : Int) < (k : Int)) = false := decide_eq_false (by omega)
        have d3' : decide (0 < k) = false := decide_eq_false (by omega)
        clear hy hyc hy' hk0
        go_wp2_with fail
        go_quiet (fail)
        go_wp2_with fail
        exact ⟨⟨k + 1, by omega, by go_num, Lib.hid (below_drewN HB.out _)⟩, by simp [RowKit.intOf]; omega⟩
      · obtain ⟨q, rfl⟩ : ∃ q, k = q + 1 := ⟨k - 1, by omega⟩
        obtain ⟨z, hz⟩ : ∃ z, bs[q]? = some z := ⟨_, List.getElem?_eq_getElem (by omega)⟩
        have hzy : z < y := by
          obtain ⟨hj1, rfl⟩ := List.getElem?_eq_some_iff.1 hz
          obtain ⟨hk1, rfl⟩ := List.getElem?_eq_some_iff.1 hy
          exact List.pairwise_iff_getElem.1 Hok.out.rise q (q + 1) hj1 hk1 (by omega)
        obtain ⟨b2, off2, z', eb, -, hz', hzc⟩ := (Hw.out.below HB.out).at_ (i := q) (by omega)
        injection eb with eb
        injection eb with eb1 eb2
        subst eb1 eb2
        obtain rfl : z' = (z : Int) := by simp only [ints, List.getElem?_map, hz, Option.map_some, Option.some.injEq] at hz'; exact hz'.symm
        have z0 : wr.cell? ⟨b, off + q, none⟩ = some (.int .i64 z) := by simpa using hzc 0 _ rfl
        have d3 : decide ((0 : Int) < ((q + 1 : Nat) : Int)) = true := decide_eq_true (by omega)
        have d4 : decide ((y : Int) ≤ (z : Int)) = false := decide_eq_false (by omega)
        have hq1 : IntKind.i64.wrap (((q + 1 : Nat) : Int) - 1) = ((q : Nat) : Int) := by rw [IntKind.wrap_i64]; omega
        have hj0 : (0 : Int) ≤ (q : Int) := by omega
        have hj1 : (q : Int) < (n : Int) := by omega
        clear hy hyc hy' hz hzc hz'
        go_wp2_with fail
        go_quiet (fail)
        go_wp2_with fail
        exact ⟨⟨q + 1 + 1, by omega, by go_num, Lib.hid (below_drewN HB.out _)⟩, by simp [RowKit.intOf]; omega⟩
    · obtain rfl : n = k := by omega
      go_wp2_with fail
      go_ret
      exact ⟨rfl, HB.out⟩
def R12New (w : World) (mark : Nat) (bs : List Nat) (e : Ending) (w' : World) : Prop :=
  ∃ g A' n' c', e = .returned (.tuple #[.pointer (some ⟨g, 0, none⟩), .int .i64 0]) ∧ RGAt w' w.heap.size g A' n' c' ⟨mark, bs⟩ ∧ w.heap.size ≤ g ∧ Below w.heap.size w w'
set_option maxHeartbeats 2000000 in
theorem r12new_any (mark : Nat) (A : Option Addr) (n c : Nat) (bs : List Nat) (w : World) (hw : RowAt Icell 1 w w.heap.size A n (ints bs)) (hnil : A = none → c = 0) (ok : (⟨mark, bs⟩ : Gt).Ok) :
    Calls Tryz.prog 27 #[.int .i64 mark, .slice A n c] w (R12New w mark bs) := by
  have Hw := Lib.hid hw
  have Hok := Lib.hid ok
  have Hnil := Lib.hid hnil
  have hlen := hw.len
  simp only [ints, List.length_map] at hlen
  have hn : n ≤ 65537 := by rw [← hlen]; exact rise_len2 ok.rise (fun b hb => (ok.lo b hb).2)
  have Hlen := Lib.hid hlen
  obtain ⟨i0, hi, hz0, hz1, hz2⟩ := info_parts info_int
  clear hw ok hnil hlen
  go_enter Tryz.func27, Tryz.ntmps27
  go_wp2_with fail
  refine (r12may_any mark A n c bs w Hw.out Hok.out).mono ?_
  rintro e w1 ⟨rfl, hb1⟩
  have HB1 := Lib.hid hb1
  have Hw1 := Lib.hid ((Hw.out.below hb1).more hb1.size)
  have Hnl : Hid (w1.ownsRow w1.heap.size 3 1 (.slice none 0 0) 0 []) := Lib.hid (World.ownsRow_nil _ _ _ _)
  clear hb1
  go_wp2_with (first
    | (at_builtin; refine wpList_append_row (cells := Icell) rfl _ _ 25 rfl w1.heap.size 3 i0 _ 1 8 Tryz.underlying25 hi hz0 hz1 hz2 rfl (by decide) (.slice none 0 0) 0 [] rfl Hnl.out A n c _ (ints bs) rfl Hw1.out Hnil.out (fun _ _ => rfl) (fun y u hu => one_int y u hu) (by unfold maxLen; omega) (by omega) (Nat.le_refl _) ?_; intro v1 w2 hown hg; have hb2 := below_grown_own Hnl.out hg (Nat.le_refl _); have hown3 : w2.ownsRow w1.heap.size 3 1 v1 (ints bs).length ((ints bs).flatMap Icell) := (by have e9 : (ints bs).length = 0 + n := (by simp only [ints, List.length_map]; rw [Hlen.out]; omega); rw [e9]; simpa using hown); obtain ⟨A6, c6, hv6, -, hT6⟩ := TkAt.own (cells := Icell) (fun _ _ => rfl) hown3 HB1.out.size; subst hv6; have HT6 := Lib.hid hT6; have HB2 : Hid (Below w.heap.size w w2) := Lib.hid (HB1.out.trans (hb2.mono HB1.out.size)); clear hown hg hown3 hT6 hb2)
    | fail)
  go_ret2
  have hz2' := HB2.out.size
  refine ⟨w2.heap.size, _, _, _, rfl, ⟨Hok.out, blk_new _ _, tk_nat (HT6.out.below (bel_alloc (Below.refl _ _) _))⟩, hz2', HB2.out.trans ((bel_alloc (Below.refl _ _) _).mono hz2')⟩
end Go.Proofs.YtcjmppjppmiggaaGreat


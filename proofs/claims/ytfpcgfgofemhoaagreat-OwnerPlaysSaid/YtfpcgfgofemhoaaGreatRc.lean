/- towpathref15: Serve. -/
import Derived.Test.YtfpcgfgofemhoaaGreatRb
import Derived.Test.YtfpcgfgofemhoaaGreatOw9
import Derived.Test.YtfpcgfgofemhoaaGreatPX
import Derived.Deep.RegionHeld3
namespace Go.Proofs.YtfpcgfgofemhoaaGreat
open Go.RowKit
set_option linter.unusedVariables false
set_option linter.unusedSimpArgs false

set_option maxRecDepth 100000
/-- While a request is served: the document's owner, the request's own row, the reply's row. -/
structure SvR (w W : World) (Bo x s : Nat) (A0 : Option Addr) (n0 : Nat) (A : Option Addr) (n cap : Nat) (L : Hs) (qn : Nat) (Wq : Option Addr) (wn wc : Nat) (q : List Rq) (g4 g6 : Nat) (r : Rq) (cs : Array Value) : Prop where
  rx : RxAt W Bo x s A n cap L qn Wq wn wc q
  kp : Kept w W (fun b => b = x ∨ b = s ∨ ∃ a, A0 = some a ∧ 0 < n0 ∧ b = a.block)
  fr : ∀ a, A = some a → 0 < n → (A = A0 ∧ 0 < n0) ∨ w.heap.size ≤ a.block
  n4 : W.heap[g4]? = some (.cells r.cells.toArray 36 (0, 0))
  r6 : W.heap[g6]? = some (.cells cs 56 (0, 0))
  z0 : W.heap[w.heap.size]? = some (.cells respZ 56 (0, 0))
  l4 : w.heap.size < g4
  l6 : w.heap.size < g6
  lx : x < w.heap.size ∧ s < w.heap.size ∧ Bo ≤ w.heap.size
section
variable {w W W' : World} {Bo x s n0 n n' cap cap' qn wn wc g4 g6 : Nat} {A0 A A' Wq : Option Addr} {L L' : Hs} {q : List Rq} {r : Rq} {cs : Array Value}
theorem SvR.below (h : SvR w W Bo x s A0 n0 A n cap L qn Wq wn wc q g4 g6 r cs) (hb : Below W.heap.size W W') : SvR w W' Bo x s A0 n0 A n cap L qn Wq wn wc q g4 g6 r cs :=
  ⟨h.rx.below hb, h.kp.trans (Kept.of_below hb), h.fr, (hb.block _ (blk_lt h.n4)).trans h.n4, (hb.block _ (blk_lt h.r6)).trans h.r6, (hb.block _ (blk_lt h.z0)).trans h.z0, h.l4, h.l6, h.lx⟩
theorem SvR.ne4 (h : SvR w W Bo x s A0 n0 A n cap L qn Wq wn wc q g4 g6 r cs) : g4 ≠ g6 := blk_ne h.n4 h.r6 (by decide)
/-- A block of a reply, one above the beginning, is written over. -/
theorem RxAt.far {g : Nat} {c1 : Array Value} (h : RxAt W Bo x s A n cap L qn Wq wn wc q) (hg : W.heap[g]? = some (.cells c1 56 (0, 0))) (hB : Bo ≤ g) (k : Kept W W' (fun b => b = g)) : RxAt W' Bo x s A n cap L qn Wq wn wc q :=
  h.kept k (fun b hb => by
    subst hb
    refine ⟨blk_ne hg h.hx (by decide), blk_ne hg h.sh.blk (by decide), fun cs fr hc => blk_ne hg hc (by decide) rfl, fun a e hn => ?_, fun a e => ?_, hB⟩
    · obtain ⟨cs', hc⟩ := h.sh.tyA e hn
      exact blk_ne hg hc (by decide)
    · obtain ⟨cs', hc⟩ := h.tk.ty e
      exact blk_ne hg hc (by decide))
theorem SvR.set6 (h : SvR w W Bo x s A0 n0 A n cap L qn Wq wn wc q g4 g6 r cs) (i : Nat) (u : Value) : SvR w (W.setCell ⟨g6, i, none⟩ u) Bo x s A0 n0 A n cap L qn Wq wn wc q g4 g6 r (cs.setIfInBounds i u) := by
  have k : Kept W (W.setCell ⟨g6, i, none⟩ u) (fun b => b = g6) := Kept.setCell (X := fun b => b = g6) (Kept.refl _ _) (p := ⟨g6, i, none⟩) (Or.inl rfl) _
  have := h.l6
  refine ⟨h.rx.far h.r6 (by have := h.lx; omega) k, h.kp.setCell (p := ⟨g6, i, none⟩) (Or.inr (by show w.heap.size ≤ g6; omega)) _, h.fr, k.blk h.n4 (blk_lt h.n4) h.ne4, blk_set h.r6 i u, k.blk h.z0 (blk_lt h.z0) (by omega), h.l4, h.l6, h.lx⟩
/-- The shard has changed. -/
theorem SvR.shard (h : SvR w W Bo x s A0 n0 A n cap L qn Wq wn wc q g4 g6 r cs) (hs : RsAt W' s A' n' cap' L') (k : Kept W W' (fun b => b = s ∨ ∃ a, A = some a ∧ 0 < n ∧ b = a.block)) (hf : ∀ a, A' = some a → 0 < n' → (A' = A ∧ 0 < n) ∨ W.heap.size ≤ a.block) :
    SvR w W' Bo x s A0 n0 A' n' cap' L' qn Wq wn wc q g4 g6 r cs := by
  have hty : ∀ b, (b = s ∨ ∃ a, A = some a ∧ 0 < n ∧ b = a.block) → ∃ c1 t1, W.heap[b]? = some (.cells c1 t1 (0, 0)) ∧ (t1 = 114 ∨ t1 = 70) := fun b hb => by
    rcases hb with rfl | ⟨a, e, hn, rfl⟩
    · exact ⟨_, _, h.rx.sh.blk, Or.inl rfl⟩
    · obtain ⟨c1, hc⟩ := h.rx.sh.tyA e hn
      exact ⟨c1, _, hc, Or.inr rfl⟩
  have hne : ∀ b, (b = s ∨ ∃ a, A = some a ∧ 0 < n ∧ b = a.block) → ∀ (g : Nat) (c2 : Array Value) (t2 : TypeId), W.heap[g]? = some (.cells c2 t2 (0, 0)) → t2 ≠ 114 → t2 ≠ 70 → g ≠ b := fun b hb g c2 t2 hg h1 h2 => by
    obtain ⟨c1, t1, hc, rfl | rfl⟩ := hty b hb
    · exact blk_ne hg hc h1
    · exact blk_ne hg hc h2
  have hsz := h.kp.size
  have hlo : ∀ b, (b = s ∨ ∃ a, A = some a ∧ 0 < n ∧ b = a.block) → Bo ≤ b := fun b hb => by
    rcases hb with rfl | ⟨a, e, hn, rfl⟩
    · exact h.rx.lo.2.1
    · exact h.rx.lo.2.2.1 a e hn
  refine ⟨⟨k.blk h.rx.hx (blk_lt h.rx.hx) (fun hb => hne _ hb _ _ _ h.rx.hx (by decide) (by decide) rfl), hs, h.rx.tk.kept k (fun a e hb => ?_), fun y hy => ⟨(h.rx.bey y hy).1.keptB h.rx.lo.2.2.2 k (fun a e hn hb => ?_), (h.rx.bey y hy).2⟩, h.rx.may, h.rx.lim, h.rx.lo.1, h.rx.lo.2.1, fun a e hn => ?_, Nat.le_trans h.rx.lo.2.2.2 k.size⟩,
    ⟨k.os.trans h.kp.os, k.tape.trans h.kp.tape, k.output.trans h.kp.output, Nat.le_trans h.kp.size k.size, fun b hb hx => (k.block b (Nat.lt_of_lt_of_le hb h.kp.size) (fun hb' => ?_)).trans (h.kp.block b hb hx)⟩, fun a e hn => ?_, k.blk h.n4 (blk_lt h.n4) (fun hb => hne _ hb _ _ _ h.n4 (by decide) (by decide) rfl), k.blk h.r6 (blk_lt h.r6) (fun hb => hne _ hb _ _ _ h.r6 (by decide) (by decide) rfl), k.blk h.z0 (blk_lt h.z0) (fun hb => hne _ hb _ _ _ h.z0 (by decide) (by decide) rfl), h.l4, h.l6, h.lx⟩
  · obtain ⟨c2, hc⟩ := h.rx.tk.ty e
    exact hne _ hb _ _ _ hc (by decide) (by decide) rfl
  · obtain ⟨b2, off, e2, hb2, -⟩ := (h.rx.bey y hy).1.2 hn
    rw [e] at e2
    injection e2 with e2
    have := hlo _ hb
    rw [e2] at this
    exact absurd hb2 (Nat.not_lt.2 this)
  · rcases hf a e hn with ⟨e2, h3⟩ | h2
    · exact h.rx.lo.2.2.1 a (by rw [← e2]; exact e) h3
    · have := h.rx.lo.2.2.2; omega
  · rcases hb' with rfl | ⟨a, e, hn, rfl⟩
    · exact hx (Or.inr (Or.inl rfl))
    · rcases h.fr a e hn with ⟨e2, h2⟩ | h2
      · exact hx (Or.inr (Or.inr ⟨a, by rw [← e2]; exact e, h2, rfl⟩))
      · omega
  · rcases hf a e hn with ⟨e2, h2⟩ | h2
    · rcases h.fr a (by rw [← e2]; exact e) h2 with ⟨e3, h3⟩ | h3
      · exact Or.inl ⟨by rw [e2, e3], h3⟩
      · exact Or.inr h3
    · exact Or.inr (by omega)
end
/-- What the document's Serve answers. -/
def R15Serve (w : World) (Bo x s : Nat) (A : Option Addr) (n : Nat) (L : Hs) (qn : Nat) (Wq : Option Addr) (r : Rq) (q : List Rq) (e : Ending) (w' : World) : Prop :=
  ∃ A' n' cap' W' wc' L' cs, e = .returned (.tuple #[.agg cs, .int .i64 0]) ∧ RepR w L r L' cs w' ∧ RxAt w' Bo x s A' n' cap' L' qn W' q.length wc' q ∧ Kept w w' (fun b => b = x ∨ b = s ∨ ∃ a, A = some a ∧ 0 < n ∧ b = a.block) ∧ (∀ a, A' = some a → 0 < n' → (A' = A ∧ 0 < n) ∨ w.heap.size ≤ a.block) ∧ FromA w Wq W'
/-- A request has been taken. -/
theorem RxAt.popped {w : World} {Bo x s n cap qn wn wc : Nat} {A W : Option Addr} {L : Hs} {r : Rq} {q : List Rq} (h : RxAt w Bo x s A n cap L qn W (wn + 1) wc (r :: q)) :
    RxAt (w.setCell ⟨x, 2, none⟩ (.slice (if wc = 1 then W else W.map (·.add 9)) wn (wc - 1))) Bo x s A n cap L qn (if wc = 1 then W else W.map (·.add 9)) wn (wc - 1) q ∧ Kept w (w.setCell ⟨x, 2, none⟩ (.slice (if wc = 1 then W else W.map (·.add 9)) wn (wc - 1))) (fun b => b = x) := by
  have kx : Kept w (w.setCell ⟨x, 2, none⟩ (.slice (if wc = 1 then W else W.map (·.add 9)) wn (wc - 1))) (fun b => b = x) := Kept.setCell (X := fun b => b = x) (Kept.refl _ _) (p := ⟨x, 2, none⟩) (Or.inl rfl) _
  have ht := h.tk.pop
  refine ⟨⟨by simpa using blk_set h.hx 2 (.slice (if wc = 1 then W else W.map (·.add 9)) wn (wc - 1)), h.sh.kept kx (fun b hb => ?_), ht.kept kx (fun a e hb => ?_), fun y hy => ⟨(h.bey y (by simp [hy])).1.keptB h.lo.2.2.2 kx (fun a e hn hb => ?_), (h.bey y (by simp [hy])).2⟩, fun y hy => h.may y (by simp [hy]), ⟨by have := h.lim; omega, h.lim.2⟩, h.lo.1, h.lo.2.1, h.lo.2.2.1, Nat.le_trans h.lo.2.2.2 kx.size⟩, kx⟩
  · subst hb
    refine ⟨blk_ne h.hx h.sh.blk (by decide), fun cs' fr hc' => blk_ne h.hx hc' (by decide) rfl, fun a' e' hn => ?_⟩
    obtain ⟨cs', hc'⟩ := h.sh.tyA e' hn
    exact blk_ne h.hx hc' (by decide)
  · obtain ⟨cs, hc⟩ := ht.ty e
    exact blk_ne h.hx hc (by decide) hb.symm
  · obtain ⟨b2, off, e2, hb2, -⟩ := (h.bey y (by simp [hy])).1.2 hn
    rw [e] at e2
    injection e2 with e2
    have := h.lo.1
    rw [e2] at hb
    have hb3 : b2 = x := hb
    omega
theorem SvR.end_ {w W : World} {Bo x s n0 n cap qn wn wc g4 g6 : Nat} {A0 A Wq : Option Addr} {L : Hs} {q : List Rq} {r : Rq} {cs : Array Value} (h : SvR w W Bo x s A0 n0 A n cap L qn Wq wn wc q g4 g6 r cs) (cs' : Array Value) :
    RxAt (W.setRow w.heap.size cs') Bo x s A n cap L qn Wq q.length wc q ∧ Kept w (W.setRow w.heap.size cs') (fun b => b = x ∨ b = s ∨ ∃ a, A0 = some a ∧ 0 < n0 ∧ b = a.block) ∧ Kept W (W.setRow w.heap.size cs') (fun b => b = w.heap.size) := by
  have k9 : Kept W (W.setRow w.heap.size cs') (fun b => b = w.heap.size) := (Kept.refl W (fun b => b = w.heap.size)).setRow (Or.inl rfl) _
  have hl := h.rx.len
  refine ⟨?_, h.kp.setRow (Or.inr (Nat.le_refl _)) _, k9⟩
  have := h.rx.far h.z0 h.lx.2.2 k9
  rw [hl]; exact this
theorem may_okP {r : Rq} (h : mayR r = true) (hk : r.kind = 1) : okP (partR r) = true := by
  unfold mayR at h
  split at h
  · cases h
  · have hk2 : instB r = true := by simpa [hk] using h
    clear h
    unfold instB markB at hk2
    unfold okP partR verB Part.ver
    simp at hk2 ⊢
    grind
set_option maxHeartbeats 8000000 in
theorem r15serve_any (Bo x s n cap qn wn wc : Nat) (A W : Option Addr) (L : Hs) (r : Rq) (q : List Rq) (w : World) (h : RxAt w Bo x s A n cap L qn W (wn + 1) wc (r :: q)) (hn : n ≤ 3518437208882) (hs : sizeH L ≤ 1152921504606846976) :
    Calls Tryz.prog 14 #[.pointer (some ⟨x, 0, none⟩)] w (R15Serve w Bo x s A n L qn W r q) := by
  have H := Lib.hid h
  have hk := mayR_kind (h.may r (by simp))
  have HM := Lib.hid (h.may r (by simp))
  have HBy := Lib.hid (h.bey r (by simp))
  obtain ⟨hlo1, hlo2, hlo3, hlo4⟩ := h.lo
  have hxw : x < w.heap.size := blk_lt h.hx
  have hsw : s < w.heap.size := h.sh.lt
  have hle := h.tk.le
  have HFq := Lib.hid (h.tk.from_pop (w := w))
  have hW : ∃ g o cur, W = some ⟨g, o, none⟩ ∧ g < w.heap.size ∧ w.heap[g]? = some (.cells cur 36 (0, 0)) ∧ ∀ k u, r.cells[k]? = some u → cur[o + k]? = some u := by
    obtain ⟨-, -, ⟨-, h4⟩ | ⟨g, o, cur, h3, h4, h5, h6, h7⟩⟩ := h.tk
    · omega
    · exact ⟨g, o, cur, h3, blk_lt h5, h5, fun k u hu => by have := h7 0 r rfl k u hu; simpa using this⟩
  obtain ⟨g, oo, cur, rfl, hgw, hgb, hcur⟩ := hW
  have HGB := Lib.hid hgb
  have HCur := Lib.hid hcur
  have HLO3 := Lib.hid hlo3
  clear h hgb hcur hlo3
  obtain ⟨kind, from_, num, wk, wv, wd, key, fin, A2, len, cap2, bs⟩ := r
  simp only at hk
  have c2 : w.cell? ⟨x, 2, none⟩ = some (.slice (some ⟨g, oo, none⟩) (wn + 1) wc) := H.out.c2
  have hq : ∀ X, Below w.heap.size w X → X.cell? ⟨g, oo, none⟩ = some (.int .u8 kind) ∧ X.cell? ⟨g, oo + 1, none⟩ = some (.int .i64 from_) ∧ X.cell? ⟨g, oo + 2, none⟩ = some (.int .i64 num) ∧ X.cell? ⟨g, oo + 3, none⟩ = some (.string wk) ∧ X.cell? ⟨g, oo + 4, none⟩ = some (.string wv) ∧ X.cell? ⟨g, oo + 5, none⟩ = some (.bool wd) ∧ X.cell? ⟨g, oo + 6, none⟩ = some (.string key) ∧ X.cell? ⟨g, oo + 7, none⟩ = some (.string fin) ∧ X.cell? ⟨g, oo + 8, none⟩ = some (.slice A2 len cap2) := fun X hX => by
    have hb := (hX.block _ hgw).trans HGB.out
    refine ⟨?_, ?_, ?_, ?_, ?_, ?_, ?_, ?_, ?_⟩ <;> rw [blk_cell hb]
    · exact HCur.out 0 _ rfl
    · exact HCur.out 1 _ rfl
    · exact HCur.out 2 _ rfl
    · exact HCur.out 3 _ rfl
    · exact HCur.out 4 _ rfl
    · exact HCur.out 5 _ rfl
    · exact HCur.out 6 _ rfl
    · exact HCur.out 7 _ rfl
    · exact HCur.out 8 _ rfl
  obtain ⟨W1, hW⟩ : ∃ W1, W1 = w.alloc (.cells respZ 56) := ⟨_, rfl⟩
  have HB1 : Hid (Below w.heap.size w W1) := Lib.hid (hW ▸ bel_alloc (Below.refl _ _) _)
  have HZ1 : Hid (W1.heap[w.heap.size]? = some (.cells respZ 56 (0, 0))) := Lib.hid (hW ▸ blk_new _ _)
  have HRx1 := Lib.hid (H.out.below HB1.out)
  have hs1 : w.heap.size < W1.heap.size := blk_lt HZ1.out
  obtain ⟨q0, q1, q2, q3, q4, q5, q6, q7, q8⟩ := hq _ HB1.out
  have HW := Lib.hid hW
  have d2 : W1.cell? ⟨x, 2, none⟩ = some (.slice (some ⟨g, oo, none⟩) (wn + 1) wc) := HRx1.out.c2
  have df := blk_frozen HRx1.out.hx 2
  clear c2 hq HCur HGB hW
  go_enter Tryz.func14, Tryz.ntmps14
  go_upto_region 3 with fail
  change Code.wp _ _ _ _ (w.alloc (.cells respZ 56))
  rw [← HW.out]
  clear HW
  go_upto_region 5 with fail
  have Hzl : Hid ((W1.alloc (.cells #[.int .u8 0, .int .i64 0, .int .i64 0, .string ⟨#[]⟩, .string ⟨#[]⟩, .bool false, .string ⟨#[]⟩, .string ⟨#[]⟩, .slice none 0 0] 36)).heap[W1.heap.size]? = some (.cells #[.int .u8 0, .int .i64 0, .int .i64 0, .string ⟨#[]⟩, .string ⟨#[]⟩, .bool false, .string ⟨#[]⟩, .string ⟨#[]⟩, .slice none 0 0] 36 (0, 0))) := Lib.hid (blk_new _ _)
  go_upto_region 6 with (with_reducible refine wpList_store_row rfl 36 _ _ rfl W1.heap.size (Rq.cells ⟨kind, from_, num, wk, wv, wd, key, fin, A2, len, cap2, bs⟩).toArray rfl rfl 36 _ Hzl.out rfl rfl (rq_one _) ?_)
  clear q0 q1 q2 q3 q4 q5 q6 q7 q8 d2 df
  have HB3 : Hid (Below W1.heap.size W1 ((W1.alloc (.cells #[.int .u8 0, .int .i64 0, .int .i64 0, .string ⟨#[]⟩, .string ⟨#[]⟩, .bool false, .string ⟨#[]⟩, .string ⟨#[]⟩, .slice none 0 0] 36)).setRow W1.heap.size (Rq.cells ⟨kind, from_, num, wk, wv, wd, key, fin, A2, len, cap2, bs⟩).toArray)) := Lib.hid (below_setRow (bel_alloc (Below.refl _ _) _) (Nat.le_refl _) _)
  have HN3 := Lib.hid (setRow_heap _ W1.heap.size _ (Rq.cells ⟨kind, from_, num, wk, wv, wd, key, fin, A2, len, cap2, bs⟩).toArray 36 (0, 0) Hzl.out)
  generalize (W1.alloc (.cells #[.int .u8 0, .int .i64 0, .int .i64 0, .string ⟨#[]⟩, .string ⟨#[]⟩, .bool false, .string ⟨#[]⟩, .string ⟨#[]⟩, .slice none 0 0] 36)).setRow W1.heap.size (Rq.cells ⟨kind, from_, num, wk, wv, wd, key, fin, A2, len, cap2, bs⟩).toArray = W3 at HB3 HN3 ⊢
  clear Hzl
  have HRx3 := Lib.hid (HRx1.out.below HB3.out)
  have HZ3 : Hid (W3.heap[w.heap.size]? = some (.cells respZ 56 (0, 0))) := Lib.hid ((HB3.out.block _ (blk_lt HZ1.out)).trans HZ1.out)
  have HB13 : Hid (Below w.heap.size w W3) := Lib.hid (HB1.out.trans (HB3.out.mono HB1.out.size))
  obtain ⟨g4, hg4⟩ : ∃ g4, g4 = W1.heap.size := ⟨_, rfl⟩
  rw [← hg4] at HN3 hs1 ⊢
  clear hg4 HB3 HZ1 HB1 HRx1
  have d2 : W3.cell? ⟨x, 2, none⟩ = some (.slice (some ⟨g, oo, none⟩) (wn + 1) wc) := HRx3.out.c2
  have df := blk_frozen HRx3.out.hx 2
  go_upto_region 7 with fail
  clear d2 df
  obtain ⟨hp1, hp2⟩ := HRx3.out.popped
  have e9 : Option.map (fun a : Addr => a.add 9) (some ⟨g, oo, none⟩) = some ⟨g, oo + 9, none⟩ := by simp [Addr.add_lit]
  have hfq := HFq.out
  rw [e9] at hp1 hp2 hfq
  obtain ⟨W5, hW5⟩ : ∃ W5, W5 = (if wc = 1 then some (⟨g, oo, none⟩ : Addr) else some ⟨g, oo + 9, none⟩) := ⟨_, rfl⟩
  rw [← hW5] at hp1 hp2 hfq ⊢
  have HRx4 := Lib.hid hp1
  have HFq2 := Lib.hid hfq
  have HN4 := Lib.hid (hp2.blk HN3.out (blk_lt HN3.out) (by omega))
  have HZ4 := Lib.hid (hp2.blk HZ3.out (blk_lt HZ3.out) (by omega))
  have HK4 := Lib.hid ((Kept.of_below (X := fun b => b = x) HB13.out).trans hp2)
  clear hp1 hp2 hfq hW5 e9 HFq HRx3 HZ3 HB13 HN3 H
  have HFq := HFq2
  clear HFq2
  generalize W3.setCell ⟨x, 2, none⟩ (.slice W5 wn (wc - 1)) = W4 at HRx4 HN4 HZ4 HK4 ⊢
  generalize wc - 1 = wc5 at HRx4 ⊢
  have hg4 : g4 < W4.heap.size := blk_lt HN4.out
  have z1 : W4.cell? ⟨g4, 1, none⟩ = some (.int .i64 from_) := blk_cell HN4.out 1
  go_upto_region 8 with fail
  clear z1
  have HSV : Hid (SvR w (W4.alloc (.cells #[.int .i64 from_, .bool true, .slice none 0 0, .slice none 0 0, .int .i64 0] 56)) Bo x s A n A n cap L qn W5 wn wc5 q g4 W4.heap.size ⟨kind, from_, num, wk, wv, wd, key, fin, A2, len, cap2, bs⟩ #[.int .i64 from_, .bool true, .slice none 0 0, .slice none 0 0, .int .i64 0]) := Lib.hid (by
    have hb : Below W4.heap.size W4 (W4.alloc (.cells #[.int .i64 from_, .bool true, .slice none 0 0, .slice none 0 0, .int .i64 0] 56)) := bel_alloc (Below.refl _ _) _
    exact ⟨HRx4.out.below hb, (HK4.out.mono fun b hb => Or.inl hb).trans (Kept.of_below hb), fun a e hn => Or.inl ⟨rfl, hn⟩, (hb.block _ (blk_lt HN4.out)).trans HN4.out, blk_new _ _, (hb.block _ (blk_lt HZ4.out)).trans HZ4.out, hs1, Nat.lt_trans hs1 hg4, ⟨hxw, hsw, hlo4⟩⟩)
  have HBY : Hid (∀ X, Kept w X (fun b => b = x ∨ b = s ∨ ∃ a, A = some a ∧ 0 < n ∧ b = a.block) → RowAt Icell 1 X X.heap.size A2 len bs) := Lib.hid (fun X k => ((HBy.out.1.below (k.below hlo4 (fun b hb => by
    rcases hb with rfl | rfl | ⟨a, e, hn, rfl⟩
    · exact hlo1
    · exact hlo2
    · exact HLO3.out a e hn))).more (Nat.le_trans hlo4 k.size)))
  have hlb := HBy.out.2
  obtain ⟨g6, hg6⟩ : ∃ g6, g6 = W4.heap.size := ⟨_, rfl⟩
  rw [← hg6] at HSV hg4 ⊢
  clear hg6
  generalize W4.alloc (.cells #[.int .i64 from_, .bool true, .slice none 0 0, .slice none 0 0, .int .i64 0] 56) = W6 at HSV ⊢
  clear HRx4 HN4 HZ4 HK4 HBy HLO3
  clear hlo1 hlo2 hle
  rcases hk with rfl | rfl | rfl | rfl | rfl
  · as_aux_lemma =>
    have HK : Hid (∀ (X : World) {n9 cap9 : Nat} {A9 : Option Addr} {L9 : Hs} {c9 : Array Value}, SvR w X Bo x s A n A9 n9 cap9 L9 qn W5 wn wc5 q g4 g6 ⟨1, from_, num, wk, wv, wd, key, fin, A2, len, cap2, bs⟩ c9 → X.cell? ⟨x, 0, none⟩ = some (.pointer (some ⟨s, 0, none⟩)) ∧ X.cell? ⟨g4, 0, none⟩ = some (.int .u8 1) ∧ X.cell? ⟨g4, 1, none⟩ = some (.int .i64 from_) ∧ X.cell? ⟨g4, 2, none⟩ = some (.int .i64 num) ∧ X.cell? ⟨g4, 3, none⟩ = some (.string wk) ∧ X.cell? ⟨g4, 4, none⟩ = some (.string wv) ∧ X.cell? ⟨g4, 5, none⟩ = some (.bool wd) ∧ X.cell? ⟨g4, 6, none⟩ = some (.string key) ∧ X.cell? ⟨g4, 7, none⟩ = some (.string fin) ∧ X.cell? ⟨g4, 8, none⟩ = some (.slice A2 len cap2)) := Lib.hid (fun X n9 cap9 A9 L9 c9 h => ⟨h.rx.c0, rqz 1 from_ num wk wv wd key fin A2 len cap2 h.n4⟩)
    obtain ⟨x0, z0, z1, z2, z3, z4, z5, z6, z7, z8⟩ := HK.out _ HSV.out
    go_wp2_with fail
    clear x0 z0 z1 z2 z3 z4 z5 z6 z7 z8
    have HSd := Lib.hid (HSV.out.below (Below.refl _ _).drew)
    clear HSV
    go_region_held3 (fun X => X.cell? ⟨x, 0, none⟩ = some (.pointer (some ⟨s, 0, none⟩)) ∧ X.cell? ⟨g4, 0, none⟩ = some (.int .u8 1) ∧ X.cell? ⟨g4, 1, none⟩ = some (.int .i64 from_) ∧ X.cell? ⟨g4, 2, none⟩ = some (.int .i64 num) ∧ X.cell? ⟨g4, 3, none⟩ = some (.string wk) ∧ X.cell? ⟨g4, 4, none⟩ = some (.string wv) ∧ X.cell? ⟨g4, 5, none⟩ = some (.bool wd) ∧ X.cell? ⟨g4, 6, none⟩ = some (.string key) ∧ X.cell? ⟨g4, 7, none⟩ = some (.string fin) ∧ X.cell? ⟨g4, 8, none⟩ = some (.slice A2 len cap2))
      (with_reducible first | exact HK.out _ HS8.out | exact HK.out _ HS7.out | exact HK.out _ HSd.out)
      (first | (go_at_call 35; refine (r9inst_any s A n cap L (partR ⟨1, from_, num, wk, wv, wd, key, fin, A2, len, cap2, bs⟩) _ HSd.out.rx.sh hn (may_okP HM.out rfl)).mono ?_; rintro e w7 ⟨A7, n7, cap7, rfl, hs7, k7, fr7⟩; have HS7 := Lib.hid (HSd.out.shard hs7 k7 (fun a e _ => fr7 a e)); clear hs7 k7 fr7))
    clear HSd
    have y1 : w7.cell? ⟨g6, 1, none⟩ = some (.bool true) := blk_cell HS7.out.r6 1
    have yf := blk_frozen HS7.out.r6 1
    go_upto_region 23 with fail
    clear y1 yf
    have HS8 : Hid (SvR w _ Bo x s A n _ _ _ _ qn W5 wn wc5 q g4 g6 ⟨1, from_, num, wk, wv, wd, key, fin, A2, len, cap2, bs⟩ #[.int .i64 from_, .bool (newP L (partR ⟨1, from_, num, wk, wv, wd, key, fin, A2, len, cap2, bs⟩)), .slice none 0 0, .slice none 0 0, .int .i64 0]) := Lib.hid (HS7.out.set6 1 (.bool (newP L (partR ⟨1, from_, num, wk, wv, wd, key, fin, A2, len, cap2, bs⟩))))
    clear HS7
    generalize w7.setCell ⟨g6, 1, none⟩ (.bool (newP L (partR ⟨1, from_, num, wk, wv, wd, key, fin, A2, len, cap2, bs⟩))) = w8 at HS8 ⊢
    go_wp2_with (with_reducible first | refine wpList_load_row rfl 56 _ rfl g6 rfl 56 #[.int .i64 from_, .bool (newP L (partR ⟨1, from_, num, wk, wv, wd, key, fin, A2, len, cap2, bs⟩)), .slice none 0 0, .slice none 0 0, .int .i64 0] (0, 0) _ HS8.out.r6 Tryz.underlying56 rfl (resp_info _ _ _ _ _) ?_ | refine wpList_store_row rfl 56 _ _ rfl w.heap.size #[.int .i64 from_, .bool (newP L (partR ⟨1, from_, num, wk, wv, wd, key, fin, A2, len, cap2, bs⟩)), .slice none 0 0, .slice none 0 0, .int .i64 0] rfl rfl 56 _ HS8.out.z0 (resp_info _ _ _ _ _) rfl (resp_one _ _ _ _ _ _ _ _ _) ?_)
    have HZ9 := setRow_heap w8 w.heap.size _ #[.int .i64 from_, .bool (newP L (partR ⟨1, from_, num, wk, wv, wd, key, fin, A2, len, cap2, bs⟩)), .slice none 0 0, .slice none 0 0, .int .i64 0] 56 (0, 0) HS8.out.z0
    obtain ⟨f1, f2, k9⟩ := HS8.out.end_ #[.int .i64 from_, .bool (newP L (partR ⟨1, from_, num, wk, wv, wd, key, fin, A2, len, cap2, bs⟩)), .slice none 0 0, .slice none 0 0, .int .i64 0]
    refine bodyPost_ret (results_ct_row rfl _ _ w.heap.size _ _ _ _ rfl HZ9 Tryz.underlying56 rfl (resp_info _ _ _ _ _)) rfl ⟨_, _, _, _, _, _, _, rfl, ?_, f1, f2, HS8.out.fr, HFq.out⟩
    exact ⟨rfl, rfl⟩
  · as_aux_lemma =>
    have HK : Hid (∀ (X : World) {n9 cap9 : Nat} {A9 : Option Addr} {L9 : Hs} {c9 : Array Value}, SvR w X Bo x s A n A9 n9 cap9 L9 qn W5 wn wc5 q g4 g6 ⟨2, from_, num, wk, wv, wd, key, fin, A2, len, cap2, bs⟩ c9 → X.cell? ⟨x, 0, none⟩ = some (.pointer (some ⟨s, 0, none⟩)) ∧ X.cell? ⟨g4, 0, none⟩ = some (.int .u8 2) ∧ X.cell? ⟨g4, 1, none⟩ = some (.int .i64 from_) ∧ X.cell? ⟨g4, 2, none⟩ = some (.int .i64 num) ∧ X.cell? ⟨g4, 3, none⟩ = some (.string wk) ∧ X.cell? ⟨g4, 4, none⟩ = some (.string wv) ∧ X.cell? ⟨g4, 5, none⟩ = some (.bool wd) ∧ X.cell? ⟨g4, 6, none⟩ = some (.string key) ∧ X.cell? ⟨g4, 7, none⟩ = some (.string fin) ∧ X.cell? ⟨g4, 8, none⟩ = some (.slice A2 len cap2)) := Lib.hid (fun X n9 cap9 A9 L9 c9 h => ⟨h.rx.c0, rqz 2 from_ num wk wv wd key fin A2 len cap2 h.n4⟩)
    obtain ⟨x0, z0, z1, z2, z3, z4, z5, z6, z7, z8⟩ := HK.out _ HSV.out
    go_wp2_with fail
    clear x0 z0 z1 z2 z3 z4 z5 z6 z7 z8
    have HSd := Lib.hid (HSV.out.below (Below.refl _ _).drew)
    clear HSV
    go_region_held3 (fun X => X.cell? ⟨x, 0, none⟩ = some (.pointer (some ⟨s, 0, none⟩)) ∧ X.cell? ⟨g4, 0, none⟩ = some (.int .u8 2) ∧ X.cell? ⟨g4, 1, none⟩ = some (.int .i64 from_) ∧ X.cell? ⟨g4, 2, none⟩ = some (.int .i64 num) ∧ X.cell? ⟨g4, 3, none⟩ = some (.string wk) ∧ X.cell? ⟨g4, 4, none⟩ = some (.string wv) ∧ X.cell? ⟨g4, 5, none⟩ = some (.bool wd) ∧ X.cell? ⟨g4, 6, none⟩ = some (.string key) ∧ X.cell? ⟨g4, 7, none⟩ = some (.string fin) ∧ X.cell? ⟨g4, 8, none⟩ = some (.slice A2 len cap2))
      (with_reducible first | exact HK.out _ HS8.out | exact HK.out _ HS7.out | exact HK.out _ HSd.out)
      (first | (go_at_call 36; refine (r9get_any s A n cap L key num _ HSd.out.rx.sh (by omega)).mono ?_; rintro e w7 ⟨rfl, hb7⟩; have HS7 := Lib.hid (HSd.out.below hb7); clear hb7))
    clear HSd
    have y1 : w7.cell? ⟨g6, 1, none⟩ = some (.bool true) := blk_cell HS7.out.r6 1
    have yf := blk_frozen HS7.out.r6 1
    have Hga : Hid (gotA (hget L key) num = if (getV (hget L key) num).2 then (getV (hget L key) num).1 else ⟨#[]⟩) := Lib.hid rfl
    have Hgg : Hid (∃ z, z = getV (hget L key) num) := Lib.hid ⟨_, rfl⟩
    obtain ⟨z, hz⟩ := Hgg.out
    rw [← hz] at Hga ⊢
    have Hz := Lib.hid hz
    clear hz Hgg
    generalize gotA (hget L key) num = ga at Hga ⊢
    obtain ⟨gv, gb⟩ := z
    simp only at Hga ⊢
    go_upto_region 15 with fail
    clear y1 yf
    have HS8 : Hid (SvR w _ Bo x s A n _ _ _ _ qn W5 wn wc5 q g4 g6 ⟨2, from_, num, wk, wv, wd, key, fin, A2, len, cap2, bs⟩ #[.int .i64 from_, .bool gb, .slice none 0 0, .slice none 0 0, .int .i64 0]) := Lib.hid (HS7.out.set6 1 (.bool gb))
    clear HS7
    generalize w7.setCell ⟨g6, 1, none⟩ (.bool gb) = w8 at HS8 ⊢
    cases gb
    · skip
      go_upto_region 23 with fail
      go_wp2_with (with_reducible first | refine wpList_load_row rfl 56 _ rfl g6 rfl 56 #[.int .i64 from_, .bool false, .slice none 0 0, .slice none 0 0, .int .i64 0] (0, 0) _ HS8.out.r6 Tryz.underlying56 rfl (resp_info _ _ _ _ _) ?_ | refine wpList_store_row rfl 56 _ _ rfl w.heap.size #[.int .i64 from_, .bool false, .slice none 0 0, .slice none 0 0, .int .i64 0] rfl rfl 56 _ HS8.out.z0 (resp_info _ _ _ _ _) rfl (resp_one _ _ _ _ _ _ _ _ _) ?_)
      have HZ9 := setRow_heap w8 w.heap.size _ #[.int .i64 from_, .bool false, .slice none 0 0, .slice none 0 0, .int .i64 0] 56 (0, 0) HS8.out.z0
      obtain ⟨f1, f2, k9⟩ := HS8.out.end_ #[.int .i64 from_, .bool false, .slice none 0 0, .slice none 0 0, .int .i64 0]
      refine bodyPost_ret (results_ct_row rfl _ _ w.heap.size _ _ _ _ rfl HZ9 Tryz.underlying56 rfl (resp_info _ _ _ _ _)) rfl ⟨_, _, _, _, _, _, _, rfl, ?_, f1, f2, HS8.out.fr, HFq.out⟩
      exact ⟨rfl, _, by rw [← Hz.out], by rw [← Hz.out]; rfl⟩
    · skip
      have Hga2 : Hid (ga = gv) := Lib.hid (by rw [Hga.out]; rfl)
      obtain rfl := Hga2.out
      clear Hga Hga2
      obtain ⟨x0, z0, z1, z2, z3, z4, z5, z6, z7, z8⟩ := HK.out _ HS8.out
      have hl4 := blk_lt HS8.out.n4
      have hl6 := blk_lt HS8.out.r6
      have hlz := blk_lt HS8.out.z0
      have y2 : (w8.alloc (.cells #[.string key, .string ga] 67)).cell? ⟨g6, 2, none⟩ = some (.slice none 0 0) := by rw [blk_cell ((Below.heap_alloc _ _ _ hl6).trans HS8.out.r6)]; rfl
      have yf : (w8.alloc (.cells #[.string key, .string ga] 67)).frozen? ⟨g6, 2, none⟩ = false := blk_frozen ((Below.heap_alloc _ _ _ hl6).trans HS8.out.r6) 2
      go_upto_region 23 with fail
      clear y2 yf x0 z0 z1 z2 z3 z4 z5 z6 z7 z8
      have HS9 : Hid (SvR w _ Bo x s A n _ _ _ _ qn W5 wn wc5 q g4 g6 ⟨2, from_, num, wk, wv, wd, key, fin, A2, len, cap2, bs⟩ #[.int .i64 from_, .bool true, .slice (some ⟨w8.heap.size, 0, none⟩) 1 1, .slice none 0 0, .int .i64 0]) := Lib.hid ((HS8.out.set6 2 (.slice (some ⟨w8.heap.size, 0, none⟩) 1 1)).below (bel_alloc (Below.refl _ _) (.cells #[.string key, .string ga] 67)))
      have HO : Hid (OwnE ((w8.setCell ⟨g6, 2, none⟩ (.slice (some ⟨w8.heap.size, 0, none⟩) 1 1)).alloc (.cells #[.string key, .string ga] 67)) w8.heap.size (.slice (some ⟨w8.heap.size, 0, none⟩) 1 1) [(key, ga)]) := Lib.hid ⟨rfl, Or.inr ⟨w8.heap.size, 1, #[.string key, .string ga], rfl, Nat.le_refl _, (by have h9 := blk_new (w8.setCell ⟨g6, 2, none⟩ (.slice (some ⟨w8.heap.size, 0, none⟩) 1 1)) (.cells #[.string key, .string ga] 67); rwa [show (w8.setCell ⟨g6, 2, none⟩ (.slice (some ⟨w8.heap.size, 0, none⟩) 1 1)).heap.size = w8.heap.size by simp [World.setCell]] at h9), Nat.le_refl _, by simp only [maxLen]; omega, rfl, rfl⟩⟩
      generalize (w8.setCell ⟨g6, 2, none⟩ (.slice (some ⟨w8.heap.size, 0, none⟩) 1 1)).alloc (.cells #[.string key, .string ga] 67) = w9 at HS9 HO ⊢
      have hzz : ∀ k, k = w.heap.size → k < w8.heap.size := fun k hk => by subst hk; exact hlz
      generalize w8.heap.size = B8 at HS9 HO hzz ⊢
      clear HS8 hl4 hl6 hlz
      go_wp2_with (with_reducible first | refine wpList_load_row rfl 56 _ rfl g6 rfl 56 #[.int .i64 from_, .bool true, .slice (some ⟨B8, 0, none⟩) 1 1, .slice none 0 0, .int .i64 0] (0, 0) _ HS9.out.r6 Tryz.underlying56 rfl (resp_info _ _ _ _ _) ?_ | refine wpList_store_row rfl 56 _ _ rfl w.heap.size #[.int .i64 from_, .bool true, .slice (some ⟨B8, 0, none⟩) 1 1, .slice none 0 0, .int .i64 0] rfl rfl 56 _ HS9.out.z0 (resp_info _ _ _ _ _) rfl (resp_one _ _ _ _ _ _ _ _ _) ?_)
      have HZ9 := setRow_heap w9 w.heap.size _ #[.int .i64 from_, .bool true, .slice (some ⟨B8, 0, none⟩) 1 1, .slice none 0 0, .int .i64 0] 56 (0, 0) HS9.out.z0
      obtain ⟨f1, f2, k9⟩ := HS9.out.end_ #[.int .i64 from_, .bool true, .slice (some ⟨B8, 0, none⟩) 1 1, .slice none 0 0, .int .i64 0]
      refine bodyPost_ret (results_ct_row rfl _ _ w.heap.size _ _ _ _ rfl HZ9 Tryz.underlying56 rfl (resp_info _ _ _ _ _)) rfl ⟨_, _, _, _, _, _, _, rfl, ?_, f1, f2, HS9.out.fr, HFq.out⟩
      exact ⟨rfl, _, by rw [← Hz.out], by rw [← Hz.out]; exact ownsRow_base_a (ownsRow_kept HO.out k9 hzz) (Nat.le_of_lt (hzz _ rfl))⟩
  · as_aux_lemma =>
    have HK : Hid (∀ (X : World) {n9 cap9 : Nat} {A9 : Option Addr} {L9 : Hs} {c9 : Array Value}, SvR w X Bo x s A n A9 n9 cap9 L9 qn W5 wn wc5 q g4 g6 ⟨3, from_, num, wk, wv, wd, key, fin, A2, len, cap2, bs⟩ c9 → X.cell? ⟨x, 0, none⟩ = some (.pointer (some ⟨s, 0, none⟩)) ∧ X.cell? ⟨g4, 0, none⟩ = some (.int .u8 3) ∧ X.cell? ⟨g4, 1, none⟩ = some (.int .i64 from_) ∧ X.cell? ⟨g4, 2, none⟩ = some (.int .i64 num) ∧ X.cell? ⟨g4, 3, none⟩ = some (.string wk) ∧ X.cell? ⟨g4, 4, none⟩ = some (.string wv) ∧ X.cell? ⟨g4, 5, none⟩ = some (.bool wd) ∧ X.cell? ⟨g4, 6, none⟩ = some (.string key) ∧ X.cell? ⟨g4, 7, none⟩ = some (.string fin) ∧ X.cell? ⟨g4, 8, none⟩ = some (.slice A2 len cap2)) := Lib.hid (fun X n9 cap9 A9 L9 c9 h => ⟨h.rx.c0, rqz 3 from_ num wk wv wd key fin A2 len cap2 h.n4⟩)
    obtain ⟨x0, z0, z1, z2, z3, z4, z5, z6, z7, z8⟩ := HK.out _ HSV.out
    go_wp2_with fail
    clear x0 z0 z1 z2 z3 z4 z5 z6 z7 z8
    have HSd := Lib.hid (HSV.out.below (Below.refl _ _).drew)
    clear HSV
    go_region_held3 (fun X => X.cell? ⟨x, 0, none⟩ = some (.pointer (some ⟨s, 0, none⟩)) ∧ X.cell? ⟨g4, 0, none⟩ = some (.int .u8 3) ∧ X.cell? ⟨g4, 1, none⟩ = some (.int .i64 from_) ∧ X.cell? ⟨g4, 2, none⟩ = some (.int .i64 num) ∧ X.cell? ⟨g4, 3, none⟩ = some (.string wk) ∧ X.cell? ⟨g4, 4, none⟩ = some (.string wv) ∧ X.cell? ⟨g4, 5, none⟩ = some (.bool wd) ∧ X.cell? ⟨g4, 6, none⟩ = some (.string key) ∧ X.cell? ⟨g4, 7, none⟩ = some (.string fin) ∧ X.cell? ⟨g4, 8, none⟩ = some (.slice A2 len cap2))
      (with_reducible first | exact HK.out _ HS8.out | exact HK.out _ HS7.out | exact HK.out _ HSd.out)
      (first | (go_at_call 37; refine (r9scan_any s A n cap L key fin num _ HSd.out.rx.sh (by omega)).mono ?_; rintro e w7 ⟨v, rfl, hown, hb7⟩; obtain ⟨A3, n3, c3, rfl⟩ := slice_of_own hown; have HS7 := Lib.hid (HSd.out.below hb7); have HS8 : Hid (SvR w _ Bo x s A n _ _ _ _ qn W5 wn wc5 q g4 g6 ⟨3, from_, num, wk, wv, wd, key, fin, A2, len, cap2, bs⟩ #[.int .i64 from_, .bool true, .slice A3 n3 c3, .slice none 0 0, .int .i64 0]) := Lib.hid (HS7.out.set6 2 (.slice A3 n3 c3)); have y4 : w7.cell? ⟨g6, 2, none⟩ = some (.slice none 0 0) := blk_cell HS7.out.r6 2; have yf := blk_frozen HS7.out.r6 2; have HO := Lib.hid (ownsRow_kept hown (Kept.setCell (X := fun b => b = g6) (Kept.refl w7 _) (p := ⟨g6, 2, none⟩) (Or.inl rfl) (.slice A3 n3 c3)) (fun b hb => by subst hb; exact blk_lt HSd.out.r6)); clear hown hb7))
    have hz9 := blk_lt HSd.out.z0
    clear y4 yf HS7 HSd
    generalize w7.setCell ⟨g6, 2, none⟩ (.slice A3 n3 c3) = w8 at HS8 HO ⊢
    go_wp2_with (with_reducible first | refine wpList_load_row rfl 56 _ rfl g6 rfl 56 #[.int .i64 from_, .bool true, .slice A3 n3 c3, .slice none 0 0, .int .i64 0] (0, 0) _ HS8.out.r6 Tryz.underlying56 rfl (resp_info _ _ _ _ _) ?_ | refine wpList_store_row rfl 56 _ _ rfl w.heap.size #[.int .i64 from_, .bool true, .slice A3 n3 c3, .slice none 0 0, .int .i64 0] rfl rfl 56 _ HS8.out.z0 (resp_info _ _ _ _ _) rfl (resp_one _ _ _ _ _ _ _ _ _) ?_)
    have HZ9 := setRow_heap w8 w.heap.size _ #[.int .i64 from_, .bool true, .slice A3 n3 c3, .slice none 0 0, .int .i64 0] 56 (0, 0) HS8.out.z0
    obtain ⟨f1, f2, k9⟩ := HS8.out.end_ #[.int .i64 from_, .bool true, .slice A3 n3 c3, .slice none 0 0, .int .i64 0]
    refine bodyPost_ret (results_ct_row rfl _ _ w.heap.size _ _ _ _ rfl HZ9 Tryz.underlying56 rfl (resp_info _ _ _ _ _)) rfl ⟨_, _, _, _, _, _, _, rfl, ?_, f1, f2, HS8.out.fr, HFq.out⟩
    exact ⟨rfl, _, rfl, ownsRow_base_a (ownsRow_kept HO.out k9 (fun b hb => by subst hb; exact hz9)) (Nat.le_of_lt hz9)⟩
  · as_aux_lemma =>
    have HK : Hid (∀ (X : World) {n9 cap9 : Nat} {A9 : Option Addr} {L9 : Hs} {c9 : Array Value}, SvR w X Bo x s A n A9 n9 cap9 L9 qn W5 wn wc5 q g4 g6 ⟨4, from_, num, wk, wv, wd, key, fin, A2, len, cap2, bs⟩ c9 → X.cell? ⟨x, 0, none⟩ = some (.pointer (some ⟨s, 0, none⟩)) ∧ X.cell? ⟨g4, 0, none⟩ = some (.int .u8 4) ∧ X.cell? ⟨g4, 1, none⟩ = some (.int .i64 from_) ∧ X.cell? ⟨g4, 2, none⟩ = some (.int .i64 num) ∧ X.cell? ⟨g4, 3, none⟩ = some (.string wk) ∧ X.cell? ⟨g4, 4, none⟩ = some (.string wv) ∧ X.cell? ⟨g4, 5, none⟩ = some (.bool wd) ∧ X.cell? ⟨g4, 6, none⟩ = some (.string key) ∧ X.cell? ⟨g4, 7, none⟩ = some (.string fin) ∧ X.cell? ⟨g4, 8, none⟩ = some (.slice A2 len cap2)) := Lib.hid (fun X n9 cap9 A9 L9 c9 h => ⟨h.rx.c0, rqz 4 from_ num wk wv wd key fin A2 len cap2 h.n4⟩)
    obtain ⟨x0, z0, z1, z2, z3, z4, z5, z6, z7, z8⟩ := HK.out _ HSV.out
    go_wp2_with fail
    clear x0 z0 z1 z2 z3 z4 z5 z6 z7 z8
    have HSd := Lib.hid (HSV.out.below (Below.refl _ _).drew)
    clear HSV
    go_region_held3 (fun X => X.cell? ⟨x, 0, none⟩ = some (.pointer (some ⟨s, 0, none⟩)) ∧ X.cell? ⟨g4, 0, none⟩ = some (.int .u8 4) ∧ X.cell? ⟨g4, 1, none⟩ = some (.int .i64 from_) ∧ X.cell? ⟨g4, 2, none⟩ = some (.int .i64 num) ∧ X.cell? ⟨g4, 3, none⟩ = some (.string wk) ∧ X.cell? ⟨g4, 4, none⟩ = some (.string wv) ∧ X.cell? ⟨g4, 5, none⟩ = some (.bool wd) ∧ X.cell? ⟨g4, 6, none⟩ = some (.string key) ∧ X.cell? ⟨g4, 7, none⟩ = some (.string fin) ∧ X.cell? ⟨g4, 8, none⟩ = some (.slice A2 len cap2))
      (with_reducible first | exact HK.out _ HS8.out | exact HK.out _ HS7.out | exact HK.out _ HSd.out)
      (first | (go_at_call 38; refine (r9coll_any s A n cap L num _ HSd.out.rx.sh hs).mono ?_; rintro e w7 ⟨rfl, hs7, k7⟩; have HS7 := Lib.hid (HSd.out.shard hs7 (k7.mono fun b hb => Or.inr hb) (fun a e hn => Or.inl ⟨rfl, hn⟩)); have HS8 : Hid (SvR w _ Bo x s A n _ _ _ _ qn W5 wn wc5 q g4 g6 ⟨4, from_, num, wk, wv, wd, key, fin, A2, len, cap2, bs⟩ #[.int .i64 from_, .bool true, .slice none 0 0, .slice none 0 0, .int .i64 (goneH L num : Nat)]) := Lib.hid (HS7.out.set6 4 (.int .i64 (goneH L num : Nat))); have y4 : w7.cell? ⟨g6, 4, none⟩ = some (.int .i64 0) := blk_cell HS7.out.r6 4; have yf := blk_frozen HS7.out.r6 4; clear hs7 k7))
    clear y4 yf HS7 HSd
    generalize w7.setCell ⟨g6, 4, none⟩ (.int .i64 (goneH L num : Nat)) = w8 at HS8 ⊢
    go_wp2_with (with_reducible first | refine wpList_load_row rfl 56 _ rfl g6 rfl 56 #[.int .i64 from_, .bool true, .slice none 0 0, .slice none 0 0, .int .i64 (goneH L num : Nat)] (0, 0) _ HS8.out.r6 Tryz.underlying56 rfl (resp_info _ _ _ _ _) ?_ | refine wpList_store_row rfl 56 _ _ rfl w.heap.size #[.int .i64 from_, .bool true, .slice none 0 0, .slice none 0 0, .int .i64 (goneH L num : Nat)] rfl rfl 56 _ HS8.out.z0 (resp_info _ _ _ _ _) rfl (resp_one _ _ _ _ _ _ _ _ _) ?_)
    have HZ9 := setRow_heap w8 w.heap.size _ #[.int .i64 from_, .bool true, .slice none 0 0, .slice none 0 0, .int .i64 (goneH L num : Nat)] 56 (0, 0) HS8.out.z0
    obtain ⟨f1, f2, k9⟩ := HS8.out.end_ #[.int .i64 from_, .bool true, .slice none 0 0, .slice none 0 0, .int .i64 (goneH L num : Nat)]
    refine bodyPost_ret (results_ct_row rfl _ _ w.heap.size _ _ _ _ rfl HZ9 Tryz.underlying56 rfl (resp_info _ _ _ _ _)) rfl ⟨_, _, _, _, _, _, _, rfl, ?_, f1, f2, HS8.out.fr, HFq.out⟩
    exact ⟨rfl, rfl⟩
  · as_aux_lemma =>
    have HK : Hid (∀ (X : World) {n9 cap9 : Nat} {A9 : Option Addr} {L9 : Hs} {c9 : Array Value}, SvR w X Bo x s A n A9 n9 cap9 L9 qn W5 wn wc5 q g4 g6 ⟨5, from_, num, wk, wv, wd, key, fin, A2, len, cap2, bs⟩ c9 → X.cell? ⟨x, 0, none⟩ = some (.pointer (some ⟨s, 0, none⟩)) ∧ X.cell? ⟨g4, 0, none⟩ = some (.int .u8 5) ∧ X.cell? ⟨g4, 1, none⟩ = some (.int .i64 from_) ∧ X.cell? ⟨g4, 2, none⟩ = some (.int .i64 num) ∧ X.cell? ⟨g4, 3, none⟩ = some (.string wk) ∧ X.cell? ⟨g4, 4, none⟩ = some (.string wv) ∧ X.cell? ⟨g4, 5, none⟩ = some (.bool wd) ∧ X.cell? ⟨g4, 6, none⟩ = some (.string key) ∧ X.cell? ⟨g4, 7, none⟩ = some (.string fin) ∧ X.cell? ⟨g4, 8, none⟩ = some (.slice A2 len cap2)) := Lib.hid (fun X n9 cap9 A9 L9 c9 h => ⟨h.rx.c0, rqz 5 from_ num wk wv wd key fin A2 len cap2 h.n4⟩)
    obtain ⟨x0, z0, z1, z2, z3, z4, z5, z6, z7, z8⟩ := HK.out _ HSV.out
    go_wp2_with fail
    clear x0 z0 z1 z2 z3 z4 z5 z6 z7 z8
    have HSd := Lib.hid (HSV.out.below (Below.refl _ _).drew)
    clear HSV
    go_region_held3 (fun X => X.cell? ⟨x, 0, none⟩ = some (.pointer (some ⟨s, 0, none⟩)) ∧ X.cell? ⟨g4, 0, none⟩ = some (.int .u8 5) ∧ X.cell? ⟨g4, 1, none⟩ = some (.int .i64 from_) ∧ X.cell? ⟨g4, 2, none⟩ = some (.int .i64 num) ∧ X.cell? ⟨g4, 3, none⟩ = some (.string wk) ∧ X.cell? ⟨g4, 4, none⟩ = some (.string wv) ∧ X.cell? ⟨g4, 5, none⟩ = some (.bool wd) ∧ X.cell? ⟨g4, 6, none⟩ = some (.string key) ∧ X.cell? ⟨g4, 7, none⟩ = some (.string fin) ∧ X.cell? ⟨g4, 8, none⟩ = some (.slice A2 len cap2))
      (with_reducible first | exact HK.out _ HS8.out | exact HK.out _ HS7.out | exact HK.out _ HSd.out)
      (first | (go_at_call 39; refine (r9dump_any s A n cap L num A2 len cap2 bs _ HSd.out.rx.sh (by omega) (HBY.out _ HSd.out.kp) hlb).mono ?_; rintro e w7 ⟨v, hs5, rfl, hown, hpl, hb7⟩; obtain ⟨A3, n3, c3, rfl⟩ := slice_of_own hown.1; have HS7 := Lib.hid (HSd.out.below hb7); have HS8 : Hid (SvR w _ Bo x s A n _ _ _ _ qn W5 wn wc5 q g4 g6 ⟨5, from_, num, wk, wv, wd, key, fin, A2, len, cap2, bs⟩ #[.int .i64 from_, .bool true, .slice none 0 0, .slice A3 n3 c3, .int .i64 0]) := Lib.hid (HS7.out.set6 3 (.slice A3 n3 c3)); have y4 : w7.cell? ⟨g6, 3, none⟩ = some (.slice none 0 0) := blk_cell HS7.out.r6 3; have yf := blk_frozen HS7.out.r6 3; have HO := Lib.hid (hrow_kept hown (Kept.setCell (X := fun b => b = g6) (Kept.refl w7 _) (p := ⟨g6, 3, none⟩) (Or.inl rfl) (.slice A3 n3 c3)) (fun b hb => by subst hb; exact blk_lt HSd.out.r6)); have Hpl := Lib.hid hpl; clear hown hpl hb7))
    have hz9 := blk_lt HSd.out.z0
    clear y4 yf HS7 HSd
    generalize w7.setCell ⟨g6, 3, none⟩ (.slice A3 n3 c3) = w8 at HS8 HO ⊢
    go_wp2_with (with_reducible first | refine wpList_load_row rfl 56 _ rfl g6 rfl 56 #[.int .i64 from_, .bool true, .slice none 0 0, .slice A3 n3 c3, .int .i64 0] (0, 0) _ HS8.out.r6 Tryz.underlying56 rfl (resp_info _ _ _ _ _) ?_ | refine wpList_store_row rfl 56 _ _ rfl w.heap.size #[.int .i64 from_, .bool true, .slice none 0 0, .slice A3 n3 c3, .int .i64 0] rfl rfl 56 _ HS8.out.z0 (resp_info _ _ _ _ _) rfl (resp_one _ _ _ _ _ _ _ _ _) ?_)
    have HZ9 := setRow_heap w8 w.heap.size _ #[.int .i64 from_, .bool true, .slice none 0 0, .slice A3 n3 c3, .int .i64 0] 56 (0, 0) HS8.out.z0
    obtain ⟨f1, f2, k9⟩ := HS8.out.end_ #[.int .i64 from_, .bool true, .slice none 0 0, .slice A3 n3 c3, .int .i64 0]
    refine bodyPost_ret (results_ct_row rfl _ _ w.heap.size _ _ _ _ rfl HZ9 Tryz.underlying56 rfl (resp_info _ _ _ _ _)) rfl ⟨_, _, _, _, _, _, _, rfl, ?_, f1, f2, HS8.out.fr, HFq.out⟩
    exact ⟨rfl, _, _, rfl, (hrow_kept HO.out k9 (fun b hb => by subst hb; exact hz9)).base (Nat.le_of_lt hz9), Hpl.out⟩
end Go.Proofs.YtfpcgfgofemhoaaGreat

/- OwnerPlays: both owners side by side in memory; what they answer is alike. -/
import Derived.Test.YtfpcgfgofemhoaaGreatRc
import Derived.Test.YtfpcgfgofemhoaaGreatOl2
import Derived.Test.YtfpcgfgofemhoaaGreatOl4
import Derived.Test.YtfpcgfgofemhoaaGreatOl5
namespace Go.Proofs.YtfpcgfgofemhoaaGreat
open Go.RowKit
set_option linter.unusedVariables false
set_option linter.unusedSimpArgs false

set_option maxRecDepth 100000
def Rq.bare (r : Rq) : Rq := { r with A := none, cap := 0 }
theorem Rq.of_bare {r1 r2 : Rq} (h : r1.bare = r2.bare) : r2 = { r1 with A := r2.A, cap := r2.cap } := by
  obtain ⟨k1, f1, n1, a1, b1, c1, d1, e1, A1, l1, p1, s1⟩ := r1
  obtain ⟨k2, f2, n2, a2, b2, c2, d2, e2, A2, l2, p2, s2⟩ := r2
  simp only [Rq.bare, Rq.mk.injEq] at h ⊢
  obtain ⟨rfl, rfl, rfl, rfl, rfl, rfl, rfl, rfl, -, rfl, -, rfl⟩ := h
  simp
theorem OwAt.keptX {w w' : World} {X : Nat → Prop} {o : OB} {first : Nat} {L : Hs} {q : List Rq} (h : OwAt w o first L q) (k : Kept w w' X) (hX : ∀ b, X b → b ≠ o.g ∧ b ≠ o.p ∧ b ≠ o.b ∧ b ≠ o.t.g ∧ b ≠ o.t.p ∧ NoV w b ∧ ∀ r ∈ q, ∀ a, r.A = some a → 0 < r.len → a.block ≠ b) : OwAt w' o first L q := by
  refine ⟨k.blk h.hg (blk_lt h.hg) (fun hx => (hX _ hx).1 rfl), h.sh.keptV k (fun b hb => ⟨(hX b hb).2.2.2.2.1, (hX b hb).2.2.2.1, (hX b hb).2.2.2.2.2.1⟩), h.rg.kept k ⟨fun hx => (hX _ hx).2.1 rfl, fun hx => (hX _ hx).2.2.1 rfl⟩, fun r hr => ?_, h.may⟩
  have hb := h.bey r hr
  exact ⟨(hb.row.keptB (Nat.le_refl _) k (fun a e hn hx => (hX _ hx).2.2.2.2.2.2 r hr a e hn rfl)).more k.size, hb.ap, hb.lim⟩
theorem ShAt.blk {w : World} {t : SB} {L : Hs} (h : ShAt w t L) : w.heap[t.g]? = some (.cells #[.map (some t.p)] 109 (0, 0)) := by
  obtain ⟨m, h1, -⟩ := h
  exact h1
/-- What lies apart: the document's owner on one side, the ring and what its requests name on the other. -/
def SepX (o : OB) (q : List Rq) (x s : Nat) (A : Option Addr) (n : Nat) (W : Option Addr) : Prop :=
  (∀ a, W = some a → a.block ≠ o.b) ∧ ∀ r ∈ q, ∀ a, r.A = some a → 0 < r.len → a.block ≠ x ∧ a.block ≠ s ∧ (∀ c, A = some c → 0 < n → a.block ≠ c.block) ∧ ∀ c, W = some c → a.block ≠ c.block
section
variable {w w2 w3 : World} {Bo x s n n' cap cap' qn wn wc f : Nat} {A A' W W' : Option Addr} {L L' : Hs} {q q' : List Rq} {o : OB}
theorem OwAt.bufb (h : OwAt w o f L q) : ∃ cs, w.heap[o.b]? = some (.cells cs 36 (0, 0)) := by
  obtain ⟨cs, h1, -⟩ := h.rg.buf.hb
  exact ⟨cs, h1⟩
theorem ow_of_x (ow : OwAt w2 o f L q) (rx : RxAt w2 Bo x s A n cap L' qn W wn wc q') (sp : SepX o q x s A n W) (k : Kept w2 w3 (fun b => b = x ∨ b = s ∨ (∃ a, A = some a ∧ 0 < n ∧ b = a.block) ∨ ∃ a, W = some a ∧ b = a.block)) : OwAt w3 o f L q := by
  obtain ⟨cb, hb⟩ := ow.bufb
  have hnc := ow.sh.noC
  have hgo : ∀ (b : Nat) (c : Array Value) (t : TypeId), w2.heap[b]? = some (.cells c t (0, 0)) → t ≠ 45 → t ≠ 111 → t ≠ 109 → t ≠ 104 → b ≠ o.b → (∀ r ∈ q, ∀ a, r.A = some a → 0 < r.len → a.block ≠ b) →
      b ≠ o.g ∧ b ≠ o.p ∧ b ≠ o.b ∧ b ≠ o.t.g ∧ b ≠ o.t.p ∧ NoV w2 b ∧ ∀ r ∈ q, ∀ a, r.A = some a → 0 < r.len → a.block ≠ b := fun b c t h h1 h2 h3 h4 h5 h6 =>
    ⟨blk_ne h ow.hg h1, blk_ne h ow.rg.hp h2, h5, blk_ne h ow.sh.blk h3, fun e => hnc _ _ _ (e ▸ h), fun cs fr hc => blk_ne h hc h4 rfl, h6⟩
  refine ow.keptX k (fun b hbx => ?_)
  rcases hbx with rfl | rfl | ⟨a, e, hn, rfl⟩ | ⟨a, e, rfl⟩
  · exact hgo _ _ _ rx.hx (by decide) (by decide) (by decide) (by decide) (blk_ne rx.hx hb (by decide)) (fun r hr a e hn => (sp.2 r hr a e hn).1)
  · exact hgo _ _ _ rx.sh.blk (by decide) (by decide) (by decide) (by decide) (blk_ne rx.sh.blk hb (by decide)) (fun r hr a e hn => (sp.2 r hr a e hn).2.1)
  · obtain ⟨c1, h1⟩ := rx.sh.tyA e hn
    exact hgo _ _ _ h1 (by decide) (by decide) (by decide) (by decide) (blk_ne h1 hb (by decide)) (fun r hr a' e' hn' => (sp.2 r hr a' e' hn').2.2.1 a e hn)
  · obtain ⟨c1, h1⟩ := rx.tk.ty e
    exact hgo _ _ _ h1 (by decide) (by decide) (by decide) (by decide) (sp.1 a e) (fun r hr a' e' hn' => (sp.2 r hr a' e' hn').2.2.2 a e)
theorem rx_of_o (ow : OwAt w o f L q) (rx : RxAt w Bo x s A n cap L' qn W wn wc q') (sb : ∀ a, W = some a → a.block ≠ o.b) (lo : Bo ≤ o.p ∧ Bo ≤ o.b ∧ Bo ≤ o.t.p) (k : Kept w w2 (fun b => b = o.p ∨ b = o.b ∨ b = o.t.p)) : RxAt w2 Bo x s A n cap L' qn W wn wc q' := by
  obtain ⟨cb, hb⟩ := ow.bufb
  have hnc := ow.sh.noC
  refine rx.kept k (fun b hbx => ?_)
  rcases hbx with rfl | rfl | rfl
  · refine ⟨blk_ne ow.rg.hp rx.hx (by decide), blk_ne ow.rg.hp rx.sh.blk (by decide), fun cs fr hc => blk_ne ow.rg.hp hc (by decide) rfl, fun a e hn => ?_, fun a e => ?_, lo.1⟩
    · obtain ⟨c1, h1⟩ := rx.sh.tyA e hn
      exact blk_ne ow.rg.hp h1 (by decide)
    · obtain ⟨c1, h1⟩ := rx.tk.ty e
      exact blk_ne ow.rg.hp h1 (by decide)
  · refine ⟨blk_ne hb rx.hx (by decide), blk_ne hb rx.sh.blk (by decide), fun cs fr hc => blk_ne hb hc (by decide) rfl, fun a e hn => ?_, fun a e => (sb a e).symm, lo.2.1⟩
    obtain ⟨c1, h1⟩ := rx.sh.tyA e hn
    exact blk_ne hb h1 (by decide)
  · refine ⟨fun e => hnc _ _ _ (e ▸ rx.hx), fun e => hnc _ _ _ (e ▸ rx.sh.blk), fun cs fr hc => hnc _ _ _ hc, fun a e hn e2 => ?_, fun a e e2 => ?_, lo.2.2⟩
    · obtain ⟨c1, h1⟩ := rx.sh.tyA e hn
      exact hnc _ _ _ (e2 ▸ h1)
    · obtain ⟨c1, h1⟩ := rx.tk.ty e
      exact hnc _ _ _ (e2 ▸ h1)
theorem SepX.tail {r : Rq} (sp : SepX o (r :: q) x s A n W) : SepX o q x s A n W := ⟨sp.1, fun y hy => sp.2 y (by simp [hy])⟩
theorem SepX.next (sp : SepX o q x s A n W) (ow : OwAt w2 o f L q) (hA : ∀ a, A' = some a → 0 < n' → (A' = A ∧ 0 < n) ∨ w2.heap.size ≤ a.block) (hW : FromA w2 W W') : SepX o q x s A' n' W' := by
  have hob := ow.rg.buf.lt
  refine ⟨fun a e => ?_, fun r hr a e hn => ⟨(sp.2 r hr a e hn).1, (sp.2 r hr a e hn).2.1, fun c ec hn' => ?_, fun c ec => ?_⟩⟩
  · rcases hW a e with ⟨c, e2, e3⟩ | h
    · rw [e3]; exact sp.1 c e2
    · omega
  · rcases hA c ec hn' with ⟨e2, h2⟩ | h
    · exact (sp.2 r hr a e hn).2.2.1 c (by rw [← e2]; exact ec) h2
    · have := ow.row_lt hr e hn; omega
  · rcases hW c ec with ⟨d, e2, e3⟩ | h
    · rw [e3]; exact (sp.2 r hr a e hn).2.2.2 d e2
    · have := ow.row_lt hr e hn; omega
theorem SepX.push {r : Rq} (sp : SepX o q x s A n W) (rx : RxAt w2 Bo x s A n cap L' qn W wn wc q') (hr : ∀ a, r.A = some a → w2.heap.size ≤ a.block) : SepX o (q ++ [r]) x s A n W := by
  refine ⟨sp.1, fun y hy a e hn => ?_⟩
  rcases List.mem_append.1 hy with hy | hy
  · exact sp.2 y hy a e hn
  · simp at hy
    subst hy
    have h1 := hr a e
    have h2 := blk_lt rx.hx
    have h3 := blk_lt rx.sh.blk
    refine ⟨by omega, by omega, fun c ec hn' => ?_, fun c ec => ?_⟩
    · obtain ⟨c1, h4⟩ := rx.sh.tyA ec hn'
      have := blk_lt h4; omega
    · have := (rx.tk.lt ec).2; omega
end
/-- Both owners: they hold the same, and the same requests wait. -/
structure BothAt (w : World) (Bo : Nat) (o : OB) (f : Nat) (L : Hs) (q : List Rq) (x s : Nat) (A : Option Addr) (n cap : Nat) (W : Option Addr) (wc : Nat) (q' : List Rq) : Prop where
  ow : OwAt w o f L q
  rx : RxAt w Bo x s A n cap L o.cap W q.length wc q'
  eq : q.map Rq.bare = q'.map Rq.bare
  sp : SepX o q x s A n W
  lo : Bo ≤ o.p ∧ Bo ≤ o.b ∧ Bo ≤ o.t.p
section
variable {w w' : World} {Bo x s n cap wc f : Nat} {A W : Option Addr} {L : Hs} {q q' : List Rq} {o : OB}
theorem BothAt.below (h : BothAt w Bo o f L q x s A n cap W wc q') (hb : Below w.heap.size w w') : BothAt w' Bo o f L q x s A n cap W wc q' := ⟨h.ow.below hb, h.rx.below hb, h.eq, h.sp, h.lo⟩
theorem BothAt.len (h : BothAt w Bo o f L q x s A n cap W wc q') : n = L.length := h.rx.sh.len.symm
/-- A block of numbers that is none of theirs is written over. -/
theorem BothAt.far {g : Nat} {cs : Array Value} (h : BothAt w Bo o f L q x s A n cap W wc q') (k : Kept w w' (fun b => b = g)) (hg : w.heap[g]? = some (.cells cs 3 (0, 0))) (hB : Bo ≤ g) (hap : ∀ r ∈ q, ∀ a, r.A = some a → 0 < r.len → a.block ≠ g) : BothAt w' Bo o f L q x s A n cap W wc q' := by
  obtain ⟨cb, hb⟩ := h.ow.bufb
  have hnc := h.ow.sh.noC
  refine ⟨h.ow.keptX k (fun b e => ?_), h.rx.kept k (fun b e => ?_), h.eq, h.sp, h.lo⟩
  · subst e
    exact ⟨blk_ne hg h.ow.hg (by decide), blk_ne hg h.ow.rg.hp (by decide), blk_ne hg hb (by decide), blk_ne hg h.ow.sh.blk (by decide), fun e => hnc _ _ _ (e ▸ hg), fun cs fr hc => blk_ne hg hc (by decide) rfl, hap⟩
  · subst e
    refine ⟨blk_ne hg h.rx.hx (by decide), blk_ne hg h.rx.sh.blk (by decide), fun cs fr hc => blk_ne hg hc (by decide) rfl, fun a e hn => ?_, fun a e => ?_, hB⟩
    · obtain ⟨c1, h1⟩ := h.rx.sh.tyA e hn
      exact blk_ne hg h1 (by decide)
    · obtain ⟨c1, h1⟩ := h.rx.tk.ty e
      exact blk_ne hg h1 (by decide)
end
def repB (L : Hs) (r : Rq) : Bool := if r.kind = 1 then newP L (partR r) else repO L r
def repC (L : Hs) (r : Rq) : Int := if r.kind = 4 then (goneH L r.num : Nat) else 0
def repL (L : Hs) (r : Rq) : Hs := if r.kind = 1 then instH L (partR r) else if r.kind = 4 then collH L r.num else L
theorem RepR.all {w w' : World} {L L' : Hs} {r : Rq} {cs : Array Value} (h : RepR w L r L' cs w') (hm : mayR r = true) : L' = repL L r ∧ ∃ A1 n1 c1 A2 n2 c2 hs, cs = #[.int .i64 r.from_, .bool (repB L r), .slice A1 n1 c1, .slice A2 n2 c2, .int .i64 (repC L r)] ∧
    OwnE w' w.heap.size (.slice A1 n1 c1) (repE L r) ∧ HRow w' w.heap.size (.slice A2 n2 c2) hs ∧ plainR hs = repH L r := by
  rcases mayR_kind hm with hk | hk | hk | hk | hk
  · obtain ⟨rfl, rfl⟩ := h.k1 hk
    exact ⟨by simp [repL, hk], none, 0, 0, none, 0, 0, [], by simp [repB, repC, hk], by simp only [repE, hk]; exact World.ownsRow_nil _ _ _ _, HRow.nil _ _, by simp [repH, hk, plainR]⟩
  · obtain ⟨rfl, A1, n1, c1, A2, n2, c2, hs, rfl, h1, h2, h3⟩ := h.rows (Or.inl hk)
    exact ⟨by simp [repL, hk], A1, n1, c1, A2, n2, c2, hs, by simp [repB, repC, hk], h1, h2, h3⟩
  · obtain ⟨rfl, A1, n1, c1, A2, n2, c2, hs, rfl, h1, h2, h3⟩ := h.rows (Or.inr (Or.inl hk))
    exact ⟨by simp [repL, hk], A1, n1, c1, A2, n2, c2, hs, by simp [repB, repC, hk], h1, h2, h3⟩
  · obtain ⟨rfl, rfl⟩ := h.k4 hk
    exact ⟨by simp [repL, hk], none, 0, 0, none, 0, 0, [], by simp [repB, repO, repC, hk], by simp only [repE, hk]; exact World.ownsRow_nil _ _ _ _, HRow.nil _ _, by simp [repH, hk, plainR]⟩
  · obtain ⟨rfl, A1, n1, c1, A2, n2, c2, hs, rfl, h1, h2, h3⟩ := h.rows (Or.inr (Or.inr hk))
    exact ⟨by simp [repL, hk], A1, n1, c1, A2, n2, c2, hs, by simp [repB, repC, hk], h1, h2, h3⟩
/-- Replies to like requests are alike. -/
theorem rep_like {w1 w1' w2 w2' : World} {L L1 L2 : Hs} {r1 r2 : Rq} {cs1 cs2 : Array Value} (h1 : RepR w1 L r1 L1 cs1 w1') (h2 : RepR w2 L r2 L2 cs2 w2') (hm : mayR r1 = true) (hb : r1.bare = r2.bare) (ok : HsOk L) (hn : L.length ≤ 3518437208882) :
    L1 = L2 ∧ ∃ A1 A2 A3 A4 n m c1 c2 c3 c4 hs1 hs2, cs1 = #[.int .i64 r1.from_, .bool (repB L r1), .slice A1 n c1, .slice A3 m c3, .int .i64 (repC L r1)] ∧ cs2 = #[.int .i64 r1.from_, .bool (repB L r1), .slice A2 n c2, .slice A4 m c4, .int .i64 (repC L r1)] ∧
      OwnE w1' w1.heap.size (.slice A1 n c1) (repE L r1) ∧ OwnE w2' w2.heap.size (.slice A2 n c2) (repE L r1) ∧ HRow w1' w1.heap.size (.slice A3 m c3) hs1 ∧ HRow w2' w2.heap.size (.slice A4 m c4) hs2 ∧ plainR hs1 = plainR hs2 ∧ n ≤ 4398046511104 ∧ m ≤ 3518437208883 ∧ ∀ h ∈ hs1, h.len ≤ 4398046511104 := by
  have e := Rq.of_bare hb
  generalize r2.A = A at e
  generalize r2.cap = cp at e
  subst e
  have hm2 : mayR { r1 with A := A, cap := cp } = true := hm
  obtain ⟨g1, A1, n1, c1, A3, m1, c3, hs1, rfl, a1, a2, a3⟩ := h1.all hm
  obtain ⟨g2, A2, n2, c2, A4, m2, c4, hs2, rfl, b1, b2, b3⟩ := h2.all hm2
  have e1 := (en_at2 a1).len
  have e2 := (en_at2 b1).len
  have e3 : repE L { r1 with A := A, cap := cp } = repE L r1 := rfl
  rw [e3] at e2 b1
  have e4 := (hr_at a2).2
  have e5 := (hr_at b2).2
  have e6 : repH L { r1 with A := A, cap := cp } = repH L r1 := rfl
  rw [e6] at b3
  have l1 := plainR_len hs1
  have l2 := plainR_len hs2
  rw [a3] at l1
  rw [b3] at l2
  have l3 := repE_len L r1
  have l4 := repH_len L r1
  obtain rfl : n2 = n1 := by omega
  obtain rfl : m2 = m1 := by omega
  exact ⟨by rw [g1, g2]; rfl, A1, A2, A3, A4, n2, m2, c1, c2, c3, c4, hs1, hs2, rfl, rfl, a1, b1, a2, b2, by rw [a3, b3], by omega, by omega, hr_lens a2 a3 (repH_ok ok r1)⟩
end Go.Proofs.YtfpcgfgofemhoaaGreat

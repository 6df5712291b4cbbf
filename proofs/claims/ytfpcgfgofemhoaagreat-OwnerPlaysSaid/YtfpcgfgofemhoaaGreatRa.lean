/- towpathref15: an owner's memory; Len, Room, All, New. -/
import Derived.Test.YtfpcgfgofemhoaaGreatPY
import Derived.Test.YtfpcgfgofemhoaaGreatPV
import Derived.Test.YtfpcgfgofemhoaaGreatOl0
import Derived.Test.YtfpcgfgofemhoaaGreatTk
namespace Go.Proofs.YtfpcgfgofemhoaaGreat
open Go.RowKit
set_option linter.unusedVariables false
set_option linter.unusedSimpArgs false

set_option maxRecDepth 100000
/-- The document's owner: its struct lies in x, its shard in s; it holds L, its requests are q. All of it lies above Bo; what requests name lies below. -/
structure RxAt (w : World) (Bo x s : Nat) (A : Option Addr) (n cap : Nat) (L : Hs) (qn : Nat) (W : Option Addr) (wn wc : Nat) (q : List Rq) : Prop where
  hx : w.heap[x]? = some (.cells #[.pointer (some ⟨s, 0, none⟩), .int .i64 qn, .slice W wn wc] 81 (0, 0))
  sh : RsAt w s A n cap L
  tk : TkAt Rq.cells 9 36 w Bo W wn wc q
  bey : ∀ r ∈ q, RowAt Icell 1 w Bo r.A r.len r.bs ∧ r.len ≤ 17592186044416
  may : ∀ r ∈ q, mayR r = true
  lim : wn ≤ qn ∧ qn ≤ 16
  lo : Bo ≤ x ∧ Bo ≤ s ∧ (∀ a, A = some a → 0 < n → Bo ≤ a.block) ∧ Bo ≤ w.heap.size
section
variable {w w' : World} {Bo x s n cap qn wn wc : Nat} {A W : Option Addr} {L : Hs} {q : List Rq}
theorem RxAt.kept {X : Nat → Prop} (h : RxAt w Bo x s A n cap L qn W wn wc q) (k : Kept w w' X) (hX : ∀ b, X b → b ≠ x ∧ b ≠ s ∧ NoV w b ∧ (∀ a, A = some a → 0 < n → b ≠ a.block) ∧ (∀ a, W = some a → b ≠ a.block) ∧ Bo ≤ b) : RxAt w' Bo x s A n cap L qn W wn wc q :=
  ⟨k.blk h.hx (blk_lt h.hx) (fun hx => (hX _ hx).1 rfl), h.sh.kept k (fun b hb => ⟨(hX b hb).2.1, (hX b hb).2.2.1, (hX b hb).2.2.2.1⟩),
    h.tk.kept k (fun a e hx => (hX _ hx).2.2.2.2.1 a e rfl), fun r hr => ⟨(h.bey r hr).1.keptB h.lo.2.2.2 k (fun a e hn hx => by
      obtain ⟨b, off, e2, hb, -⟩ := (h.bey r hr).1.2 hn
      rw [e] at e2
      injection e2 with e2
      have := (hX _ hx).2.2.2.2.2
      rw [e2] at this
      exact absurd hb (Nat.not_lt.2 this)), (h.bey r hr).2⟩, h.may, h.lim, h.lo.1, h.lo.2.1, h.lo.2.2.1, Nat.le_trans h.lo.2.2.2 k.size⟩
theorem RxAt.below (h : RxAt w Bo x s A n cap L qn W wn wc q) (hb : Below w.heap.size w w') : RxAt w' Bo x s A n cap L qn W wn wc q := h.kept (X := fun _ => False) (Kept.of_below hb) (fun b hb => hb.elim)
theorem RxAt.c0 (h : RxAt w Bo x s A n cap L qn W wn wc q) : w.cell? ⟨x, 0, none⟩ = some (.pointer (some ⟨s, 0, none⟩)) := blk_cell h.hx 0
theorem RxAt.c1 (h : RxAt w Bo x s A n cap L qn W wn wc q) : w.cell? ⟨x, 1, none⟩ = some (.int .i64 qn) := blk_cell h.hx 1
theorem RxAt.c2 (h : RxAt w Bo x s A n cap L qn W wn wc q) : w.cell? ⟨x, 2, none⟩ = some (.slice W wn wc) := blk_cell h.hx 2
theorem blk_ne {w : World} {a b : Nat} {c1 c2 : Array Value} {t1 t2 : TypeId} {f1 f2 : Nat × Nat} (h1 : w.heap[a]? = some (.cells c1 t1 f1)) (h2 : w.heap[b]? = some (.cells c2 t2 f2)) (ht : t1 ≠ t2) : a ≠ b := fun e => by
  subst e; rw [h1] at h2; injection h2 with h2; injection h2 with _ h3; exact ht h3
theorem RsAt.tyA {w : World} {s n cap : Nat} {A : Option Addr} {L : Hs} (h : RsAt w s A n cap L) {a : Addr} (e : A = some a) (hn : 0 < n) : ∃ cs, w.heap[a.block]? = some (.cells cs 70 (0, 0)) := by
  obtain ⟨hs, -, -, -, -, -, -, -, h8⟩ := h
  exact h8 a e hn
theorem RsAt.blk {w : World} {s n cap : Nat} {A : Option Addr} {L : Hs} (h : RsAt w s A n cap L) : w.heap[s]? = some (.cells #[.slice A n cap] 114 (0, 0)) := by
  obtain ⟨hs, h1, -⟩ := h
  exact h1
/-- A request more. -/
theorem RxAt.asked {w6 : World} {r : Rq} {W' : Option Addr} {wc' : Nat} (h : RxAt w Bo x s A n cap L qn W wn wc q) (ht : TkAt Rq.cells 9 36 w6 Bo W' (wn + 1) wc' (q ++ [r])) (k : Kept w w6 (fun b => ∃ a, W = some a ∧ b = a.block)) (hr : wn < qn)
    (hi : RowAt Icell 1 w Bo r.A r.len r.bs) (hl : r.len ≤ 17592186044416) (hm : mayR r = true) :
    RxAt (w6.setCell ⟨x, 2, none⟩ (.slice W' (wn + 1) wc')) Bo x s A n cap L qn W' (wn + 1) wc' (q ++ [r]) ∧ Kept w (w6.setCell ⟨x, 2, none⟩ (.slice W' (wn + 1) wc')) (fun b => b = x ∨ ∃ a, W = some a ∧ b = a.block) := by
  have hxW : ∀ a, W = some a → x ≠ a.block := fun a e => by
    obtain ⟨cs, hc⟩ := h.tk.ty e
    exact blk_ne h.hx hc (by decide)
  have hx6 : w6.heap[x]? = some (.cells #[.pointer (some ⟨s, 0, none⟩), .int .i64 qn, .slice W wn wc] 81 (0, 0)) := k.blk h.hx (blk_lt h.hx) (fun ⟨a, e, e2⟩ => hxW a e e2)
  have hs6 : RsAt w6 s A n cap L := h.sh.kept k (fun b ⟨a, e, e2⟩ => by
    obtain ⟨cs, hc⟩ := h.tk.ty e
    rw [← e2] at hc
    refine ⟨blk_ne hc h.sh.blk (by decide), fun cs' fr hc' => blk_ne hc hc' (by decide) rfl, fun a' e' hn => ?_⟩
    obtain ⟨cs', hc'⟩ := h.sh.tyA e' hn
    exact blk_ne hc hc' (by decide))
  have kx : Kept w6 (w6.setCell ⟨x, 2, none⟩ (.slice W' (wn + 1) wc')) (fun b => b = x) := Kept.setCell (X := fun b => b = x) (Kept.refl _ _) (p := ⟨x, 2, none⟩) (Or.inl rfl) _
  have hk : Kept w (w6.setCell ⟨x, 2, none⟩ (.slice W' (wn + 1) wc')) (fun b => b = x ∨ ∃ a, W = some a ∧ b = a.block) := (k.mono fun b hb => Or.inr hb).trans (kx.mono fun b hb => Or.inl hb)
  refine ⟨⟨by simpa using blk_set hx6 2 (.slice W' (wn + 1) wc'), hs6.kept kx (fun b hb => ?_), ht.kept kx (fun a e hb => ?_), fun y hy => ?_, fun y hy => ?_, ⟨by omega, h.lim.2⟩, h.lo.1, h.lo.2.1, h.lo.2.2.1, Nat.le_trans h.lo.2.2.2 hk.size⟩, hk⟩
  · subst hb
    refine ⟨blk_ne hx6 hs6.blk (by decide), fun cs' fr hc' => blk_ne hx6 hc' (by decide) rfl, fun a' e' hn => ?_⟩
    obtain ⟨cs', hc'⟩ := hs6.tyA e' hn
    exact blk_ne hx6 hc' (by decide)
  · obtain ⟨cs, hc⟩ := ht.ty e
    exact blk_ne hx6 hc (by decide) hb.symm
  · have : RowAt Icell 1 w Bo y.A y.len y.bs ∧ y.len ≤ 17592186044416 := by
      rcases List.mem_append.1 hy with hy | hy
      · exact h.bey y hy
      · simp at hy; subst hy; exact ⟨hi, hl⟩
    refine ⟨this.1.keptB h.lo.2.2.2 hk (fun a e hn hx => ?_), this.2⟩
    obtain ⟨b, off, e2, hb, -⟩ := this.1.2 hn
    rw [e] at e2
    injection e2 with e2
    subst e2
    rcases hx with hx | ⟨a, e3, e4⟩
    · have := h.lo.1; simp only at hx; omega
    · have := (h.tk.lt e3).1; simp only at e4; omega
  · rcases List.mem_append.1 hy with hy | hy
    · exact h.may y hy
    · simp at hy; subst hy; exact hm
theorem RxAt.len (h : RxAt w Bo x s A n cap L qn W wn wc q) : q.length = wn := h.tk.1
end
theorem r15len_any (Bo x s n cap qn wn wc : Nat) (A W : Option Addr) (L : Hs) (q : List Rq) (w : World) (h : RxAt w Bo x s A n cap L qn W wn wc q) :
    Calls Tryz.prog 21 #[.pointer (some ⟨x, 0, none⟩)] w fun e w' => e = .returned (.int .i64 q.length) ∧ w' = w := by
  have h2 := h.c2
  have hl := Lib.hid h.len
  clear h
  go_enter Tryz.func21, Tryz.ntmps21
  go_wp2_with fail
  go_ret
  exact ⟨by rw [hl.out]; rfl, rfl⟩
theorem r15room_any (Bo x s n cap qn wn wc : Nat) (A W : Option Addr) (L : Hs) (q : List Rq) (w : World) (h : RxAt w Bo x s A n cap L qn W wn wc q) :
    Calls Tryz.prog 23 #[.pointer (some ⟨x, 0, none⟩)] w fun e w' => e = .returned (.int .i64 ((qn - q.length : Nat) : Int)) ∧ Below w.heap.size w w' := by
  have h1 := h.c1
  have h2 := h.c2
  have hl := Lib.hid h.len
  obtain ⟨hi1, hi2⟩ := h.lim
  clear h
  have e1 : ((qn - wn : Nat) : Int) = (qn : Int) - (wn : Int) := by omega
  have E1 := Lib.hid e1
  have s1 : IntKind.i64.wrap ((qn : Int) - (wn : Int)) = (qn : Int) - (wn : Int) := IntWalk.i64_in _ (by omega)
  clear e1
  go_enter Tryz.func23, Tryz.ntmps23
  go_upto_region 3 with fail
  go_quiet (fail)
  go_wp2_with fail
  go_ret
  exact ⟨by rw [hl.out, E1.out]; rfl, below_drewN (Below.refl _ _) _⟩
theorem r15all_any (Bo x s n cap qn wn wc : Nat) (A W : Option Addr) (L : Hs) (q : List Rq) (w : World) (h : RxAt w Bo x s A n cap L qn W wn wc q) (hn : n ≤ 3518437208883) :
    Calls Tryz.prog 26 #[.pointer (some ⟨x, 0, none⟩)] w (HeldsEnd w L) := by
  have h1 := h.c0
  have hr := Lib.hid (r9all_any s A n cap L w h.sh hn)
  clear h
  go_enter Tryz.func26, Tryz.ntmps26
  go_wp2_with fail
  refine hr.out.mono ?_
  rintro e w2 ⟨v, hs, rfl, hrow, hpl, hb⟩
  have Hr := Lib.hid (show HeldsEnd w L (.returned v) w2 from ⟨v, hs, rfl, hrow, hpl, hb⟩)
  clear hrow hpl hb
  go_wp2_with fail
  go_ret
  exact Hr.out
/-- What New answers. -/
def R15New (w : World) (Bo : Nat) (number queue : Int) (L : Hs) (e : Ending) (w' : World) : Prop :=
  if (0 ≤ number ∧ number < 16 ∧ 1 ≤ queue ∧ queue ≤ 16) ∧ mayH L = true then
    ∃ x s A cap, e = .returned (.tuple #[.pointer (some ⟨x, 0, none⟩), .int .i64 0]) ∧ RxAt w' Bo x s A L.length cap L queue.toNat none 0 0 [] ∧ w.heap.size ≤ x ∧ w.heap.size ≤ s ∧ (∀ a, A = some a → w.heap.size ≤ a.block) ∧ Below w.heap.size w w'
  else e = .returned (.tuple #[.pointer none, .int .i64 1]) ∧ Below w.heap.size w w'
set_option maxHeartbeats 2000000 in
theorem r15new_any (Bo : Nat) (number queue : Int) (A : Option Addr) (len cap : Nat) (hs : List HR) (w : World) (hB : Bo ≤ w.heap.size) (hw : HdsAt w w.heap.size A len hs) (hl : len ≤ 3518437208883) (hlv : ∀ h ∈ hs, h.len ≤ 4398046511104) :
    Calls Tryz.prog 11 #[.int .i64 number, .int .i64 queue, .slice A len cap] w (R15New w Bo number queue (plainR hs)) := by
  have Hload := Lib.hid (r9load_any A len cap hs w hw hl hlv)
  have hbad : ∀ X, ¬ ((0 ≤ number ∧ number < 16 ∧ 1 ≤ queue ∧ queue ≤ 16) ∧ mayH (plainR hs) = true) → Below w.heap.size w X → R15New w Bo number queue (plainR hs) (.returned (.tuple #[.pointer none, .int .i64 1])) X := fun X h h' => by
    unfold R15New; rw [if_neg h]; exact ⟨rfl, h'⟩
  have Hbad := Lib.hid hbad
  have HB := Lib.hid hB
  clear hbad hw hB
  by_cases h1 : 0 ≤ number ∧ number < 16
  · obtain ⟨h2, h3⟩ := h1
    by_cases h4 : 1 ≤ queue ∧ queue ≤ 16
    · obtain ⟨h5, h6⟩ := h4
      obtain ⟨c, rfl⟩ : ∃ c : Nat, queue = c := ⟨queue.toNat, by omega⟩
      have hc1 : 1 ≤ c := by omega
      have hc2 : c ≤ 16 := by omega
      have hgood : ∀ x s A cap X, mayH (plainR hs) = true → RxAt X Bo x s A (plainR hs).length cap (plainR hs) c none 0 0 [] → w.heap.size ≤ x → w.heap.size ≤ s → (∀ a, A = some a → w.heap.size ≤ a.block) → Below w.heap.size w X →
          R15New w Bo number c (plainR hs) (.returned (.tuple #[.pointer (some ⟨x, 0, none⟩), .int .i64 0])) X := fun x s A cap X g0 g1 g2 g3 g4 g5 => by
        unfold R15New; rw [if_pos ⟨⟨h2, h3, h5, h6⟩, g0⟩]; exact ⟨x, s, A, cap, rfl, by simpa using g1, g2, g3, g4, g5⟩
      have Hgood := Lib.hid hgood
      clear hgood
      go_enter Tryz.func11, Tryz.ntmps11
      go_wp2_with fail
      refine Hload.out.mono ?_
      rintro e w1 ⟨hb1, hok, hno⟩
      have Hb1 := Lib.hid hb1
      clear hb1
      cases hm : mayH (plainR hs)
      · obtain rfl := hno hm
        have Hm := Lib.hid hm
        clear hok hno hm
        go_wp2_with fail
        go_ret2
        exact Hbad.out _ (fun h => by rw [Hm.out] at h; cases h.2) Hb1.out
      · obtain ⟨s, A2, cap2, rfl, hrs, hs1, hs2⟩ := hok hm
        have Hm := Lib.hid hm
        have Hrs := Lib.hid hrs
        have Hs1 := Lib.hid hs1
        have Hs2 := Lib.hid hs2
        clear hok hno hm hrs hs1 hs2
        go_wp2_with fail
        go_ret2
        have hz := Hb1.out.size
        have hB := HB.out
        refine Hgood.out w1.heap.size s A2 cap2 _ Hm.out ⟨blk_new _ _, Hrs.out.below (bel_alloc (Below.refl _ _) _), TkAt.nil _ _, (fun r hr => by cases hr), (fun r hr => by cases hr), ⟨by omega, by omega⟩, ⟨by omega, by have := Hs1.out; omega, fun a e _ => by have := Hs2.out a e; omega, by simp; omega⟩⟩ hz Hs1.out Hs2.out (bel_alloc Hb1.out _)
    · by_cases h5 : 1 ≤ queue
      · have h6 : 16 < queue := by omega
        go_enter Tryz.func11, Tryz.ntmps11
        go_wp2_with fail
        go_ret2
        exact Hbad.out _ (fun h => h4 h.1.2.2) (Below.refl _ _)
      · go_enter Tryz.func11, Tryz.ntmps11
        go_wp2_with fail
        go_ret2
        exact Hbad.out _ (fun h => h4 h.1.2.2) (Below.refl _ _)
  · by_cases h5 : 0 ≤ number
    · have h6 : 16 ≤ number := by omega
      go_enter Tryz.func11, Tryz.ntmps11
      go_wp2_with fail
      go_ret2
      exact Hbad.out _ (fun h => h1 ⟨h.1.1, h.1.2.1⟩) (Below.refl _ _)
    · go_enter Tryz.func11, Tryz.ntmps11
      go_wp2_with fail
      go_ret2
      exact Hbad.out _ (fun h => h1 ⟨h.1.1, h.1.2.1⟩) (Below.refl _ _)
end Go.Proofs.YtfpcgfgofemhoaaGreat

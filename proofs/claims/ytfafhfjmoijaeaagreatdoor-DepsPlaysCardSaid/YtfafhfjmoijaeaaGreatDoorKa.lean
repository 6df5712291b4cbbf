/- DepsPlays: what is asked of both tables, at memory. -/
import Derived.Test.YtfafhfjmoijaeaaGreatDoorKu
import Derived.Test.YtfafhfjmoijaeaaGreatDoorKb
namespace Go.Proofs.YtfafhfjmoijaeaaGreatDoor
open Go.RowKit
set_option linter.unusedVariables false
set_option linter.unusedSimpArgs false

open Go.Maps
set_option maxRecDepth 100000
/-- A block is a map, or has cells of one of these types. -/
def Typ (w : World) (b : Nat) (S : List TypeId) : Prop := (∃ es ck, w.heap[b]? = some (.map es ck)) ∨ ∃ cs e, w.heap[b]? = some (.cells cs e (0, 0)) ∧ e ∈ S
theorem Typ.no {w : World} {b : Nat} {S : List TypeId} (h : Typ w b S) {cs : Array Value} {e : TypeId} (hb : w.heap[b]? = some (.cells cs e (0, 0))) (he : e ∉ S) : False := by
  rcases h with ⟨es, ck, h⟩ | ⟨cs2, e2, h, h2⟩
  · rw [hb] at h; cases h
  · rw [hb] at h; injection h with h; injection h with _ h; subst h; exact he h2
theorem TabAt.typ {w : World} {t : TB} {d : DT} (h : TabAt w t d) {b : Nat} (hb : t.has b) : Typ w b [32] := by
  rcases hb with rfl | rfl | rfl | rfl
  · exact Or.inr ⟨_, _, h.cell, by simp⟩
  · obtain ⟨es, ck, h1, -⟩ := h.last; exact Or.inl ⟨_, _, h1⟩
  · obtain ⟨es, ck, h1, -⟩ := h.opn; exact Or.inl ⟨_, _, h1⟩
  · obtain ⟨es, ck, h1, -⟩ := h.wts; exact Or.inl ⟨_, _, h1⟩
theorem TabAt.keptT {w w' : World} {t : TB} {d : DT} {X : Nat → Prop} (h : TabAt w t d) (k : Kept w w' X) (hX : ∀ b, X b → ∃ cs e, w.heap[b]? = some (.cells cs e (0, 0)) ∧ e ≠ 32) : TabAt w' t d := h.kept k fun b hb hx => by
  obtain ⟨cs, e, h1, h2⟩ := hX b hx
  exact (h.typ hb).no h1 (by simpa using h2)
theorem RTAt.typR {w : World} {lo gr n c : Nat} {A : Option Addr} {xs : List O2} (h : RTAt w lo gr A n c xs) {b : Nat} (hb : hasR gr A xs b) : ∃ cs e, w.heap[b]? = some (.cells cs e (0, 0)) ∧ e ∈ [57, 79, 75, 3] := by
  rcases hb with rfl | ⟨a, ea, rfl⟩ | hb
  · exact ⟨_, _, h.st, by simp⟩
  · obtain ⟨cs, hc⟩ := h.tk.ty ea; exact ⟨cs, _, hc, by simp⟩
  · obtain ⟨cs, e, h1, h2⟩ := h.hasL_ty hb
    exact ⟨cs, e, h1, by rcases h2 with rfl | rfl <;> simp⟩
theorem RTAt.keptT {w w' : World} {lo gr n c : Nat} {A : Option Addr} {xs : List O2} {X : Nat → Prop} (h : RTAt w lo gr A n c xs) (k : Kept w w' X) {S : List TypeId} (hX : ∀ b, X b → Typ w b S) (hS : ∀ e ∈ [57, 79, 75, 3], e ∉ S) : RTAt w' lo gr A n c xs := h.kept k fun b hb hx => by
  obtain ⟨cs, e, h1, h2⟩ := h.typR hb
  exact (hX b hx).no h1 (hS e h2)
/-- Types of what a book has. -/
theorem BkAtK.keptT {w w' : World} {g Bo cnt : Nat} {xI xW : List BkE} {X : Nat → Prop} (h : BkAtK w g Bo cnt xI xW) (k : Kept w w' X) {S : List TypeId} (hX : ∀ b, X b → Typ w b S) (hS : ∀ e ∈ [46, 93, 99, 75, 3], e ∉ S) : BkAtK w' g Bo cnt xI xW := by
  have h' := h
  obtain ⟨lo, num, ⟨cs, hg, -, -, -, -, -, -, -, -, -, -, -, kI, kW⟩, l1, l2⟩ := h
  obtain ⟨SA, sc, q1, q2, q3, q4⟩ := kI
  obtain ⟨SB, sd, r1, r2, r3, r4⟩ := kW
  refine h'.kept k fun b hb => ⟨fun e => ?_, fun ⟨e, he, a, ea, e2⟩ => ?_, fun ⟨e, he, a, ea, e2⟩ => ?_, fun cs hc => ?_, fun cs hc => ?_⟩
  · subst e; exact (hX _ hb).no hg (hS _ (by simp))
  · subst e2; obtain ⟨cs, hc⟩ := (q3 e he).tk.ty ea; exact (hX _ hb).no hc (hS _ (by simp))
  · subst e2; obtain ⟨cs, hc⟩ := (r3 e he).tk.ty ea; exact (hX _ hb).no hc (hS _ (by simp))
  · exact (hX _ hb).no hc (hS _ (by simp))
  · exact (hX _ hb).no hc (hS _ (by simp))
theorem BkAtK.tyg {w : World} {g Bo cnt : Nat} {xI xW : List BkE} (h : BkAtK w g Bo cnt xI xW) : ∃ cs, w.heap[g]? = some (.cells cs 46 (0, 0)) := by
  obtain ⟨-, -, ⟨cs, hg, -⟩, -, -⟩ := h; exact ⟨cs, hg⟩
theorem BkAtK.tyI {w : World} {g Bo cnt : Nat} {xI xW : List BkE} (h : BkAtK w g Bo cnt xI xW) {b : Nat} (hb : InE xI b) : ∃ cs, w.heap[b]? = some (.cells cs 3 (0, 0)) := by
  obtain ⟨lo, num, ⟨cs, hg, -, -, -, -, -, -, -, -, -, -, -, kI, kW⟩, l1, l2⟩ := h
  obtain ⟨SA, sc, q1, q2, q3, q4⟩ := kI
  obtain ⟨e, he, a, ea, rfl⟩ := hb
  exact (q3 e he).tk.ty ea
theorem BkAtK.tyW {w : World} {g Bo cnt : Nat} {xI xW : List BkE} (h : BkAtK w g Bo cnt xI xW) {b : Nat} (hb : InE xW b) : ∃ cs, w.heap[b]? = some (.cells cs 75 (0, 0)) := by
  obtain ⟨lo, num, ⟨cs, hg, -, -, -, -, -, -, -, -, -, -, -, kI, kW⟩, l1, l2⟩ := h
  obtain ⟨SB, sd, r1, r2, r3, r4⟩ := kW
  obtain ⟨e, he, a, ea, rfl⟩ := hb
  exact (r3 e he).tk.ty ea
theorem BkAtK.inlt {w : World} {g Bo cnt : Nat} {xI xW : List BkE} (h : BkAtK w g Bo cnt xI xW) {b : Nat} (hb : InE xI b ∨ InE xW b) : Bo ≤ b ∧ b < w.heap.size := by
  obtain ⟨lo, num, ⟨cs, hg, -, -, -, -, -, -, -, -, -, -, -, kI, kW⟩, l1, l2⟩ := h
  obtain ⟨SA, sc, q1, q2, q3, q4⟩ := kI
  obtain ⟨SB, sd, r1, r2, r3, r4⟩ := kW
  rcases hb with ⟨e, he, a, ea, rfl⟩ | ⟨e, he, a, ea, rfl⟩
  · exact (q3 e he).tk.lt ea
  · exact (r3 e he).tk.lt ea
/-- Both tables, and one that no call made. -/
structure DPT (w : World) (lo : Nat) (t : TB) (gz gr N m : Nat) (d : DT) (A : Option Addr) (n c : Nat) (xs : List O2) : Prop where
  kk : KIn m d (xs.map O2.o)
  tt : TabAt w t d
  rr : RTAt w lo gr A n c xs
  nn : n ≤ N
  w32 : W32 (xs.map O2.o)
  z : ZeroT w gz
  lot : ∀ k, t.has k → lo ≤ k
  log : lo ≤ gr
/-- Likewise; and what a book has been told. -/
def DPS (w : World) (lo : Nat) (t : TB) (gz gr gb N : Nat) : Prop := ∃ m d A n c xs cnt xI xW, DPT w lo t gz gr N m d A n c xs ∧ BkAtK w gb lo cnt xI xW ∧ cnt ≤ N ∧ xI.length ≤ N ∧ xW.length ≤ N ∧ ∀ b, hasL xs b → ¬ (InE xI b ∨ InE xW b)
section
variable {w w' : World} {lo gz gr N m n c : Nat} {t : TB} {d : DT} {A : Option Addr} {xs : List O2}
theorem DPT.ne (h : DPT w lo t gz gr N m d A n c xs) : ¬ t.has gz := by
  rintro (e | hb)
  · have h1 := h.tt.cell; have h2 := h.z
    unfold ZeroT at h2
    rw [← e, h2] at h1
    injection h1 with h1; injection h1 with h1; simp at h1
  · rcases hb with e | e | e
    · obtain ⟨es, ck, h1, -⟩ := h.tt.last; rw [← e, h.z] at h1; cases h1
    · obtain ⟨es, ck, h1, -⟩ := h.tt.opn; rw [← e, h.z] at h1; cases h1
    · obtain ⟨es, ck, h1, -⟩ := h.tt.wts; rw [← e, h.z] at h1; cases h1
theorem DPT.below (h : DPT w lo t gz gr N m d A n c xs) (hb : Below w.heap.size w w') : DPT w' lo t gz gr N m d A n c xs :=
  ⟨h.kk, h.tt.below hb, h.rr.below hb, h.nn, h.w32, (hb.block _ (blk_lt h.z)).trans h.z, h.lot, h.log⟩
theorem DPT.up (h : DPT w lo t gz gr N m d A n c xs) : DPT w lo t gz gr (N + 1) m d A n c xs := ⟨h.kk, h.tt, h.rr, Nat.le_succ_of_le h.nn, h.w32, h.z, h.lot, h.log⟩
/-- A step that writes over blocks of other types. -/
theorem DPT.keptT {X : Nat → Prop} {S : List TypeId} (h : DPT w lo t gz gr N m d A n c xs) (k : Kept w w' X) (hX : ∀ b, X b → ∃ cs e, w.heap[b]? = some (.cells cs e (0, 0)) ∧ e ∈ S) (hS : ∀ e ∈ [32, 57, 79, 75, 3], e ∉ S) : DPT w' lo t gz gr N m d A n c xs := by
  have hT : ∀ b, X b → Typ w b S := fun b hb => Or.inr (hX b hb)
  refine ⟨h.kk, h.tt.keptT k (fun b hb => ?_), h.rr.keptT k hT (fun e he => hS e (List.mem_cons_of_mem _ he)), h.nn, h.w32, k.blk h.z (blk_lt h.z) (fun hb => (hT _ hb).no h.z (hS _ (by simp))), h.lot, h.log⟩
  obtain ⟨cs, e, h1, h2⟩ := hX b hb
  exact ⟨cs, e, h1, fun e2 => hS _ (by simp) (e2 ▸ h2)⟩
end
end Go.Proofs.YtfafhfjmoijaeaaGreatDoor

/- Lemmas and contracts of functions that a statement of this seat stands on; each holds under the premises typed in its head. -/
import Derived.Test.YtgkhgbeiploefaaDoorStat2
import Derived.Test.YtgkhgbeiploefaaDoorIntC
namespace Go.Proofs.YtgkhgbeiploefaaDoor
open Go.RowKit
set_option linter.unusedVariables false
set_option linter.unusedSimpArgs false

section
variable {a b c w w' : World} {X Y : Nat → Prop}
end

def kindN (s : Sts) (e : Ev) : Sts := if e.kind = 7 then does1 s e else if e.kind = 3 then does2 s e else if e.kind = 12 then does3 s e else s
/-- The same, of the first j rows of the table. -/
def kindTo (j : Nat) (s : Sts) (e : Ev) : Sts :=
  if 1 ≤ j ∧ e.kind = 7 then does1 s e else if 2 ≤ j ∧ e.kind = 3 then does2 s e else if 3 ≤ j ∧ e.kind = 12 then does3 s e else s
theorem kindTo_3 (s : Sts) (e : Ev) : kindTo 3 s e = kindN s e := by simp [kindTo, kindN]
theorem kindTo_0 (s : Sts) (e : Ev) : kindTo 0 s e = s := by simp [kindTo]
def busyN (h : List Bool) : Int := ((h.filter id).length : Nat)
def evStep (p : Sts × List Bool) (e : Ev) : Sts × List Bool :=
  ({ kindN p.1 e with busy := max (kindN p.1 e).busy (busyN (holdB p.2 e)) }, holdB p.2 e)
def evRun (l : List Ev) (p : Sts × List Bool) : Sts × List Bool := l.foldl evStep p
theorem evRun_snoc {l : List Ev} {k : Nat} {e : Ev} (h : l[k]? = some e) (p : Sts × List Bool) : evRun (l.take (k + 1)) p = evStep (evRun (l.take k) p) e := by
  unfold evRun
  rw [List.take_add_one, h]
  simp [List.foldl_append]
/-- Bounds behind k events. -/
def StsOk (k n : Nat) (p : Sts × List Bool) : Prop := 0 ≤ p.1.installs ∧ p.1.installs ≤ k ∧ 0 ≤ p.1.reads ∧ p.1.reads ≤ k ∧ 0 ≤ p.1.lag ∧ p.1.lag ≤ 65536 ∧ 0 ≤ p.1.busy ∧ p.1.busy ≤ n ∧ p.2.length = n
theorem mayB_bd {n m : Int} (h : mayB n m = true) : 0 ≤ n ∧ 0 ≤ m ∧ n ≤ 65536 ∧ m ≤ 65536 := by simp only [mayB] at h; grind
theorem busyN_bd (h : List Bool) : 0 ≤ busyN h ∧ busyN h ≤ h.length := by
  unfold busyN; have := List.length_filter_le id h; omega
theorem kindN_ok {k n : Nat} {s : Sts} {h : List Bool} (e : Ev) (hs : StsOk k n (s, h)) : StsOk (k + 1) n (kindN s e, h) := by
  obtain ⟨a, b, c, d, e1, f, g, i, j⟩ := hs
  simp only at a b c d e1 f g i j
  unfold kindN
  split
  · unfold does1; split <;> (refine ⟨?_, ?_, ?_, ?_, ?_, ?_, ?_, ?_, ?_⟩ <;> simp only <;> omega)
  · split
    · unfold does2; split
      · rename_i hm
        have := mayB_bd hm
        refine ⟨?_, ?_, ?_, ?_, ?_, ?_, ?_, ?_, ?_⟩ <;> simp only <;> omega
      · refine ⟨?_, ?_, ?_, ?_, ?_, ?_, ?_, ?_, ?_⟩ <;> simp only <;> omega
    · split
      · unfold does3; refine ⟨?_, ?_, ?_, ?_, ?_, ?_, ?_, ?_, ?_⟩ <;> simp only <;> omega
      · refine ⟨?_, ?_, ?_, ?_, ?_, ?_, ?_, ?_, ?_⟩ <;> simp only <;> omega
theorem evStep_ok {k n : Nat} {p : Sts × List Bool} (e : Ev) (hs : StsOk k n p) : StsOk (k + 1) n (evStep p e) := by
  obtain ⟨s, h⟩ := p
  have h1 := kindN_ok e hs
  obtain ⟨a, b, c, d, e1, f, g, i, j⟩ := h1
  simp only at a b c d e1 f g i j
  have hl := holdB_len h e
  have hb := busyN_bd (holdB h e)
  refine ⟨a, b, c, d, e1, f, ?_, ?_, ?_⟩ <;> simp only [evStep] <;> omega
theorem evRun_ok {n : Nat} {p : Sts × List Bool} (hs : StsOk 0 n p) : ∀ (l : List Ev), StsOk l.length n (evRun l p) := by
  intro l
  suffices h : ∀ (l : List Ev) (k : Nat) (p : Sts × List Bool), StsOk k n p → StsOk (k + l.length) n (evRun l p) by
    have := h l 0 p hs; simpa using this
  intro l
  induction l with
  | nil => intro k p hs; exact hs
  | cons e r ih =>
    intro k p hs
    have := ih (k + 1) (evStep p e) (evStep_ok e hs)
    rw [List.length_cons, show k + (r.length + 1) = k + 1 + r.length from by omega]
    exact this
def sts0 (n : Int) : Sts := ⟨n, 0, 0, 0, 0⟩
abbrev EsAt := RowAt Ev.cells 6
theorem EsAt.cell6 {w : World} {B n i : Nat} {A : Option Addr} {l : List Ev} (h : EsAt w B A n l) (hi : i < n) :
    ∃ b off x, A = some ⟨b, off, none⟩ ∧ b < B ∧ l[i]? = some x ∧ w.cell? ⟨b, off + i * 6, none⟩ = some (.int .i64 x.task) ∧ w.cell? ⟨b, off + i * 6 + 1, none⟩ = some (.int .u8 x.kind) ∧ w.cell? ⟨b, off + i * 6 + 2, none⟩ = some (.int .i64 x.number) ∧ w.cell? ⟨b, off + i * 6 + 3, none⟩ = some (.int .i64 x.shard) ∧ w.cell? ⟨b, off + i * 6 + 4, none⟩ = some (.int .i64 x.count) ∧ w.cell? ⟨b, off + i * 6 + 5, none⟩ = some (.int .i64 x.mark) := by
  obtain ⟨b, off, x, e, hb, hx, hc⟩ := h.at_ hi
  exact ⟨b, off, x, e, hb, hx, hc 0 _ rfl, hc 1 _ rfl, hc 2 _ rfl, hc 3 _ rfl, hc 4 _ rfl, hc 5 _ rfl⟩
theorem held_zero {w : World} {g n : Nat} (h : w.ownsRow g 4 1 (.slice (some ⟨g, 0, none⟩) n n) n (madeCells (Value.bool false).cells (n * 1)).toList) : HeldAt w g (List.replicate n false) := by
  have := blk_of_own h
  unfold HeldAt
  rw [this, List.map_replicate]
  congr 2
  refine Array.ext (by simp [madeCells]) fun i h1 h2 => by simp [madeCells, Value.cells, Nat.mod_one]
end Go.Proofs.YtgkhgbeiploefaaDoor

/- Numbers as cells; lists of numbers that are the same. -/
import Derived.Test.YtgkhgbeiploefaaDoorCore
import Derived.Test.YtgkhgbeiploefaaDoorConf
namespace Go.Proofs.YtgkhgbeiploefaaDoor
open Go.RowKit
set_option linter.unusedVariables false
set_option linter.unusedSimpArgs false

open Go.Maps
def Icell (x : Int) : List Value := [.int .i64 x]
def spI : Int := 7777
theorem len_int (xs : List Int) : ∀ x ∈ xs, (Icell x).length = 1 := fun _ _ => rfl
theorem one_int (x : Int) : ∀ (u : Value), u ∈ Icell x → u.oneCell' = true := by
  intro u hu; simp only [Icell, List.mem_cons, List.not_mem_nil, or_false] at hu; rw [hu]; rfl
theorem info_int : (Tryd.prog.info? 3).map (fun i => (i.zero, i.size, i.bytes)) = some (some (.int .i64 0), 1, 8) := by kernel_rfl
theorem take_snoc_flat {α : Type} {cells : α → List Value} {l : List α} {k : Nat} {x : α} (h : l[k]? = some x) : (l.take (k + 1)).flatMap cells = (l.take k).flatMap cells ++ cells x := by
  rw [List.take_add_one, h]; simp
theorem blk_of_own {w : World} {base g n size : Nat} {e : TypeId} {xs : List Value} (h : w.ownsRow base e size (.slice (some ⟨g, 0, none⟩) n n) n xs) : w.heap[g]? = some (.cells xs.toArray e (0, 0)) := by
  obtain ⟨h1, h2 | ⟨g', cap, cur, hv, hg, hh, hn, hc, hsz, ht⟩⟩ := h
  · simp at h2
  · simp at hv
    obtain ⟨rfl, rfl⟩ := hv
    rw [hh]
    have : cur.toList = xs := by rw [← ht, List.take_of_length_le (by rw [Array.length_toList, hsz]; exact Nat.le_refl _)]
    rw [← this]
/-- A row of one element more, that lies in one block. -/
theorem row_of_blk {α : Type} {cells : α → List Value} {size : Nat} {w : World} {g B : Nat} {e : TypeId} {xs : List α} {sp : α} (hs : ∀ x ∈ xs ++ [sp], (cells x).length = size) (h : w.heap[g]? = some (.cells ((xs ++ [sp]).flatMap cells).toArray e (0, 0))) (hB : g < B) :
    RowAt cells size w B (some ⟨g, 0, none⟩) (xs.length + 1) (xs ++ [sp]) := by
  have := rowAt_block (B := B) (xs ++ [sp]) hs h hB (fun j u hu => by simpa using hu)
  simpa using this
theorem below_grown_new {w w' : World} {o : Obj} {v : Value} {base n size : Nat} {e : TypeId} {xs : List Value} (h : w.ownsRow base e size v n xs) (hg : (w.alloc o).grownBy w' v.ownBlock) (hb : base ≤ w.heap.size) : Below base w w' :=
  ((Below.refl _ _).alloc hb o).grown hg (by simp; omega) (fun k hk => (h.lt k hk).1)
theorem info_bool : (Tryd.prog.info? 4).map (fun i => (i.zero, i.size, i.bytes)) = some (some (.bool false), 1, 1) := by kernel_rfl
theorem cells_new (w : World) (cs : List Value) (e : TypeId) : ∀ (j : Nat) (u : Value), cs[j]? = some u → (w.alloc (.cells cs.toArray e)).cell? ((⟨w.heap.size, 0, none⟩ : Addr).add j) = some u := by
  intro j u hu
  rw [Addr.add_lit, Nat.zero_add, cell_of_row _ _ _ cs.toArray e (0, 0) (heap_alloc_new w _)]
  simpa using hu
theorem icell_flat (l : List Int) : l.flatMap Icell = l.map (Value.int .i64) := by
  induction l with
  | nil => rfl
  | cons x r ih => rw [List.flatMap_cons, ih]; rfl
end Go.Proofs.YtgkhgbeiploefaaDoor

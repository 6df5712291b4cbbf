/- Words of memory that every text of this seat uses: slices that read as lists, small lemmas on worlds. Plain theorems over any program. -/
import Derived.WalkKit
import Derived.WalkSpells
import Derived.WalkLawsBesides
import Derived.Lib.Hide
import Derived.Laws.OwnMore
import Derived.Deep.AppendLies
import Derived.Deep.Draws
import Derived.Deep.QuietTactic
import Derived.BigQuiet
import Derived.Deep.LoopGhost
namespace Go.Proofs.YtfafhfjmoijaeaaGreatDoor
open Go.RowKit
set_option linter.unusedVariables false
set_option linter.unusedSimpArgs false

theorem ret_int {k : IntKind} {a b : Int} (h : a = b) : Ending.returned (.int k a) = .returned (.int k b) := by rw [h]
theorem ret_bool {a b : Bool} (h : a = b) : Ending.returned (.bool a) = .returned (.bool b) := by rw [h]

theorem toList_nil (s : ByteArray) : s.toList = [] ↔ s.size = 0 := by
  rw [ByteArray.toList_eq, ByteArray.size, ← Array.length_toList]
  exact List.length_eq_zero_iff.symm

/-- A slice value of n elements at A reads as the list xs: element i lies at the cells from i * size on; its block lies below B. -/
def RowAt {α : Type} (cells : α → List Value) (size : Nat) (w : World) (B : Nat) (A : Option Addr) (n : Nat) (xs : List α) : Prop :=
  xs.length = n ∧ (0 < n → ∃ b off, A = some ⟨b, off, none⟩ ∧ b < B ∧ ∀ i x, xs[i]? = some x → ∀ j u, (cells x)[j]? = some u → w.cell? ⟨b, off + i * size + j, none⟩ = some u)

section
variable {α : Type} {cells : α → List Value} {size : Nat} {w w' : World} {B B' n : Nat} {A : Option Addr} {xs : List α}
theorem RowAt.nil_ : RowAt cells size w B none 0 [] := ⟨rfl, fun h => absurd h (by omega)⟩
theorem RowAt.len (h : RowAt cells size w B A n xs) : xs.length = n := h.1
theorem RowAt.keep (h : RowAt cells size w B A n xs) (hk : ∀ p : Addr, p.block < B → w'.cell? p = w.cell? p) : RowAt cells size w' B A n xs :=
  ⟨h.1, fun hn => by
    obtain ⟨b, off, e, hb, hc⟩ := h.2 hn
    exact ⟨b, off, e, hb, fun i x hx j u hu => (hk _ hb).trans (hc i x hx j u hu)⟩⟩
theorem RowAt.more (h : RowAt cells size w B A n xs) (hB : B ≤ B') : RowAt cells size w B' A n xs :=
  ⟨h.1, fun hn => by
    obtain ⟨b, off, e, hb, hc⟩ := h.2 hn
    exact ⟨b, off, e, by omega, hc⟩⟩
theorem RowAt.below (h : RowAt cells size w B A n xs) (hb : Below B w w') : RowAt cells size w' B A n xs := h.keep fun _ hp => hb.cell hp
theorem RowAt.at_ {i : Nat} (h : RowAt cells size w B A n xs) (hi : i < n) : ∃ b off x, A = some ⟨b, off, none⟩ ∧ b < B ∧ xs[i]? = some x ∧ ∀ j u, (cells x)[j]? = some u → w.cell? ⟨b, off + i * size + j, none⟩ = some u := by
  obtain ⟨b, off, e, hb, hc⟩ := h.2 (by omega)
  have hl : i < xs.length := by rw [h.1]; exact hi
  exact ⟨b, off, xs[i], e, hb, List.getElem?_eq_getElem hl, fun j u hu => hc i _ (List.getElem?_eq_getElem hl) j u hu⟩
end

theorem below_drewN {B : Nat} {a w : World} (h : Below B a w) (n : Nat) : Below B a (w.drewN n) := ⟨h.os, h.tape, h.output, h.size, h.block⟩

theorem bcell {W w1 : World} (hb : Below W.heap.size W w1) : (∀ b o, b < W.heap.size → w1.cell? ⟨b, o, none⟩ = W.cell? ⟨b, o, none⟩) ∧ (∀ b o, b < W.heap.size → w1.frozen? ⟨b, o, none⟩ = W.frozen? ⟨b, o, none⟩) :=
  ⟨fun b o h => hb.cell (p := ⟨b, o, none⟩) h, fun b o h => hb.frozen (p := ⟨b, o, none⟩) h⟩

theorem below_box {w wr : World} {o : Obj} (h : Below (w.heap.size + 1) (w.alloc o) wr) : Below w.heap.size w wr :=
  ((Below.refl _ _).alloc (Nat.le_refl _) _).trans (h.mono (by omega))
theorem size_box {w wr : World} {o : Obj} (h : Below (w.heap.size + 1) (w.alloc o) wr) : w.heap.size < wr.heap.size := by
  have := h.size; simp at this; omega
theorem cell_box {w wr : World} {cs : Array Value} {t : TypeId} (h : Below (w.heap.size + 1) (w.alloc (.cells cs t)) wr) (i : Nat) {v : Value} (hv : cs[i]? = some v) : wr.cell? ⟨w.heap.size, i, none⟩ = some v :=
  (h.cell (p := ⟨w.heap.size, i, none⟩) (by simp)).trans (by simp [go_sem, hv])
theorem all_take_succ {α : Type} {p : α → Bool} {l : List α} {k : Nat} {x : α} (h : l[k]? = some x) : (l.take (k + 1)).all p = ((l.take k).all p && p x) := by
  rw [List.take_add_one, h]
  simp [List.all_append]
theorem all_of_not {α : Type} {p : α → Bool} {l : List α} {k : Nat} {x : α} (h : l[k]? = some x) (hp : p x = false) : l.all p = false := by
  rw [List.all_eq_false]
  exact ⟨x, List.mem_of_getElem? h, by simp [hp]⟩

/-- What IndexFunc answers: some number that is not below 0 just if one of the elements is met. -/
def IdxEnd (W : World) (b : Bool) (e : Ending) (w' : World) : Prop := ∃ r : Int, e = .returned (.int .i64 r) ∧ -1 ≤ r ∧ decide (0 ≤ r) = b ∧ Below W.heap.size W w'
theorem any_take_succ {α : Type} {p : α → Bool} {l : List α} {k : Nat} {x : α} (h : l[k]? = some x) : (l.take (k + 1)).any p = ((l.take k).any p || p x) := by
  rw [List.take_add_one, h]
  simp [List.any_append]
theorem any_of {α : Type} {p : α → Bool} {l : List α} {k : Nat} {x : α} (h : l[k]? = some x) (hp : p x = true) : l.any p = true :=
  List.any_eq_true.2 ⟨x, List.mem_of_getElem? h, hp⟩

/-! ### The plain data -/
/-- A write of a transaction. -/
structure Wr where
  key : ByteArray
  val : ByteArray
  drop : Bool
def Wr.cells (x : Wr) : List Value := [.string x.key, .string x.val, .bool x.drop]
def Wr.v (x : Wr) : Value := .agg #[.string x.key, .string x.val, .bool x.drop]

abbrev WsAt := RowAt Wr.cells 3
theorem WsAt.cell3 {w : World} {B n i : Nat} {A : Option Addr} {ws : List Wr} (h : WsAt w B A n ws) (hi : i < n) :
    ∃ b off x, A = some ⟨b, off, none⟩ ∧ b < B ∧ ws[i]? = some x ∧ w.cell? ⟨b, off + i * 3, none⟩ = some (.string x.key) ∧ w.cell? ⟨b, off + i * 3 + 1, none⟩ = some (.string x.val) ∧ w.cell? ⟨b, off + i * 3 + 2, none⟩ = some (.bool x.drop) := by
  obtain ⟨b, off, x, e, hb, hx, hc⟩ := h.at_ hi
  exact ⟨b, off, x, e, hb, hx, hc 0 _ rfl, hc 1 _ rfl, hc 2 _ rfl⟩

def keyB (k : ByteArray) : Bool := decide (1 ≤ k.size) && decide (k.size ≤ 64)
def valB (v : ByteArray) : Bool := decide (v.size ≤ 1024)
def wrB (x : Wr) : Bool := keyB x.key && valB x.val && (!x.drop || decide (x.val.size = 0))
def txB (n : Int) (ws : List Wr) : Bool := decide (1 ≤ n) && decide (n ≤ 65536) && decide (ws.length ≤ 32) && ws.all wrB
def errOf (b : Bool) : Int := if b then 0 else 1

end Go.Proofs.YtfafhfjmoijaeaaGreatDoor

/- Lemmas and contracts of functions that statements of this seat stand on, many texts in one; each holds under the premises typed in its head. -/
import Derived.WalkKit
import Derived.WalkSpells
import Derived.WalkLawsBesides
import Derived.Lib.Hide
import Derived.Laws.OwnMore
import Derived.Deep.AppendLies
import Derived.Deep.Draws
import Derived.Deep.QuietTactic
import Derived.BigQuiet
import Derived.Deep.LoopGhost
import Derived.Maps.Own
import Derived.Maps.OwnOps
import Derived.Maps.OwnSet
import Derived.Sort.KeysCollected
import Derived.Lib.SlKeysI
import Derived.StringKeys
/- Words of memory that every text of this seat uses: slices that read as lists, small lemmas on worlds. Plain theorems over any program. -/
namespace Go.Proofs.YtafghiekpgjniaaGreatDoor
open Go.RowKit
set_option linter.unusedVariables false
set_option linter.unusedSimpArgs false

theorem ret_int {k : IntKind} {a b : Int} (h : a = b) : Ending.returned (.int k a) = .returned (.int k b) := by rw [h]
theorem ret_bool {a b : Bool} (h : a = b) : Ending.returned (.bool a) = .returned (.bool b) := by rw [h]

theorem toList_nil (s : ByteArray) : s.toList = [] ↔ s.size = 0 := by
  rw [ByteArray.toList_eq, ByteArray.size, ← Array.length_toList]
  exact List.length_eq_zero_iff.symm

/-- A slice value of n elements at A reads as the list xs: element i lies at the cells from i * size on; its block lies below B. -/
def RowAt {α : Type} (cells : α → List Value) (size : Nat) (w : World) (B : Nat) (A : Option Addr) (n : Nat) (xs : List α) : Prop :=
  xs.length = n ∧ (0 < n → ∃ b off, A = some ⟨b, off, none⟩ ∧ b < B ∧ ∀ i x, xs[i]? = some x → ∀ j u, (cells x)[j]? = some u → w.cell? ⟨b, off + i * size + j, none⟩ = some u)

section
variable {α : Type} {cells : α → List Value} {size : Nat} {w w' : World} {B B' n : Nat} {A : Option Addr} {xs : List α}
theorem RowAt.nil_ : RowAt cells size w B none 0 [] := ⟨rfl, fun h => absurd h (by omega)⟩
theorem RowAt.len (h : RowAt cells size w B A n xs) : xs.length = n := h.1
theorem RowAt.keep (h : RowAt cells size w B A n xs) (hk : ∀ p : Addr, p.block < B → w'.cell? p = w.cell? p) : RowAt cells size w' B A n xs :=
  ⟨h.1, fun hn => by
    obtain ⟨b, off, e, hb, hc⟩ := h.2 hn
    exact ⟨b, off, e, hb, fun i x hx j u hu => (hk _ hb).trans (hc i x hx j u hu)⟩⟩
theorem RowAt.more (h : RowAt cells size w B A n xs) (hB : B ≤ B') : RowAt cells size w B' A n xs :=
  ⟨h.1, fun hn => by
    obtain ⟨b, off, e, hb, hc⟩ := h.2 hn
    exact ⟨b, off, e, by omega, hc⟩⟩
theorem RowAt.below (h : RowAt cells size w B A n xs) (hb : Below B w w') : RowAt cells size w' B A n xs := h.keep fun _ hp => hb.cell hp
theorem RowAt.at_ {i : Nat} (h : RowAt cells size w B A n xs) (hi : i < n) : ∃ b off x, A = some ⟨b, off, none⟩ ∧ b < B ∧ xs[i]? = some x ∧ ∀ j u, (cells x)[j]? = some u → w.cell? ⟨b, off + i * size + j, none⟩ = some u := by
  obtain ⟨b, off, e, hb, hc⟩ := h.2 (by omega)
  have hl : i < xs.length := by rw [h.1]; exact hi
  exact ⟨b, off, xs[i], e, hb, List.getElem?_eq_getElem hl, fun j u hu => hc i _ (List.getElem?_eq_getElem hl) j u hu⟩
end

theorem below_drewN {B : Nat} {a w : World} (h : Below B a w) (n : Nat) : Below B a (w.drewN n) := ⟨h.os, h.tape, h.output, h.size, h.block⟩

theorem bcell {W w1 : World} (hb : Below W.heap.size W w1) : (∀ b o, b < W.heap.size → w1.cell? ⟨b, o, none⟩ = W.cell? ⟨b, o, none⟩) ∧ (∀ b o, b < W.heap.size → w1.frozen? ⟨b, o, none⟩ = W.frozen? ⟨b, o, none⟩) :=
  ⟨fun b o h => hb.cell (p := ⟨b, o, none⟩) h, fun b o h => hb.frozen (p := ⟨b, o, none⟩) h⟩

theorem below_box {w wr : World} {o : Obj} (h : Below (w.heap.size + 1) (w.alloc o) wr) : Below w.heap.size w wr :=
  ((Below.refl _ _).alloc (Nat.le_refl _) _).trans (h.mono (by omega))
theorem size_box {w wr : World} {o : Obj} (h : Below (w.heap.size + 1) (w.alloc o) wr) : w.heap.size < wr.heap.size := by
  have := h.size; simp at this; omega
theorem cell_box {w wr : World} {cs : Array Value} {t : TypeId} (h : Below (w.heap.size + 1) (w.alloc (.cells cs t)) wr) (i : Nat) {v : Value} (hv : cs[i]? = some v) : wr.cell? ⟨w.heap.size, i, none⟩ = some v :=
  (h.cell (p := ⟨w.heap.size, i, none⟩) (by simp)).trans (by simp [go_sem, hv])
theorem all_take_succ {α : Type} {p : α → Bool} {l : List α} {k : Nat} {x : α} (h : l[k]? = some x) : (l.take (k + 1)).all p = ((l.take k).all p && p x) := by
  rw [List.take_add_one, h]
  simp [List.all_append]
theorem all_of_not {α : Type} {p : α → Bool} {l : List α} {k : Nat} {x : α} (h : l[k]? = some x) (hp : p x = false) : l.all p = false := by
  rw [List.all_eq_false]
  exact ⟨x, List.mem_of_getElem? h, by simp [hp]⟩

/-- What IndexFunc answers: some number that is not below 0 just if one of the elements is met. -/
def IdxEnd (W : World) (b : Bool) (e : Ending) (w' : World) : Prop := ∃ r : Int, e = .returned (.int .i64 r) ∧ -1 ≤ r ∧ decide (0 ≤ r) = b ∧ Below W.heap.size W w'
theorem any_take_succ {α : Type} {p : α → Bool} {l : List α} {k : Nat} {x : α} (h : l[k]? = some x) : (l.take (k + 1)).any p = ((l.take k).any p || p x) := by
  rw [List.take_add_one, h]
  simp [List.any_append]
theorem any_of {α : Type} {p : α → Bool} {l : List α} {k : Nat} {x : α} (h : l[k]? = some x) (hp : p x = true) : l.any p = true :=
  List.any_eq_true.2 ⟨x, List.mem_of_getElem? h, hp⟩

/-! ### The plain data -/
/-- A write of a transaction. -/
structure Wr where
  key : ByteArray
  val : ByteArray
  drop : Bool
def Wr.cells (x : Wr) : List Value := [.string x.key, .string x.val, .bool x.drop]
def Wr.v (x : Wr) : Value := .agg #[.string x.key, .string x.val, .bool x.drop]

abbrev WsAt := RowAt Wr.cells 3
theorem WsAt.cell3 {w : World} {B n i : Nat} {A : Option Addr} {ws : List Wr} (h : WsAt w B A n ws) (hi : i < n) :
    ∃ b off x, A = some ⟨b, off, none⟩ ∧ b < B ∧ ws[i]? = some x ∧ w.cell? ⟨b, off + i * 3, none⟩ = some (.string x.key) ∧ w.cell? ⟨b, off + i * 3 + 1, none⟩ = some (.string x.val) ∧ w.cell? ⟨b, off + i * 3 + 2, none⟩ = some (.bool x.drop) := by
  obtain ⟨b, off, x, e, hb, hx, hc⟩ := h.at_ hi
  exact ⟨b, off, x, e, hb, hx, hc 0 _ rfl, hc 1 _ rfl, hc 2 _ rfl⟩

def keyB (k : ByteArray) : Bool := decide (1 ≤ k.size) && decide (k.size ≤ 64)
def valB (v : ByteArray) : Bool := decide (v.size ≤ 1024)
def wrB (x : Wr) : Bool := keyB x.key && valB x.val && (!x.drop || decide (x.val.size = 0))
def txB (n : Int) (ws : List Wr) : Bool := decide (1 ≤ n) && decide (n ≤ 65536) && decide (ws.length ≤ 32) && ws.all wrB
def errOf (b : Bool) : Int := if b then 0 else 1

end Go.Proofs.YtafghiekpgjniaaGreatDoor

/- From blocks and owned rows to rows that read as lists. Plain theorems over any program. -/

namespace Go.Proofs.YtafghiekpgjniaaGreatDoor
open Go.RowKit
set_option linter.unusedVariables false
set_option linter.unusedSimpArgs false


theorem flat_get {α : Type} {cells : α → List Value} {size : Nat} : ∀ (xs : List α) (hs : ∀ x ∈ xs, (cells x).length = size) (i : Nat) (x : α), xs[i]? = some x → ∀ j u, (cells x)[j]? = some u → (xs.flatMap cells)[i * size + j]? = some u
  | [], _, _, _, h, _, _, _ => by simp at h
  | y :: r, hs, 0, x, h, j, u, hu => by
    simp at h; subst h
    rw [List.flatMap_cons, List.getElem?_append_left]
    · simpa using hu
    · simpa using (List.getElem?_eq_some_iff.1 hu).1
  | y :: r, hs, i + 1, x, h, j, u, hu => by
    have hy := hs y (by simp)
    rw [List.flatMap_cons, List.getElem?_append_right (by rw [hy, Nat.add_mul]; omega), hy, show (i + 1) * size + j - size = i * size + j from by rw [Nat.add_mul]; omega]
    exact flat_get r (fun z hz => hs z (by simp [hz])) i x (by simpa using h) j u hu
theorem flat_len {α : Type} {cells : α → List Value} {size : Nat} (xs : List α) (hs : ∀ x ∈ xs, (cells x).length = size) : (xs.flatMap cells).length = xs.length * size := by
  induction xs with
  | nil => simp
  | cons y r ih => rw [List.flatMap_cons, List.length_append, hs y (by simp), ih (fun x hx => hs x (by simp [hx])), List.length_cons, Nat.add_mul]; omega
/-- A block whose first cells are those of xs. -/
theorem rowAt_block {α : Type} {cells : α → List Value} {size : Nat} {w : World} {b B : Nat} {cs : Array Value} {t : TypeId} {fr : Nat × Nat} (xs : List α) (hs : ∀ x ∈ xs, (cells x).length = size)
    (h : w.heap[b]? = some (.cells cs t fr)) (hb : b < B) (hcs : ∀ (j : Nat) (u : Value), (xs.flatMap cells)[j]? = some u → cs[j]? = some u) : RowAt cells size w B (some ⟨b, 0, none⟩) xs.length xs :=
  ⟨rfl, fun _ => ⟨b, 0, rfl, hb, fun i x hx j u hu => by
    rw [cell_of_row _ _ _ cs t fr h]
    exact hcs _ _ (by have := flat_get xs hs i x hx j u hu; simpa using this)⟩⟩
/-- An owned row reads as its list. -/
theorem rowAt_own {α : Type} {cells : α → List Value} {size : Nat} {w : World} {base : Nat} {e : TypeId} {v : Value} {xs : List α} (hs : ∀ x ∈ xs, (cells x).length = size)
    (h : w.ownsRow base e size v xs.length (xs.flatMap cells)) : ∃ A cap, v = .slice A xs.length cap ∧ RowAt cells size w w.heap.size A xs.length xs ∧ (A = none → xs.length = 0 ∧ cap = 0) ∧ xs.length ≤ cap := by
  obtain ⟨h1, h2 | ⟨g, cap, cur, hv, hg, hh, hn, hc, hsz, ht⟩⟩ := h
  · obtain ⟨rfl, h0⟩ := h2
    refine ⟨none, 0, by rw [h0], ?_, fun _ => ⟨h0, rfl⟩, by omega⟩
    rw [h0]
    have : xs = [] := List.eq_nil_of_length_eq_zero h0
    subst this
    exact RowAt.nil_
  · refine ⟨_, _, hv, rowAt_block xs hs hh (Array.getElem?_eq_some_iff.1 hh).1 (fun j u hu => ?_), (fun h => by cases h), hn⟩
    rw [← ht, List.getElem?_take] at hu
    split at hu
    · simpa using hu
    · cases hu
theorem len_wr (ws : List Wr) : ∀ x ∈ ws, (Wr.cells x).length = 3 := fun _ _ => rfl
end Go.Proofs.YtafghiekpgjniaaGreatDoor

/- Maps that the code makes and keeps: a map's block as a list of keys with their values, in the model's own order. Plain theorems over any program. -/
namespace Go.Proofs.YtafghiekpgjniaaGreatDoor
open Go.RowKit
set_option linter.unusedVariables false
set_option linter.unusedSimpArgs false

open Go.MapKept
set_option linter.unusedSectionVars false
variable {K V : Type} [DecidableEq K]

def mfind (k : K) : List (K × Value) → Nat → Option (Nat × Value)
  | [], _ => none
  | (a, v) :: r, i => if a = k then some (i, v) else mfind k r (i + 1)
def mget : List (K × V) → K → Option V
  | [], _ => none
  | (a, v) :: r, k => if a = k then some v else mget r k
def mput : List (K × V) → K → V → List (K × V)
  | [], k, v => [(k, v)]
  | (a, u) :: r, k, v => if a = k then (k, v) :: r else (a, u) :: mput r k v
def mdel : List (K × V) → K → List (K × V)
  | [], _ => []
  | (a, u) :: r, k => if a = k then r else (a, u) :: mdel r k

theorem mget_mput (m : List (K × V)) (k j : K) (v : V) : mget (mput m k v) j = if k = j then some v else mget m j := by
  induction m with
  | nil => simp [mput, mget]
  | cons p r ih => obtain ⟨a, u⟩ := p; simp only [mput]; split <;> simp only [mget] <;> grind
theorem mem_keys_mput (m : List (K × V)) (k j : K) (v : V) : j ∈ (mput m k v).map (·.1) ↔ j = k ∨ j ∈ m.map (·.1) := by
  induction m with
  | nil => simp [mput]
  | cons p r ih => obtain ⟨a, u⟩ := p; simp only [mput]; split <;> simp_all <;> grind
theorem nodup_mput {m : List (K × V)} (k : K) (v : V) (h : (m.map (·.1)).Nodup) : ((mput m k v).map (·.1)).Nodup := by
  induction m with
  | nil => simp [mput]
  | cons p r ih =>
    obtain ⟨a, u⟩ := p
    simp only [List.map_cons, List.nodup_cons] at h
    simp only [mput]; split
    · subst_vars; simpa using h
    · simp only [List.map_cons, List.nodup_cons, mem_keys_mput]; exact ⟨by grind, ih h.2⟩
theorem mget_none_iff (m : List (K × V)) (k : K) : mget m k = none ↔ k ∉ m.map (·.1) := by
  induction m with
  | nil => simp [mget]
  | cons p r ih => obtain ⟨a, u⟩ := p; simp only [mget]; split <;> simp_all <;> grind
theorem mget_some_mem {m : List (K × V)} {k : K} {v : V} (h : mget m k = some v) : (k, v) ∈ m := by
  induction m with
  | nil => simp [mget] at h
  | cons p r ih => obtain ⟨a, u⟩ := p; simp only [mget] at h; split at h <;> simp_all
theorem mget_of_mem {m : List (K × V)} {k : K} {v : V} (hn : (m.map (·.1)).Nodup) (h : (k, v) ∈ m) : mget m k = some v := by
  induction m with
  | nil => simp at h
  | cons p r ih =>
    obtain ⟨a, u⟩ := p
    simp only [List.map_cons, List.nodup_cons] at hn
    simp only [mget]
    rcases List.mem_cons.1 h with h | h
    · injection h with h1 h2; subst h1 h2; simp
    · have : a ≠ k := by rintro rfl; exact hn.1 (List.mem_map.2 ⟨_, h, rfl⟩)
      rw [if_neg this]; exact ih hn.2 h
theorem mget_mdel {m : List (K × V)} (hn : (m.map (·.1)).Nodup) (k j : K) : mget (mdel m k) j = if k = j then none else mget m j := by
  induction m with
  | nil => simp [mdel, mget]
  | cons p r ih =>
    obtain ⟨a, u⟩ := p
    simp only [List.map_cons, List.nodup_cons] at hn
    simp only [mdel]; split
    · subst_vars
      by_cases h : a = j
      · subst h; rw [if_pos rfl]; exact (mget_none_iff _ _).2 hn.1
      · simp [mget, h]
    · simp only [mget, ih hn.2]; grind
theorem sub_mdel (m : List (K × V)) (k : K) : (mdel m k).Sublist m := by
  induction m with
  | nil => exact List.Sublist.slnil
  | cons p r ih => obtain ⟨a, u⟩ := p; simp only [mdel]; split; · exact List.sublist_cons_self _ _
                   · exact ih.cons_cons _
theorem nodup_mdel {m : List (K × V)} (k : K) (h : (m.map (·.1)).Nodup) : ((mdel m k).map (·.1)).Nodup := h.sublist ((sub_mdel m k).map _)
theorem length_mput (m : List (K × V)) (k : K) (v : V) : (mput m k v).length = m.length + if k ∈ m.map (·.1) then 0 else 1 := by
  induction m with
  | nil => simp [mput]
  | cons p r ih => obtain ⟨a, u⟩ := p; simp only [mput]; split <;> simp_all <;> grind
theorem length_mput_le (m : List (K × V)) (k : K) (v : V) : (mput m k v).length ≤ m.length + 1 := by rw [length_mput]; split <;> omega

theorem mfind_some {ν : V → Value} : ∀ (m : List (K × V)) {k : K} {i j : Nat} {u : Value}, mfind k (m.map fun p => (p.1, ν p.2)) i = some (j, u) →
    ∃ (t : Nat) (v : V), j = i + t ∧ u = ν v ∧ t < m.length ∧ mget m k = some v ∧ m[t]? = some (k, v) ∧ (∀ x, mput m k x = m.set t (k, x)) ∧ mdel m k = m.eraseIdx t
  | [], _, _, _, _, h => by simp [mfind] at h
  | (a, v) :: r, k, i, j, u, h => by
    simp only [List.map_cons, mfind] at h
    by_cases ha : a = k
    · rw [if_pos ha] at h
      simp only [Option.some.injEq, Prod.mk.injEq] at h
      obtain ⟨rfl, rfl⟩ := h
      subst ha
      exact ⟨0, v, rfl, rfl, by simp, by simp [mget], by simp, by simp [mput], by simp [mdel]⟩
    · rw [if_neg ha] at h
      obtain ⟨t, v', rfl, rfl, h1, h2, h3, h4, h5⟩ := mfind_some r h
      exact ⟨t + 1, v', by omega, rfl, by simpa using h1, by simp [mget, ha, h2], by simpa using h3, fun x => by simp [mput, ha, h4], by simp [mdel, ha, h5]⟩
theorem mfind_none {ν : V → Value} : ∀ (m : List (K × V)) {k : K} {i : Nat}, mfind k (m.map fun p => (p.1, ν p.2)) i = none →
    mget m k = none ∧ (∀ x, mput m k x = m ++ [(k, x)]) ∧ mdel m k = m ∧ k ∉ m.map (·.1)
  | [], _, _, _ => ⟨rfl, fun _ => rfl, rfl, by simp⟩
  | (a, v) :: r, k, i, h => by
    simp only [List.map_cons, mfind] at h
    by_cases ha : a = k
    · rw [if_pos ha] at h; cases h
    · rw [if_neg ha] at h
      obtain ⟨h1, h2, h3, h4⟩ := mfind_none r h
      exact ⟨by simp [mget, ha, h1], fun x => by simp [mput, ha, h2], by simp [mdel, ha, h3], by simp at h4 ⊢; exact ⟨fun e => ha e.symm, h4⟩⟩

/-- How a key's type behaves: κ lays keys as values, no two alike; the model finds them. -/
structure Keying (P : Program) (kt : TypeId) (κ : K → Value) : Prop where
  inj : ∀ a b, κ a = κ b → a = b
  check : ∀ e w a, (Instr.checkKey e 10000 kt (κ a)).run P w = .ok () w
  find : ∀ w k (l : List MapEntry) (m : List (K × Value)), l.map (fun e => (e.key, e.val)) = m.map (fun p => (κ p.1, p.2)) → (m.map (·.1)).Nodup → (Instr.findKey kt (κ k) l).run P w = .ok (mfind k m 0) w
  stays : ∀ w a, (Instr.keyThatStays (κ a) (κ a)).run P w = .ok (κ a) w

theorem findNow_mfind {d : TypeDesc} {κ : K → Value} (hk : ∀ a, IsKey d (κ a)) (hi : ∀ a b, κ a = κ b → a = b) (k : K) : ∀ (l : List MapEntry) (m : List (K × Value)) (i : Nat),
    l.map (fun e => (e.key, e.val)) = m.map (fun p => (κ p.1, p.2)) → Instr.findNow d (κ k) l i = some (mfind k m i)
  | [], [], _, _ => rfl
  | [], _ :: _, _, h => by simp at h
  | _ :: _, [], _, h => by simp at h
  | e :: l, (a, v) :: m, i, h => by
    simp only [List.map_cons, List.cons.injEq, Prod.mk.injEq] at h
    obtain ⟨⟨h1, h2⟩, h3⟩ := h
    obtain ⟨r, hr, hiff⟩ := sameNow_of_keys (hk k) (h1 ▸ hk a)
    cases r with
    | true =>
      have : k = a := hi _ _ ((hiff.1 rfl).trans h1)
      subst this
      simp [Instr.findNow, hr, mfind, h2]
    | false =>
      have : a ≠ k := by rintro rfl; have := hiff.2 h1.symm; cases this
      simp only [Instr.findNow, hr, mfind, if_neg this]
      exact findNow_mfind hk hi k l m (i + 1) h3
theorem keying_of {P : Program} {kt : TypeId} {d : TypeDesc} {κ : K → Value} (hd : P.underlying kt = some d) (hk : ∀ a, IsKey d (κ a)) (hi : ∀ a b, κ a = κ b → a = b) : Keying P kt κ :=
  ⟨hi, fun e w a => run_checkKey hd (hk a) e 9999, fun w k l m h _ => run_findKey hd (findNow_mfind hk hi k l m 0 h), fun w a => run_keyThatStays (hk a)⟩
theorem mfind_absent : ∀ (m : List (K × Value)) {k : K} {i : Nat}, k ∉ m.map (·.1) → mfind k m i = none
  | [], _, _, _ => rfl
  | (a, v) :: r, k, i, h => by
    simp only [List.map_cons, List.mem_cons, not_or] at h
    rw [mfind, if_neg (fun e => h.1 e.symm)]
    exact mfind_absent r h.2
theorem mfind_of_get : ∀ (m : List (K × Value)) {k : K} {i j : Nat} {v : Value}, (m.map (·.1)).Nodup → m[j]? = some (k, v) → mfind k m i = some (i + j, v)
  | [], _, _, _, _, _, h => by simp at h
  | (a, u) :: r, k, i, 0, v, _, h => by simp at h; obtain ⟨rfl, rfl⟩ := h; simp [mfind]
  | (a, u) :: r, k, i, j + 1, v, hn, h => by
    simp only [List.map_cons, List.nodup_cons] at hn
    have h' : r[j]? = some (k, v) := by simpa using h
    have hm : k ∈ r.map (·.1) := List.mem_map.2 ⟨_, List.mem_of_getElem? h', rfl⟩
    rw [mfind, if_neg (fun e : a = k => hn.1 (by rw [e]; exact hm)), mfind_of_get r hn.2 h']
    congr 2; omega
/-- .. for keys of whatever type that the model's own bundle knows. -/
theorem keying_keyed {P : Program} {kt : TypeId} {κ : K → Value} (Q : Go.Maps.Keyed P kt) (hk : ∀ a, ∃ l, keyOf P kt (κ a) = some l) (hi : ∀ a b, κ a = κ b → a = b) : Keying P kt κ :=
  ⟨hi, fun e w a => by obtain ⟨l, hl⟩ := hk a; exact Q.check w e hl, fun w k l m h hn => by
    obtain ⟨lk, hlk⟩ := hk k
    have hmem : ∀ (j : Nat) (e : MapEntry), l[j]? = some e → ∃ p : K × Value, m[j]? = some p ∧ e.key = κ p.1 ∧ e.val = p.2 := fun j e he => by
      have h1 := congrArg (fun x => x[j]?) h
      simp only [List.getElem?_map, he, Option.map_some] at h1
      cases hj : m[j]? with
      | none => rw [hj] at h1; cases h1
      | some p => rw [hj] at h1; simp only [Option.map_some, Option.some.injEq, Prod.mk.injEq] at h1; exact ⟨p, rfl, h1.1, h1.2⟩
    rcases Q.find w hlk l (fun e he => by
      obtain ⟨j, hj⟩ := List.getElem?_of_mem he
      obtain ⟨p, -, h1, -⟩ := hmem j e hj
      obtain ⟨la, hla⟩ := hk p.1
      exact ⟨la, by rw [h1]; exact hla⟩) with ⟨hr, hne⟩ | ⟨j, e, hr, hj, he⟩
    · rw [hr, mfind_absent m]
      intro hkm
      obtain ⟨p, hp, rfl⟩ := List.mem_map.1 hkm
      obtain ⟨j, hj⟩ := List.getElem?_of_mem hp
      have h1 := congrArg (fun x => x[j]?) h
      simp only [List.getElem?_map, hj, Option.map_some] at h1
      cases hlj : l[j]? with
      | none => rw [hlj] at h1; cases h1
      | some e => rw [hlj] at h1; simp only [Option.map_some, Option.some.injEq, Prod.mk.injEq] at h1; exact hne e (List.mem_of_getElem? hlj) h1.1
    · obtain ⟨p, hp, h1, h2⟩ := hmem j e hj
      have : p = (k, e.val) := Prod.ext (hi _ _ (h1.symm.trans he)) h2.symm
      rw [hr, mfind_of_get m hn (this ▸ hp), Nat.zero_add], fun w a => by obtain ⟨l, hl⟩ := hk a; exact Q.stays w hl⟩
theorem keying_string {P : Program} {kt : TypeId} (hd : P.underlying kt = some .string) : Keying P kt Value.string := keying_of hd (fun _ => trivial) (fun _ _ h => by injection h)
theorem keying_int {P : Program} {kt : TypeId} {q : IntKind} (hd : P.underlying kt = some (.int q)) : Keying P kt (Value.int q) := keying_of hd (fun _ => rfl) (fun _ _ h => by injection h)

/-- Block b of w is a map whose entries are m, in the model's order. -/
def OwnM (κ : K → Value) (ν : V → Value) (w : World) (b : Nat) (m : List (K × V)) : Prop :=
  ∃ es clock, w.heap[b]? = some (.map es clock) ∧ Stamped es clock ∧ es.toList.map (fun e => (e.key, e.val)) = m.map (fun p => (κ p.1, ν p.2))

section
variable {κ : K → Value} {ν : V → Value} {w w' : World} {b : Nat} {m : List (K × V)} {P : Program} {kt vt t : TypeId}
theorem OwnM.made (w : World) (κ : K → Value) (ν : V → Value) : OwnM κ ν (w.alloc (.map #[] 0)) w.heap.size [] := ⟨#[], 0, (MapKept.heap_alloc w _).1, stamped_empty 0, rfl⟩
theorem OwnM.lt (h : OwnM κ ν w b m) : b < w.heap.size := by obtain ⟨es, clock, hb, _⟩ := h; exact (Array.getElem?_eq_some_iff.1 hb).1
theorem OwnM.of_block (h : OwnM κ ν w b m) (hb : w'.heap[b]? = w.heap[b]?) : OwnM κ ν w' b m := by obtain ⟨es, clock, h1, h2⟩ := h; exact ⟨es, clock, hb.trans h1, h2⟩
theorem OwnM.below {B : Nat} (h : OwnM κ ν w b m) (hb : Below B w w') (hB : b < B) : OwnM κ ν w' b m := h.of_block (hb.block b hB)
theorem OwnM.grown {row : Option Nat} (h : OwnM κ ν w b m) (hg : w.grownBy w' row) (hne : some b ≠ row) : OwnM κ ν w' b m := h.of_block (hg.block b h.lt hne)
theorem OwnM.alloc (h : OwnM κ ν w b m) (o : Obj) : OwnM κ ν (w.alloc o) b m := h.of_block (Below.heap_alloc w o b h.lt)
theorem OwnM.drew (h : OwnM κ ν w b m) : OwnM κ ν w.drew b m := h
theorem OwnM.drewN (h : OwnM κ ν w b m) (n : Nat) : OwnM κ ν (w.drewN n) b m := h
theorem OwnM.setCell (h : OwnM κ ν w b m) (p : Addr) (u : Value) (hp : b ≠ p.block) : OwnM κ ν (w.setCell p u) b m := h.of_block (Below.heap_setCell w p u b hp)
theorem OwnM.nodup (h : OwnM κ ν w b m) : (m.map (·.1)).Nodup := by
  obtain ⟨es, clock, _, hs, he⟩ := h
  have h1 := hs.2.2
  have h2 : es.toList.map (·.key) = m.map (fun p => κ p.1) := by
    have := congrArg (List.map (·.1)) he
    simpa [Function.comp_def] using this
  rw [h2] at h1
  rw [show (fun p : K × V => κ p.1) = κ ∘ (fun p => p.1) from rfl, ← List.map_map] at h1
  exact List.Pairwise.of_map κ (fun a b hab e => hab (by rw [e])) h1

theorem OwnM.run_lookup (h : OwnM κ ν w b m) (hK : Keying P kt κ) (ht : P.underlying t = some (.map kt vt)) {z : Value} (hz : (zeroValue vt).run P w = .ok z w) (k : K) (ok : Bool) :
    (Instr.lookup t (.map (some b)) (κ k) ok).run P w = .ok (if ok then .tuple #[((mget m k).map ν).getD z, .bool (mget m k).isSome] else ((mget m k).map ν).getD z) w := by
  have hnd : ((m.map fun p => (p.1, ν p.2)).map (·.1)).Nodup := by rw [List.map_map]; exact h.nodup
  obtain ⟨es, clock, hb, _, he⟩ := h
  have hf := hK.find w k es.toList (m.map fun p => (p.1, ν p.2)) (by rw [he]; simp [Function.comp_def]) hnd
  unfold Instr.lookup
  simp only [Sem.run_bind, run_underlying ht, Result.andThen_ok, MapKept.run_getObj_map hb, Sem.run_pure, hK.check, hf]
  cases hq : mfind k (m.map fun p => (p.1, ν p.2)) 0 with
  | none =>
    obtain ⟨h1, _⟩ := mfind_none m hq
    simp only [hz, Sem.run_bind, Result.andThen_ok, Sem.run_pure, h1]
    cases ok <;> rfl
  | some x =>
    obtain ⟨j, u⟩ := x
    obtain ⟨t', v, -, rfl, -, h2, -⟩ := mfind_some m hq
    simp only [Sem.run_pure, Result.andThen_ok, h2]
    cases ok <;> rfl

theorem OwnM.run_update (h : OwnM κ ν w b m) (hK : Keying P kt κ) (ht : P.underlying t = some (.map kt vt)) (k : K) (v : V) :
    ∃ w', (Instr.mapUpdate t (.map (some b)) (κ k) (ν v)).run P w = .ok () w' ∧ OwnM κ ν w' b (mput m k v) ∧ w.grownBy w' (some b) := by
  have hnd : ((m.map fun p => (p.1, ν p.2)).map (·.1)).Nodup := by rw [List.map_map]; exact h.nodup
  obtain ⟨es, clock, hb, hs, he⟩ := h
  have hf := hK.find w k es.toList (m.map fun p => (p.1, ν p.2)) (by rw [he]; simp [Function.comp_def]) hnd
  have hlen : es.toList.length = m.length := by simpa using congrArg List.length he
  have hset : ∀ o : Obj, w.grownBy { w with heap := w.heap.setIfInBounds b o } (some b) := fun o =>
    ⟨rfl, rfl, rfl, by simp, fun i _ hne => (MapKept.heap_set hb).2 i (fun e => hne (by rw [e]))⟩
  unfold Instr.mapUpdate
  simp only [Sem.run_bind, run_underlying ht, Result.andThen_ok, MapKept.run_getObj_map hb, hK.check, hf]
  cases hq : mfind k (m.map fun p => (p.1, ν p.2)) 0 with
  | none =>
    obtain ⟨h1, h2, h3, h4⟩ := mfind_none m hq
    refine ⟨_, MapKept.run_setObj_map _ hb, ⟨_, _, (MapKept.heap_set hb).1, ?_, ?_⟩, hset _⟩
    · refine stamped_push hs fun x hx hxk => ?_
      have : (x.key, x.val) ∈ m.map (fun p => (κ p.1, ν p.2)) := by rw [← he]; exact List.mem_map.2 ⟨x, hx, rfl⟩
      obtain ⟨p, hp, hpe⟩ := List.mem_map.1 this
      simp only [Prod.mk.injEq] at hpe
      have : p.1 = k := hK.inj _ _ (hpe.1.trans hxk)
      exact h4 (List.mem_map.2 ⟨p, hp, this⟩)
    · rw [h2 v]; simp [he]
  | some x =>
    obtain ⟨j, u⟩ := x
    obtain ⟨t', v', rfl, rfl, hlt, h2, h3, h4, h5⟩ := mfind_some m hq
    simp only [Nat.zero_add]
    have hx : t' < es.size := by rw [← Array.length_toList, hlen]; exact hlt
    have hkey : es[t'].key = κ k := by
      have h6 : (es.toList.map (fun e => (e.key, e.val)))[t']? = some (κ k, ν v') := by rw [he]; simp [h3]
      simp [hx] at h6
      exact h6.1
    have hst := hK.stays w k
    have hgd : ((es[t']?).map (·.key)).getD (κ k) = κ k := by simp [hx, hkey]
    simp only [hgd, Sem.run_bind, hst, Result.andThen_ok]
    refine ⟨_, MapKept.run_setObj_map _ hb, ⟨_, _, (MapKept.heap_set hb).1, ?_, ?_⟩, hset _⟩
    · refine stamped_modify hs t' _ (fun _ _ => rfl) (fun e _ hget => ?_)
      have : e = es[t'] := by simpa [hx] using hget.symm
      rw [this]; exact hkey.symm
    · rw [h4 v]
      apply List.ext_getElem?
      intro i
      have hi : (es.toList.map (fun e => (e.key, e.val)))[i]? = (m.map (fun p => (κ p.1, ν p.2)))[i]? := by rw [he]
      simp only [List.getElem?_map, Array.toList_modify, List.getElem?_modify, List.getElem?_set] at hi ⊢
      by_cases hit : t' = i
      · subst hit
        simp [hx, hlt]
      · simpa [hit] using hi

theorem OwnM.run_delete (h : OwnM κ ν w b m) (hK : Keying P kt κ) (ht : P.underlying t = some (.map kt vt)) (k : K) (ts : Array TypeId) (hts : ts[0]? = some t) (ty : TypeId) :
    ∃ w', (Builtin.delete_ ts ty #[.map (some b), κ k]).run P w = .ok (.tuple #[]) w' ∧ OwnM κ ν w' b (mdel m k) ∧ w.grownBy w' (some b) := by
  have hnd : ((m.map fun p => (p.1, ν p.2)).map (·.1)).Nodup := by rw [List.map_map]; exact h.nodup
  obtain ⟨es, clock, hb, hs, he⟩ := h
  have hf := hK.find w k es.toList (m.map fun p => (p.1, ν p.2)) (by rw [he]; simp [Function.comp_def]) hnd
  have hset : ∀ o : Obj, w.grownBy { w with heap := w.heap.setIfInBounds b o } (some b) := fun o =>
    ⟨rfl, rfl, rfl, by simp, fun i _ hne => (MapKept.heap_set hb).2 i (fun e => hne (by rw [e]))⟩
  unfold Builtin.delete_
  simp only [hts, List.getElem?_toArray, List.getElem?_cons_zero, List.getElem?_cons_succ, Sem.run_bind, run_underlying ht, Result.andThen_ok, MapKept.run_getObj_map hb, hK.check, hf]
  cases hq : mfind k (m.map fun p => (p.1, ν p.2)) 0 with
  | none =>
    obtain ⟨h1, h2, h3, h4⟩ := mfind_none m hq
    refine ⟨_, by simp only [Sem.run_bind, MapKept.run_setObj_map _ hb, Result.andThen_ok, Sem.run_pure], ⟨_, _, (MapKept.heap_set hb).1, hs, by rw [h3]; exact he⟩, hset _⟩
  | some x =>
    obtain ⟨j, u⟩ := x
    obtain ⟨t', v', rfl, rfl, hlt, h2, h3, h4, h5⟩ := mfind_some m hq
    simp only [Nat.zero_add]
    refine ⟨_, by simp only [Sem.run_bind, MapKept.run_setObj_map _ hb, Result.andThen_ok, Sem.run_pure], ⟨_, _, (MapKept.heap_set hb).1, stamped_erase hs t', ?_⟩, hset _⟩
    rw [h5]
    have hlen : es.toList.length = m.length := by simpa using congrArg List.length he
    have hx : t' < es.size := by rw [← Array.length_toList, hlen]; exact hlt
    simp only [Array.eraseIdxIfInBounds, hx, ↓reduceDIte, Array.toList_eraseIdx]
    have e2 : ∀ {α β : Type} (f : α → β) (l : List α) (i : Nat), (l.eraseIdx i).map f = (l.map f).eraseIdx i := by
      intro α β f l
      induction l with
      | nil => intro i; rfl
      | cons x r ih => intro i; cases i <;> simp [ih]
    rw [e2, he, e2]
end

section
variable {κ : K → Value} {ν : V → Value} {w : World} {b : Nat} {m : List (K × V)} {P : Program} {kt vt t : TypeId}
variable {ops : Array Oper} {rest : List Oper} {o : Oper} {a : Act} {Q : Exit → Act → World → Prop}
/-- 'm[k]'. -/
theorem wpList_lookup_M (hgd : o.guard = none) (x y : Operand) (ho : o.op = .lookup t x y false) (hown : OwnM κ ν w b m) (hK : Keying P kt κ) (ht : P.underlying t = some (.map kt vt)) {z : Value} (hz : ∀ w, (zeroValue vt).run P w = .ok z w) (k : K)
    (hx : a.eval x = .map (some b)) (hy : a.eval y = κ k) (h : wpList P ops Q rest (a.put o.dst (((mget m k).map ν).getD z)) w) : wpList P ops Q (o :: rest) a w := by
  refine wpList_plain hgd fun K' hK' => ?_
  have hr := hown.run_lookup hK ht (hz w) k false
  unfold Oper.wp
  simp [execOp, ho, hx, hy, hr, Result.andThen]
  exact hK' _ _ h
/-- 'v, ok := m[k]'. -/
theorem wpList_lookup_ok_M (hgd : o.guard = none) (x y : Operand) (ho : o.op = .lookup t x y true) (hown : OwnM κ ν w b m) (hK : Keying P kt κ) (ht : P.underlying t = some (.map kt vt)) {z : Value} (hz : ∀ w, (zeroValue vt).run P w = .ok z w) (k : K)
    (hx : a.eval x = .map (some b)) (hy : a.eval y = κ k) (h : wpList P ops Q rest (a.put o.dst (.tuple #[((mget m k).map ν).getD z, .bool (mget m k).isSome])) w) : wpList P ops Q (o :: rest) a w := by
  refine wpList_plain hgd fun K' hK' => ?_
  have hr := hown.run_lookup hK ht (hz w) k true
  unfold Oper.wp
  simp [execOp, ho, hx, hy, hr, Result.andThen]
  exact hK' _ _ h
/-- 'm[k] = v'. -/
theorem wpList_update_M (hgd : o.guard = none) (x y v : Operand) (ho : o.op = .mapUpdate t x y v) (hown : OwnM κ ν w b m) (hK : Keying P kt κ) (ht : P.underlying t = some (.map kt vt)) (k : K) (u : V)
    (hx : a.eval x = .map (some b)) (hy : a.eval y = κ k) (hv : a.eval v = ν u) (h : ∀ w', OwnM κ ν w' b (mput m k u) → w.grownBy w' (some b) → wpList P ops Q rest (a.put o.dst undef) w') : wpList P ops Q (o :: rest) a w := by
  refine wpList_plain hgd fun K' hK' => ?_
  obtain ⟨w', hr, h1, h2⟩ := hown.run_update hK ht k u
  unfold Oper.wp
  simp [execOp, ho, hx, hy, hv, hr, Result.andThen]
  exact hK' _ _ (h w' h1 h2)
/-- 'delete(m, k)'. -/
theorem wpList_delete_M (hgd : o.guard = none) (x y : Operand) (kt' : TypeId) (ho : o.op = .call { callee := .builtin .delete, args := #[x, y], argTypes := #[t, kt'] }) (hown : OwnM κ ν w b m) (hK : Keying P kt κ) (ht : P.underlying t = some (.map kt vt)) (k : K)
    (hx : a.eval x = .map (some b)) (hy : a.eval y = κ k) (h : ∀ w', OwnM κ ν w' b (mdel m k) → w.grownBy w' (some b) → wpList P ops Q rest (a.put o.dst (.tuple #[])) w') : wpList P ops Q (o :: rest) a w := by
  refine wpList_plain hgd fun K' hK' => ?_
  obtain ⟨w', hr, h1, h2⟩ := hown.run_delete hK ht k #[t, kt'] rfl o.type
  unfold Oper.wp
  simp [execOp, ho, resolve, invoke, builtin, hx, hy, hr, Result.andThen]
  exact hK' _ _ (h w' h1 h2)
/-- 'len(m)'. -/
theorem wpList_len_M (hgd : o.guard = none) (x : Operand) (ho : o.op = .call { callee := .builtin .len, args := #[x], argTypes := #[t] }) (hown : OwnM κ ν w b m) (ht : P.underlying t = some (.map kt vt))
    (hx : a.eval x = .map (some b)) (h : wpList P ops Q rest (a.put o.dst (.int .i64 m.length)) w) : wpList P ops Q (o :: rest) a w := by
  refine wpList_plain hgd fun K' hK' => ?_
  obtain ⟨es, clock, hb, hs, he⟩ := hown
  have hlen : es.size = m.length := by rw [← Array.length_toList]; simpa using congrArg List.length he
  have hr : (Builtin.len_ #[t] o.type #[.map (some b)]).run P w = .ok (.int .i64 m.length) w := by
    simp [Builtin.len_, run_underlying ht, MapKept.run_getObj_map hb, hlen, Result.andThen, goInt]
  unfold Oper.wp
  simp [execOp, ho, resolve, invoke, builtin, hx, hr, Result.andThen]
  exact hK' _ _ h
end
end Go.Proofs.YtafghiekpgjniaaGreatDoor


namespace Go.Proofs.YtafghiekpgjniaaGreatDoor
open Go.RowKit
set_option linter.unusedVariables false
set_option linter.unusedSimpArgs false

theorem blk_set {w : World} {g : Nat} {t : TypeId} {cs : Array Value} (h : w.heap[g]? = some (.cells cs t (0, 0))) (i : Nat) (u : Value) : (w.setCell ⟨g, i, none⟩ u).heap[g]? = some (.cells (cs.setIfInBounds i u) t (0, 0)) := by
  simp [World.setCell, Array.getElem?_modify, h]
theorem blk_cell {w : World} {g : Nat} {t : TypeId} {cs : Array Value} (h : w.heap[g]? = some (.cells cs t (0, 0))) (i : Nat) : w.cell? ⟨g, i, none⟩ = cs[i]? := cell_of_row w g i cs t (0, 0) h
theorem blk_frozen {w : World} {g : Nat} {t : TypeId} {cs : Array Value} (h : w.heap[g]? = some (.cells cs t (0, 0))) (i : Nat) : w.frozen? ⟨g, i, none⟩ = false := by simp [World.frozen?, h]
theorem blk_lt {w : World} {g : Nat} {o : Obj} (h : w.heap[g]? = some o) : g < w.heap.size := (Array.getElem?_eq_some_iff.1 h).1
theorem only_of_below {a w : World} (h : Below a.heap.size a w) (row : Option Nat) : a.grownBy w row := ⟨h.os, h.tape, h.output, h.size, fun i hi _ => h.block i hi⟩
theorem only_setCell {a w : World} {g : Nat} (h : a.grownBy w (some g)) {p : Addr} (hp : p.block = g ∨ a.heap.size ≤ p.block) (u : Value) : a.grownBy (w.setCell p u) (some g) :=
  ⟨h.os, h.tape, h.output, by simpa [World.setCell] using h.size, fun i hi hne => (Below.heap_setCell w p u i (by
    rintro rfl
    rcases hp with hp | hp
    · exact hne (by rw [hp])
    · omega)).trans (h.block i hi hne)⟩

theorem only_alloc {a w : World} {row : Option Nat} (h : a.grownBy w row) (o : Obj) : a.grownBy (w.alloc o) row :=
  ⟨h.os, h.tape, h.output, Nat.le_trans h.size (by simp), fun i hi hne => (Below.heap_alloc w o i (Nat.lt_of_lt_of_le hi h.size)).trans (h.block i hi hne)⟩
theorem only_drewN {a w : World} {row : Option Nat} (h : a.grownBy w row) (n : Nat) : a.grownBy (w.drewN n) row := ⟨h.os, h.tape, h.output, h.size, h.block⟩
theorem only_trans {a b c : World} {row : Option Nat} (h : a.grownBy b row) (k : b.grownBy c row) : a.grownBy c row :=
  ⟨k.os.trans h.os, k.tape.trans h.tape, k.output.trans h.output, Nat.le_trans h.size k.size, fun i hi hne => (k.block i (Nat.lt_of_lt_of_le hi h.size) hne).trans (h.block i hi hne)⟩
theorem blk_set_alloc {w : World} {g : Nat} {t : TypeId} {cs : Array Value} (h : w.heap[g]? = some (.cells cs t (0, 0))) (i : Nat) (u : Value) (o : Obj) : ((w.setCell ⟨g, i, none⟩ u).alloc o).heap[g]? = some (.cells (cs.setIfInBounds i u) t (0, 0)) :=
  (Below.heap_alloc _ _ _ (by simpa [World.setCell] using blk_lt h)).trans (blk_set h i u)
/-- All blocks but those of X are as they were; new ones may have come. -/
structure Kept (w w' : World) (X : Nat → Prop) : Prop where
  os : w'.os = w.os
  tape : w'.tape = w.tape
  output : w'.output = w.output
  size : w.heap.size ≤ w'.heap.size
  block : ∀ k, k < w.heap.size → ¬ X k → w'.heap[k]? = w.heap[k]?
section
variable {a b c w w' : World} {X Y : Nat → Prop}
theorem Kept.refl (w : World) (X : Nat → Prop) : Kept w w X := ⟨rfl, rfl, rfl, Nat.le_refl _, fun _ _ _ => rfl⟩
theorem Kept.trans (h : Kept a b X) (k : Kept b c X) : Kept a c X :=
  ⟨k.os.trans h.os, k.tape.trans h.tape, k.output.trans h.output, Nat.le_trans h.size k.size, fun i hi hx => (k.block i (Nat.lt_of_lt_of_le hi h.size) hx).trans (h.block i hi hx)⟩
theorem Kept.mono (h : Kept a b X) (hx : ∀ k, X k → Y k) : Kept a b Y := ⟨h.os, h.tape, h.output, h.size, fun i hi hy => h.block i hi (fun hxi => hy (hx i hxi))⟩
theorem Kept.of_only {g : Nat} (h : a.grownBy b (some g)) (hx : X g) : Kept a b X := ⟨h.os, h.tape, h.output, h.size, fun i hi hn => h.block i hi (fun e => by injection e with e; subst e; exact hn hx)⟩
theorem Kept.of_below (h : Below a.heap.size a b) : Kept a b X := ⟨h.os, h.tape, h.output, h.size, fun i hi _ => h.block i hi⟩
theorem Kept.below {B : Nat} (h : Kept a b X) (hB : B ≤ a.heap.size) (hX : ∀ k, X k → B ≤ k) : Below B a b := ⟨h.os, h.tape, h.output, h.size, fun i hi => h.block i (by omega) (fun hx => by have := hX i hx; omega)⟩
theorem Kept.alloc (h : Kept a b X) (o : Obj) : Kept a (b.alloc o) X := h.trans ⟨rfl, rfl, rfl, by simp, fun k hk _ => Below.heap_alloc _ _ _ hk⟩
theorem Kept.setCell (h : Kept a b X) {p : Addr} (hp : X p.block ∨ a.heap.size ≤ p.block) (u : Value) : Kept a (b.setCell p u) X :=
  ⟨h.os, h.tape, h.output, by simpa [World.setCell] using h.size, fun k hk hx => (Below.heap_setCell _ _ _ _ (by rintro rfl; rcases hp with hp | hp; exact hx hp; omega)).trans (h.block k hk hx)⟩
theorem Kept.drewN (h : Kept a b X) (n : Nat) : Kept a (b.drewN n) X := ⟨h.os, h.tape, h.output, h.size, h.block⟩
end
theorem Kept.blk {w w' : World} {X : Nat → Prop} {g : Nat} {o : Option Obj} (h : Kept w w' X) (hg : w.heap[g]? = o) (hl : g < w.heap.size) (hx : ¬ X g) : w'.heap[g]? = o := (h.block g hl hx).trans hg
theorem Kept.cell {w w' : World} {X : Nat → Prop} (h : Kept w w' X) {g i : Nat} (hl : g < w.heap.size) (hx : ¬ X g) : w'.cell? ⟨g, i, none⟩ = w.cell? ⟨g, i, none⟩ := by
  have := h.block g hl hx
  simp only [World.cell?, this]
theorem blk_new (w : World) (o : Obj) : (w.alloc o).heap[w.heap.size]? = some o := by show (w.heap.push o)[w.heap.size]? = _; simp
theorem blk_new2 (w : World) (o p : Obj) : ((w.alloc o).alloc p).heap[w.heap.size + 1]? = some p := by simpa using blk_new (w.alloc o) p
theorem RowAt.cut {α : Type} {cells : α → List Value} {size : Nat} {w : World} {B n k cap : Nat} {A : Option Addr} {xs : List α} (h : RowAt cells size w B A n xs) (hk : k ≤ n) (hc : n ≤ cap) :
    RowAt cells size w B (if cap = k then A else A.map (·.add (k * size))) (n - k) (xs.drop k) := by
  refine ⟨by rw [List.length_drop, h.1], fun hn => ?_⟩
  obtain ⟨b, off, rfl, hb, hcell⟩ := h.2 (by omega)
  rw [if_neg (by omega)]
  refine ⟨b, off + k * size, by simp [Addr.add_lit], hb, fun i x hx j u hu => ?_⟩
  rw [List.getElem?_drop] at hx
  have := hcell _ x hx j u hu
  rw [Nat.add_mul, ← Nat.add_assoc] at this
  exact this
theorem RowAt.take_ {α : Type} {cells : α → List Value} {size : Nat} {w : World} {B n k : Nat} {A : Option Addr} {xs : List α} (h : RowAt cells size w B A n xs) (hk : k ≤ n) : RowAt cells size w B A k (xs.take k) := by
  refine ⟨by rw [List.length_take, h.1]; omega, fun hn => ?_⟩
  obtain ⟨b, off, e, hb, hx⟩ := h.2 (by omega)
  refine ⟨b, off, e, hb, fun i x hi j u hu => hx i x ?_ j u hu⟩
  have hik : i < k := by have := (List.getElem?_eq_some_iff.1 hi).1; simp at this; omega
  rwa [List.getElem?_take_of_lt hik] at hi
theorem bel_alloc {w X : World} (h : Below w.heap.size w X) (o : Obj) : Below w.heap.size w (X.alloc o) := h.alloc h.size o
theorem bel_drew {w X : World} (h : Below w.heap.size w X) : Below w.heap.size w X.drew := h.drew
theorem bel_set {w X : World} (h : Below w.heap.size w X) {b i : Nat} (hb : w.heap.size ≤ b) (u : Value) : Below w.heap.size w (X.setCell ⟨b, i, none⟩ u) := h.setCell hb u
theorem RowAt.prefix_ {α : Type} {cells : α → List Value} {size : Nat} {w : World} {B n : Nat} {A : Option Addr} {xs : List α} {sp : α} (h : RowAt cells size w B A (n + 1) (xs ++ [sp])) : RowAt cells size w B A n xs := by
  have hl : xs.length = n := by have := h.1; simp at this; exact this
  refine ⟨hl, fun hn => ?_⟩
  obtain ⟨b, off, e, hb, hc⟩ := h.2 (by omega)
  exact ⟨b, off, e, hb, fun i x hx j u hu => hc i x (by rw [List.getElem?_append_left (List.getElem?_eq_some_iff.1 hx).1]; exact hx) j u hu⟩
theorem int_rem {a b : Nat} (h : 0 < b) : ((a : Int) % (b : Int)) = ((a % b : Nat) : Int) := by simp
theorem drop_get {α : Type} {l : List α} {k : Nat} {x : α} (h : l[k]? = some x) : l.drop k = x :: l.drop (k + 1) := by
  obtain ⟨hk, e⟩ := List.getElem?_eq_some_iff.1 h
  rw [List.drop_eq_getElem_cons hk, e]
end Go.Proofs.YtafghiekpgjniaaGreatDoor

/- From a map that the walk keeps to what the library's iterators ask; the order of keys. Plain theorems over any program. -/
namespace Go.Proofs.YtafghiekpgjniaaGreatDoor
open Go.RowKit
set_option linter.unusedVariables false
set_option linter.unusedSimpArgs false

open Go.MapKept Go.Maps Go.WideShapes Go.WideMaps
section
variable {V : Type} {ν : V → Value} {P : Program} {kt : TypeId} {w : World} {b : Nat}
theorem ownM_strs {m : List (ByteArray × V)} (hk : P.underlying kt = some .string) (h : OwnM Value.string ν w b m) (hn : m.length ≤ maxLen) (hs : ∀ p ∈ m, p.1.size ≤ maxLen) :
    ∃ D : DataW Unit, w.ownsMap P kt (fun _ => some (.nil, [])) b m.length D ∧ (strKeys D).Perm (m.map fun p => p.1.data.toList) ∧ Maps.size D = m.length := by
  obtain ⟨es, clock, hb, hst, he⟩ := h
  have hlen : es.toList.length = m.length := by simpa using congrArg List.length he
  have hsz : es.size = m.length := by rw [← Array.length_toList, hlen]
  obtain ⟨F, hF⟩ : ∃ F : Value × Value → Option (Lit × DataW Unit), F = fun q => (keyOf P kt q.1).map fun l => (l, .nil) := ⟨_, rfl⟩
  have hrd : ∀ x : MapEntry, WideElems.rd P kt (fun _ => some ((.nil : DataW Unit), [])) x = F (x.key, x.val) := fun x => by
    rw [hF]; simp only [WideElems.rd, Option.map_some]; cases keyOf P kt x.key <;> rfl
  have hFp : ∀ p ∈ m, F (.string p.1, ν p.2) = some (.string p.1.data.toList, .nil) := fun p hp => by rw [hF]; simp [keyOf_string_mk hk (hs p hp)]
  have hmap : es.toList.map (WideElems.rg P kt (fun _ => some ((.nil : DataW Unit), []))) = m.map fun p => (Lit.string p.1.data.toList, .nil) := by
    have h1 : es.toList.map (WideElems.rg P kt (fun _ => some ((.nil : DataW Unit), []))) = (es.toList.map fun e => (e.key, e.val)).map fun q => (F q).getD (.bool false, .nil) := by
      rw [List.map_map]; refine List.map_congr_left fun x _ => ?_
      simp only [WideElems.rg, hrd, Function.comp]
    rw [h1, he, List.map_map]
    refine List.map_congr_left fun p hp => ?_
    simp [Function.comp, hFp p hp]
  refine ⟨_, ⟨es, clock, hb, ⟨by omega, hst, fun x hx => ?_⟩, by omega, rfl⟩, ?_, ?_⟩
  · have h1 : (x.key, x.val) ∈ m.map (fun p => (Value.string p.1, ν p.2)) := by rw [← he]; exact List.mem_map.2 ⟨x, hx, rfl⟩
    obtain ⟨p, hp, e⟩ := List.mem_map.1 h1
    exact ⟨_, by rw [hrd, ← e]; exact hFp p hp⟩
  · rw [hmap]
    refine ((sorted_perm _).map _).trans ?_
    rw [List.map_map]
    exact List.Perm.of_eq (List.map_congr_left fun p _ => rfl)
  · rw [hmap, Maps.size_eq, (sorted_perm _).length_eq, List.length_map]
theorem ownM_ints {m : List (Int × V)} (hk : P.underlying kt = some (.int .i64)) (h : OwnM (Value.int .i64) ν w b m) (hn : m.length ≤ maxLen) (hs : ∀ p ∈ m, (Lit.int .i64 p.1).wf = true) :
    ∃ D : DataW Unit, w.ownsMap P kt (fun _ => some (.nil, [])) b m.length D ∧ (intKeys D).Perm (m.map fun p => p.1) ∧ Maps.size D = m.length := by
  obtain ⟨es, clock, hb, hst, he⟩ := h
  have hlen : es.toList.length = m.length := by simpa using congrArg List.length he
  have hsz : es.size = m.length := by rw [← Array.length_toList, hlen]
  obtain ⟨F, hF⟩ : ∃ F : Value × Value → Option (Lit × DataW Unit), F = fun q => (keyOf P kt q.1).map fun l => (l, .nil) := ⟨_, rfl⟩
  have hrd : ∀ x : MapEntry, WideElems.rd P kt (fun _ => some ((.nil : DataW Unit), [])) x = F (x.key, x.val) := fun x => by
    rw [hF]; simp only [WideElems.rd, Option.map_some]; cases keyOf P kt x.key <;> rfl
  have hFp : ∀ p ∈ m, F (.int .i64 p.1, ν p.2) = some (.int .i64 p.1, .nil) := fun p hp => by rw [hF]; simp [keyOf_int_mk hk (hs p hp)]
  have hmap : es.toList.map (WideElems.rg P kt (fun _ => some ((.nil : DataW Unit), []))) = m.map fun p => (Lit.int .i64 p.1, .nil) := by
    have h1 : es.toList.map (WideElems.rg P kt (fun _ => some ((.nil : DataW Unit), []))) = (es.toList.map fun e => (e.key, e.val)).map fun q => (F q).getD (.bool false, .nil) := by
      rw [List.map_map]; refine List.map_congr_left fun x _ => ?_
      simp only [WideElems.rg, hrd, Function.comp]
    rw [h1, he, List.map_map]
    refine List.map_congr_left fun p hp => ?_
    simp [Function.comp, hFp p hp]
  refine ⟨_, ⟨es, clock, hb, ⟨by omega, hst, fun x hx => ?_⟩, by omega, rfl⟩, ?_, ?_⟩
  · have h1 : (x.key, x.val) ∈ m.map (fun p => (Value.int .i64 p.1, ν p.2)) := by rw [← he]; exact List.mem_map.2 ⟨x, hx, rfl⟩
    obtain ⟨p, hp, e⟩ := List.mem_map.1 h1
    exact ⟨_, by rw [hrd, ← e]; exact hFp p hp⟩
  · rw [hmap]
    refine ((sorted_perm _).map _).trans ?_
    rw [List.map_map]
    exact List.Perm.of_eq (List.map_congr_left fun p _ => rfl)
  · rw [hmap, Maps.size_eq, (sorted_perm _).length_eq, List.length_map]
end

/-! ### keys in order -/
def kL (k : ByteArray) : List UInt8 := k.data.toList
theorem kL_inj {a b : ByteArray} (h : kL a = kL b) : a = b := by
  unfold kL at h; cases a; cases b; simp_all
theorem kL_mk (l : List UInt8) : kL ⟨l.toArray⟩ = l := by simp [kL]
theorem mk_kL (k : ByteArray) : (⟨(kL k).toArray⟩ : ByteArray) = k := by simp [kL]
/-- One key ahead of another one. -/
def ltB (a b : ByteArray) : Bool := decide (kL a < kL b)
theorem ltB_irr (a : ByteArray) : ltB a a = false := by simp [ltB, List.lt_irrefl]
theorem ltB_trans {a b c : ByteArray} (h : ltB a b = true) (k : ltB b c = true) : ltB a c = true := by
  simp only [ltB, decide_eq_true_eq] at *; exact List.lt_trans h k
theorem ltB_asymm {a b : ByteArray} (h : ltB a b = true) : ltB b a = false := by
  cases hb : ltB b a
  · rfl
  · have := ltB_trans h hb; rw [ltB_irr] at this; cases this
theorem ltB_total {a b : ByteArray} (h : ltB a b = false) (k : ltB b a = false) : a = b := by
  simp only [ltB, decide_eq_false_iff_not] at h k
  exact kL_inj (List.le_antisymm (List.not_lt.1 k) (List.not_lt.1 h))
theorem ltB_or (a b : ByteArray) : ltB a b = true ∨ a = b ∨ ltB b a = true := by
  cases h : ltB a b
  · cases k : ltB b a
    · exact Or.inr (Or.inl (ltB_total h k))
    · exact Or.inr (Or.inr rfl)
  · exact Or.inl rfl
theorem ltB_ne {a b : ByteArray} (h : ltB a b = true) : a ≠ b := by rintro rfl; rw [ltB_irr] at h; cases h
/-- A list of keys that rises. -/
def Rises (l : List ByteArray) : Prop := l.Pairwise fun a b => ltB a b = true
theorem Rises.nodup {l : List ByteArray} (h : Rises l) : l.Nodup := h.imp fun h => ltB_ne h
theorem rises_eq {l l' : List ByteArray} (h : Rises l) (h' : Rises l') (hm : ∀ x, x ∈ l ↔ x ∈ l') : l = l' :=
  List.Perm.eq_of_pairwise (le := fun a b => ltB a b = true) (fun a b _ _ h1 h2 => by rw [ltB_asymm h1] at h2; cases h2) h h' ((List.perm_ext_iff_of_nodup h.nodup h'.nodup).2 hm)
/-- A map's keys, rising. -/
def sortedK {V : Type} (m : List (ByteArray × V)) : List ByteArray := ((m.map fun p => kL p.1).mergeSort leB).map fun l => ⟨l.toArray⟩
theorem mem_sortedK {V : Type} (m : List (ByteArray × V)) (k : ByteArray) : k ∈ sortedK m ↔ k ∈ m.map (·.1) := by
  unfold sortedK
  simp only [List.mem_map, List.mem_mergeSort]
  constructor
  · rintro ⟨l, ⟨p, hp, rfl⟩, rfl⟩; exact ⟨p, hp, (mk_kL _).symm⟩
  · rintro ⟨p, hp, rfl⟩; exact ⟨_, ⟨p, hp, rfl⟩, mk_kL _⟩
theorem len_sortedK {V : Type} (m : List (ByteArray × V)) : (sortedK m).length = m.length := by simp [sortedK]
theorem rises_sortedK {V : Type} {m : List (ByteArray × V)} (h : (m.map (·.1)).Nodup) : Rises (sortedK m) := by
  unfold sortedK Rises
  rw [List.pairwise_map]
  have tr : ∀ a b c : List UInt8, leB a b = true → leB b c = true → leB a c = true := fun a b c h1 h2 => by simp only [leB, decide_eq_true_eq] at *; exact List.le_trans h1 h2
  have to : ∀ a b : List UInt8, (leB a b || leB b a) = true := fun a b => by simp only [leB, Bool.or_eq_true, decide_eq_true_eq]; exact List.le_total a b
  have hp := List.pairwise_mergeSort tr to (m.map fun p => kL p.1)
  have hn : ((m.map fun p => kL p.1).mergeSort leB).Nodup := (List.mergeSort_perm _ _).nodup_iff.2 (by
    have : (m.map fun p => kL p.1) = (m.map (·.1)).map kL := by simp
    rw [this]; exact List.Pairwise.map kL (fun a b hab e => hab (kL_inj e)) h)
  refine (hp.and hn).imp fun {a b} ⟨h1, h2⟩ => ?_
  simp only [ltB, kL_mk, leB, decide_eq_true_eq] at *
  exact Classical.byContradiction fun hc => h2 (List.le_antisymm h1 (List.not_lt.1 hc))
/-- What the library hands back, in these words. -/
theorem sortedK_perm {V : Type} {m : List (ByteArray × V)} {ss : List (List UInt8)} (h : ss.Perm (m.map fun p => p.1.data.toList)) : ((ss.mergeSort (fun x y => decide (x ≤ y))).map fun l => (⟨l.toArray⟩ : ByteArray)) = sortedK m := by
  unfold sortedK
  rw [show (ss.mergeSort fun x y => decide (x ≤ y)) = ss.mergeSort leB from rfl, mergeSort_of_perm h]; rfl
end Go.Proofs.YtafghiekpgjniaaGreatDoor

/- Versions of keys, in plain words: lists of versions by rising numbers, what is read, put, collected and dumped. Plain theorems. -/

namespace Go.Proofs.YtafghiekpgjniaaGreatDoor
open Go.RowKit
set_option linter.unusedVariables false
set_option linter.unusedSimpArgs false

structure Ver where
  num : Int
  val : ByteArray
  drop : Bool
def Ver.cells (x : Ver) : List Value := [.int .i64 x.num, .string x.val, .bool x.drop]
def Ver.v (x : Ver) : Value := .agg #[.int .i64 x.num, .string x.val, .bool x.drop]
def verB (x : Ver) : Bool := decide (1 ≤ x.num) && decide (x.num ≤ 65536) && valB x.val && (!x.drop || decide (x.val.size = 0))
theorem len_ver (xs : List Ver) : ∀ x ∈ xs, (Ver.cells x).length = 3 := fun _ _ => rfl
def Asc (l : List Ver) : Prop := l.Pairwise fun a b => a.num < b.num
instance (l : List Ver) : Decidable (Asc l) := by unfold Asc; infer_instance
/-- May versions be? -/
def chkB (l : List Ver) : Bool := l.all verB && decide (Asc l)
theorem chkB_iff {l : List Ver} : chkB l = true ↔ (∀ x ∈ l, verB x = true) ∧ Asc l := by simp [chkB]
theorem chkB_sub {l l' : List Ver} (h : chkB l = true) (hs : l'.Sublist l) : chkB l' = true := by
  rw [chkB_iff] at *
  exact ⟨fun x hx => h.1 x (hs.subset hx), h.2.sublist hs⟩
theorem asc_mono {l : List Ver} (h : Asc l) {i j : Nat} {x y : Ver} (hi : l[i]? = some x) (hj : l[j]? = some y) (hij : i < j) : x.num < y.num := by
  obtain ⟨h1, rfl⟩ := List.getElem?_eq_some_iff.1 hi
  obtain ⟨h2, rfl⟩ := List.getElem?_eq_some_iff.1 hj
  exact List.pairwise_iff_getElem.1 h i j h1 h2 hij
theorem asc_inj {l : List Ver} (h : Asc l) {x y : Ver} (hx : x ∈ l) (hy : y ∈ l) (e : x.num = y.num) : x = y := by
  obtain ⟨i, hi⟩ := List.getElem?_of_mem hx
  obtain ⟨j, hj⟩ := List.getElem?_of_mem hy
  rcases Nat.lt_trichotomy i j with h1 | h1 | h1
  · have := asc_mono h hi hj h1; omega
  · subst h1; rw [hi] at hj; injection hj
  · have := asc_mono h hj hi h1; omega
theorem chkB_step {l : List Ver} {k : Nat} {x : Ver} (hx : l[k]? = some x) : chkB (l.take (k + 1)) = (chkB (l.take k) && (verB x && (decide (k = 0) || match l[k-1]? with | some y => decide (y.num < x.num) | none => true))) := by
  rw [Bool.eq_iff_iff, Bool.and_eq_true, Bool.and_eq_true, chkB_iff, chkB_iff]
  have ht : l.take (k + 1) = l.take k ++ [x] := by rw [List.take_add_one, hx]; rfl
  have hk : k < l.length := (List.getElem?_eq_some_iff.1 hx).1
  rw [ht]
  simp only [Asc, List.pairwise_append, List.mem_append, List.mem_singleton]
  constructor
  · rintro ⟨h1, h2, -, h3⟩
    refine ⟨⟨fun y hy => h1 y (.inl hy), h2⟩, h1 x (.inr rfl), ?_⟩
    rcases Nat.eq_zero_or_pos k with h0 | h0
    · simp [h0]
    · have hy : l[k-1]? = some (l[k-1]'(by omega)) := List.getElem?_eq_getElem _
      rw [hy]
      simp only [Bool.or_eq_true, decide_eq_true_eq]
      refine .inr (h3 _ ?_ x rfl)
      refine List.mem_of_getElem? (i := k - 1) ?_
      rw [List.getElem?_take_of_lt (by omega)]; exact hy
  · rintro ⟨⟨h1, h2⟩, h3, h4⟩
    refine ⟨fun y hy => hy.elim (h1 y) (fun e => e ▸ h3), h2, List.pairwise_singleton _ _, fun y hy z hz => ?_⟩
    subst hz
    obtain ⟨i, hi⟩ := List.getElem?_of_mem hy
    have hik : i < k := by have := (List.getElem?_eq_some_iff.1 hi).1; simp at this; omega
    have hp : l[k-1]? = some (l[k-1]'(by omega)) := List.getElem?_eq_getElem _
    rw [hp] at h4
    simp only [Bool.or_eq_true, decide_eq_true_eq] at h4
    rcases h4 with h4 | h4
    · omega
    · have hp' : (l.take k)[k-1]? = some (l[k-1]'(by omega)) := by rw [List.getElem?_take_of_lt (by omega)]; exact hp
      rcases Nat.lt_or_ge i (k - 1) with h5 | h5
      · have := asc_mono h2 hi hp' h5; omega
      · have : i = k - 1 := by omega
        subst this
        rw [hi] at hp'; injection hp' with e; rw [e]; exact h4
theorem chkB_take {l : List Ver} (k : Nat) (h : chkB l = true) : chkB (l.take k) = true := chkB_sub h (List.take_sublist _ _)
theorem chkB_drop {l : List Ver} (k : Nat) (h : chkB l = true) : chkB (l.drop k) = true := chkB_sub h (List.drop_sublist _ _)
theorem asc_len : ∀ {l : List Ver} {lo hi : Int}, Asc l → (∀ x ∈ l, lo ≤ x.num ∧ x.num < hi) → lo ≤ hi → (l.length : Int) ≤ hi - lo
  | [], _, _, _, _, h => by simp; omega
  | x :: r, lo, hi, ha, hb, h => by
    have h1 := hb x (by simp)
    have ha' := List.pairwise_cons.1 ha
    have := asc_len (l := r) (lo := x.num + 1) (hi := hi) ha'.2 (fun y hy => ⟨by have := ha'.1 y hy; omega, (hb y (by simp [hy])).2⟩) (by omega)
    simp only [List.length_cons]; omega
theorem verB_num {x : Ver} (h : verB x = true) : 1 ≤ x.num ∧ x.num ≤ 65536 := by simp only [verB] at h; grind
theorem verB_val {x : Ver} (h : verB x = true) : x.val.size ≤ 1024 := by simp only [verB, valB] at h; grind
theorem verB_drop {x : Ver} (h : verB x = true) (hd : x.drop = true) : x.val = ByteArray.empty := by
  have : x.val.size = 0 := by simp only [verB] at h; grind
  exact ByteArray.size_eq_zero_iff.1 this
theorem chkB_len {l : List Ver} (h : chkB l = true) : l.length ≤ 65536 := by
  rw [chkB_iff] at h
  have := asc_len (lo := 1) (hi := 65537) h.2 (fun x hx => by have := verB_num (h.1 x hx); omega) (by omega)
  omega

/-- How many are at or below a mark. -/
def upto (l : List Ver) (a : Int) : Nat := l.countP fun v => decide (v.num ≤ a)
theorem upto_le (l : List Ver) (a : Int) : upto l a ≤ l.length := List.countP_le_length
theorem asc_cut : ∀ {l : List Ver} (a : Int), Asc l → l.take (upto l a) = l.filter (fun v => decide (v.num ≤ a)) ∧ l.drop (upto l a) = l.filter (fun v => decide (a < v.num))
  | [], _, _ => by simp [upto]
  | x :: r, a, h => by
    have h' := List.pairwise_cons.1 h
    obtain ⟨h1, h2⟩ := asc_cut a h'.2
    by_cases hx : x.num ≤ a
    · have e : upto (x :: r) a = upto r a + 1 := by simp [upto, List.countP_cons, hx]
      rw [e, List.take_succ_cons, List.drop_succ_cons, h1, h2]
      simp [hx, Int.not_lt.2 hx]
    · have e : upto (x :: r) a = 0 := by
        unfold upto
        rw [List.countP_eq_zero]
        intro y hy
        rcases List.mem_cons.1 hy with rfl | hy
        · simpa using hx
        · have := h'.1 y hy; simp; omega
      rw [e]
      have n1 : ∀ y ∈ x :: r, ¬ (decide (y.num ≤ a) = true) := List.countP_eq_zero.1 e
      refine ⟨?_, ?_⟩
      · rw [List.take_zero, eq_comm, List.filter_eq_nil_iff]; exact n1
      · rw [List.drop_zero, eq_comm, List.filter_eq_self]
        intro y hy; have := n1 y hy; simp at this ⊢; omega
theorem upto_low {l : List Ver} {a : Int} (h : Asc l) {i : Nat} {x : Ver} (hx : l[i]? = some x) : i < upto l a ↔ x.num ≤ a := by
  obtain ⟨h1, h2⟩ := asc_cut a h
  constructor
  · intro hi
    have : x ∈ l.take (upto l a) := List.mem_of_getElem? (i := i) (by rw [List.getElem?_take_of_lt hi]; exact hx)
    rw [h1] at this; simpa using (List.mem_filter.1 this).2
  · intro hle
    refine Classical.byContradiction fun hc => ?_
    have : x ∈ l.drop (upto l a) := List.mem_of_getElem? (i := i - upto l a) (by rw [List.getElem?_drop, show upto l a + (i - upto l a) = i from by omega]; exact hx)
    rw [h2] at this
    have := (List.mem_filter.1 this).2
    simp at this; omega
/-- The newest one at a mark. -/
def atV (l : List Ver) (m : Int) : Option Ver := if upto l m = 0 then none else l[upto l m - 1]?
theorem atV_some {l : List Ver} (h : Asc l) {m : Int} {x : Ver} : atV l m = some x ↔ x ∈ l ∧ x.num ≤ m ∧ ∀ y ∈ l, y.num ≤ m → y.num ≤ x.num := by
  unfold atV
  constructor
  · intro he
    split at he
    · cases he
    · rename_i h0
      refine ⟨List.mem_of_getElem? he, (upto_low (a := m) h he).1 (by omega), fun y hy hm => ?_⟩
      obtain ⟨j, hj⟩ := List.getElem?_of_mem hy
      have := (upto_low h hj).2 hm
      rcases Nat.lt_or_ge j (upto l m - 1) with h1 | h1
      · have := asc_mono h hj he h1; omega
      · have : j = upto l m - 1 := by omega
        subst this; rw [he] at hj; injection hj with e; rw [e]; omega
  · rintro ⟨hx, hm, hmax⟩
    obtain ⟨i, hi⟩ := List.getElem?_of_mem hx
    have h1 := (upto_low h hi).2 hm
    rw [if_neg (by omega)]
    have hlt : upto l m - 1 < l.length := by have := upto_le l m; omega
    have hy : l[upto l m - 1]? = some (l[upto l m - 1]) := List.getElem?_eq_getElem hlt
    have hym := (upto_low (a := m) h hy).1 (by omega)
    have := hmax _ (List.mem_of_getElem? hy) hym
    rcases Nat.lt_or_ge i (upto l m - 1) with h2 | h2
    · have := asc_mono h hi hy h2; omega
    · have : i = upto l m - 1 := by omega
      rw [← this]; exact hi
theorem atV_none {l : List Ver} {m : Int} : atV l m = none ↔ ∀ y ∈ l, m < y.num := by
  unfold atV
  constructor
  · intro he
    split at he
    · rename_i h0
      intro y hy
      have := List.countP_eq_zero.1 h0 y hy
      simpa using this
    · rename_i h0
      have := upto_le l m
      rw [List.getElem?_eq_none_iff] at he; omega
  · intro h
    rw [if_pos]
    exact List.countP_eq_zero.2 fun y hy => by have := h y hy; simp; omega
theorem atV_mem {l : List Ver} {m : Int} {x : Ver} (h : atV l m = some x) : x ∈ l := by
  unfold atV at h; split at h
  · cases h
  · exact List.mem_of_getElem? h
/-- What a key reads as. -/
def getV (l : List Ver) (m : Int) : ByteArray × Bool := match atV l m with | some v => (v.val, !v.drop) | none => (ByteArray.empty, false)
/-- With one more. -/
def putV (l : List Ver) (x : Ver) : List Ver := l.take (upto l x.num) ++ x :: l.drop (upto l x.num)
def hasV (l : List Ver) (n : Int) : Bool := l.any fun y => decide (y.num = n)
theorem hasV_iff {l : List Ver} {n : Int} : hasV l n = true ↔ ∃ y ∈ l, y.num = n := by simp [hasV]
theorem hasV_at {l : List Ver} (h : Asc l) (n : Int) : hasV l n = match atV l n with | some y => decide (y.num = n) | none => false := by
  rw [Bool.eq_iff_iff, hasV_iff]
  constructor
  · rintro ⟨y, hy, rfl⟩
    have : atV l y.num = some y := (atV_some h).2 ⟨hy, by omega, fun z _ hz => hz⟩
    rw [this]; simp
  · intro he
    cases ha : atV l n with
    | none => rw [ha] at he; cases he
    | some y => rw [ha] at he; exact ⟨y, atV_mem ha, by simpa using he⟩
theorem mem_putV {l : List Ver} {x y : Ver} : y ∈ putV l x ↔ y = x ∨ y ∈ l := by
  have : y ∈ l ↔ y ∈ l.take (upto l x.num) ∨ y ∈ l.drop (upto l x.num) := by rw [← List.mem_append, List.take_append_drop]
  rw [putV, this]; simp only [List.mem_append, List.mem_cons]; grind
theorem len_putV (l : List Ver) (x : Ver) : (putV l x).length = l.length + 1 := by
  have := upto_le l x.num
  simp [putV]; omega
theorem asc_putV {l : List Ver} (h : Asc l) {x : Ver} (hn : hasV l x.num = false) : Asc (putV l x) := by
  obtain ⟨h1, h2⟩ := asc_cut x.num h
  have hn' : ∀ y ∈ l, y.num ≠ x.num := fun y hy e => by
    have := hasV_iff.2 ⟨y, hy, e⟩; rw [hn] at this; cases this
  unfold putV Asc
  rw [h1, h2, List.pairwise_append]
  refine ⟨h.sublist List.filter_sublist, List.pairwise_cons.2 ⟨fun y hy => by simpa using (List.mem_filter.1 hy).2, h.sublist List.filter_sublist⟩, fun y hy z hz => ?_⟩
  have hy' := List.mem_filter.1 hy
  have := hn' y hy'.1
  have h3 : y.num ≤ x.num := by simpa using hy'.2
  rcases List.mem_cons.1 hz with rfl | hz
  · omega
  · have := (List.mem_filter.1 hz).2; simp at this; omega
theorem chkB_putV {l : List Ver} (h : chkB l = true) {x : Ver} (hx : verB x = true) (hn : hasV l x.num = false) : chkB (putV l x) = true := by
  rw [chkB_iff] at *
  exact ⟨fun y hy => (mem_putV.1 hy).elim (fun e => e ▸ hx) (h.1 y), asc_putV h.2 hn⟩
theorem asc_ext {l l' : List Ver} (h : Asc l) (h' : Asc l') (hm : ∀ x, x ∈ l ↔ x ∈ l') : l = l' := by
  have n1 : l.Nodup := h.imp fun {a b} hab e => by subst e; omega
  have n2 : l'.Nodup := h'.imp fun {a b} hab e => by subst e; omega
  exact List.Perm.eq_of_pairwise (le := fun a b : Ver => a.num < b.num) (fun a b _ _ h1 h2 => by omega) h h' ((List.perm_ext_iff_of_nodup n1 n2).2 hm)
/-- Without what newer ones hide at a mark. -/
def collV (l : List Ver) (least : Int) : List Ver := l.drop (upto l least - 1)
theorem collV_sub (l : List Ver) (least : Int) : (collV l least).Sublist l := List.drop_sublist _ _
theorem len_collV (l : List Ver) (least : Int) : (collV l least).length = l.length - (upto l least - 1) := by simp [collV]
theorem collV_ne {l : List Ver} (h : l ≠ []) (least : Int) : collV l least ≠ [] := by
  have h1 := upto_le l least
  have h2 := List.length_pos_iff.2 h
  intro e
  have := congrArg List.length e
  simp [collV] at this; omega
theorem atV_collV {l : List Ver} (h : Asc l) {least m : Int} (hm : least ≤ m) : atV (collV l least) m = atV l m := by
  have ha : Asc (collV l least) := h.sublist (collV_sub _ _)
  cases e : atV l m with
  | none => exact atV_none.2 fun y hy => atV_none.1 e y ((collV_sub _ _).subset hy)
  | some x =>
    obtain ⟨h1, h2, h3⟩ := (atV_some h).1 e
    refine (atV_some ha).2 ⟨?_, h2, fun y hy => h3 y ((collV_sub _ _).subset hy)⟩
    obtain ⟨i, hi⟩ := List.getElem?_of_mem h1
    have hi' : upto l least - 1 ≤ i := by
      rcases Nat.lt_or_ge i (upto l least - 1) with h4 | h4
      · have hlt : upto l least - 1 < l.length := by have := upto_le l least; omega
        have hy : l[upto l least - 1]? = some (l[upto l least - 1]) := List.getElem?_eq_getElem hlt
        have := (upto_low h (a := least) hy).1 (by omega)
        have h5 := h3 _ (List.mem_of_getElem? hy) (by omega)
        have := asc_mono h hi hy h4; omega
      · exact h4
    refine List.mem_of_getElem? (i := i - (upto l least - 1)) ?_
    rw [collV, List.getElem?_drop, show upto l least - 1 + (i - (upto l least - 1)) = i from by omega]; exact hi
theorem low_collV {l : List Ver} (h : Asc l) (least : Int) : upto (collV l least) least ≤ 1 := by
  have : upto l least = upto (l.take (upto l least - 1)) least + upto (collV l least) least := by
    have := List.countP_append (p := fun v : Ver => decide (v.num ≤ least)) (l₁ := l.take (upto l least - 1)) (l₂ := l.drop (upto l least - 1))
    rw [List.take_append_drop] at this
    exact this
  have h2 : upto (l.take (upto l least - 1)) least = upto l least - 1 := by
    have h3 : (l.take (upto l least - 1)).length = upto l least - 1 := by have := upto_le l least; simp; omega
    have : (l.take (upto l least - 1)).countP (fun v : Ver => decide (v.num ≤ least)) = (l.take (upto l least - 1)).length := by
      rw [List.countP_eq_length]
      intro y hy
      obtain ⟨i, hi⟩ := List.getElem?_of_mem hy
      have hi' : i < upto l least - 1 := by have := (List.getElem?_eq_some_iff.1 hi).1; omega
      rw [List.getElem?_take_of_lt hi'] at hi
      simpa using (upto_low h (a := least) hi).1 (by omega)
    unfold upto at this h3 ⊢
    omega
  omega
/-- What a checkpoint keeps of a key. -/
def dumpV (l : List Ver) (mark : Int) (beyond : List Int) : List Ver :=
  (match atV l mark with | some v => if v.drop then [] else [v] | none => []) ++ (l.drop (upto l mark)).filter fun v => beyond.contains v.num
theorem mem_dumpV {l : List Ver} {mark : Int} {beyond : List Int} {x : Ver} (h : Asc l) : x ∈ dumpV l mark beyond ↔ (atV l mark = some x ∧ x.drop = false) ∨ (x ∈ l ∧ mark < x.num ∧ x.num ∈ beyond) := by
  unfold dumpV
  rw [(asc_cut mark h).2, List.mem_append, List.mem_filter, List.mem_filter]
  refine or_congr ?_ ?_
  · cases atV l mark with
    | none => simp
    | some v => cases hd : v.drop <;> simp [hd] <;> grind
  · simp; grind
theorem dumpV_sub {l : List Ver} {mark : Int} {beyond : List Int} : (dumpV l mark beyond).Sublist l := by
  unfold dumpV
  have h2 : ((l.drop (upto l mark)).filter fun v => beyond.contains v.num).Sublist (l.drop (upto l mark)) := List.filter_sublist
  have h1 : (match atV l mark with | some v => if v.drop then [] else [v] | none => []).Sublist (l.take (upto l mark)) := by
    cases e : atV l mark with
    | none => exact List.nil_sublist _
    | some v =>
      simp only
      split
      · exact List.nil_sublist _
      · unfold atV at e
        split at e
        · cases e
        · rename_i h0
          refine List.singleton_sublist.2 (List.mem_of_getElem? (i := upto l mark - 1) ?_)
          rw [List.getElem?_take_of_lt (by omega)]; exact e
  have := h1.append h2
  rwa [List.take_append_drop] at this
theorem getV_dumpV {l : List Ver} (h : chkB l = true) {mark m : Int} {beyond : List Int} (hm : mark ≤ m) (hb : ∀ x ∈ l, mark < x.num → x.num ∈ beyond) : getV (dumpV l mark beyond) m = getV l m := by
  have ha := (chkB_iff.1 h).2
  have hd : Asc (dumpV l mark beyond) := ha.sublist dumpV_sub
  have hsub : ∀ {y}, y ∈ dumpV l mark beyond → y ∈ l := fun hy => dumpV_sub.subset hy
  unfold getV
  cases e : atV l m with
  | none => rw [atV_none.2 fun y hy => atV_none.1 e y (hsub hy)]
  | some x =>
    obtain ⟨h1, h2, h3⟩ := (atV_some ha).1 e
    by_cases hx : mark < x.num
    · have : atV (dumpV l mark beyond) m = some x := (atV_some hd).2 ⟨(mem_dumpV ha).2 (.inr ⟨h1, hx, hb x h1 hx⟩), h2, fun y hy => h3 y (hsub hy)⟩
      rw [this]
    · have hat : atV l mark = some x := (atV_some ha).2 ⟨h1, by omega, fun y hy hy2 => h3 y hy (by omega)⟩
      cases hdr : x.drop with
      | false =>
        have : atV (dumpV l mark beyond) m = some x := (atV_some hd).2 ⟨(mem_dumpV ha).2 (.inl ⟨hat, hdr⟩), h2, fun y hy => h3 y (hsub hy)⟩
        rw [this]
      | true =>
        have : atV (dumpV l mark beyond) m = none := atV_none.2 fun y hy => by
          rcases (mem_dumpV ha).1 hy with ⟨h4, h5⟩ | ⟨h4, h5, h6⟩
          · rw [hat] at h4; injection h4 with h4; subst h4; rw [hdr] at h5; cases h5
          · refine Classical.byContradiction fun hc => ?_
            have := h3 y h4 (by omega); omega
        rw [this]
        have := verB_drop ((chkB_iff.1 h).1 x h1) hdr
        simp [hdr, this]
end Go.Proofs.YtafghiekpgjniaaGreatDoor

/- A shard in plain words: keys with their versions, by rising keys. Plain theorems. -/

namespace Go.Proofs.YtafghiekpgjniaaGreatDoor
open Go.RowKit
set_option linter.unusedVariables false
set_option linter.unusedSimpArgs false

/-- Keys with versions. -/
abbrev Hs := List (ByteArray × List Ver)
def hget (L : Hs) (k : ByteArray) : List Ver := (mget L k).getD []
/-- What a shard may hold. -/
structure HsOk (L : Hs) : Prop where
  rises : Rises (L.map (·.1))
  some_ : ∀ p ∈ L, p.2 ≠ []
  chk : ∀ p ∈ L, chkB p.2 = true
  key : ∀ p ∈ L, keyB p.1 = true
theorem HsOk.nodup {L : Hs} (h : HsOk L) : (L.map (·.1)).Nodup := h.rises.nodup
theorem HsOk.nil : HsOk [] := ⟨List.Pairwise.nil, by simp, by simp, by simp⟩
theorem hget_mem {L : Hs} (h : HsOk L) {k : ByteArray} {l : List Ver} (hm : (k, l) ∈ L) : hget L k = l := by
  rw [hget, mget_of_mem h.nodup hm]; rfl
theorem hget_of_ne {L : Hs} {k : ByteArray} (hn : hget L k ≠ []) : (k, hget L k) ∈ L := by
  unfold hget at *
  cases e : mget L k with
  | none => rw [e] at hn; exact absurd rfl hn
  | some l => rw [e] at hn; exact mget_some_mem e
theorem hget_ne {L : Hs} (h : HsOk L) {k : ByteArray} : hget L k ≠ [] ↔ k ∈ L.map (·.1) := by
  constructor
  · intro hn; exact List.mem_map.2 ⟨_, hget_of_ne hn, rfl⟩
  · intro hm
    obtain ⟨p, hp, rfl⟩ := List.mem_map.1 hm
    rw [hget_mem h (l := p.2) hp]; exact h.some_ p hp
theorem hget_chk {L : Hs} (h : HsOk L) (k : ByteArray) : chkB (hget L k) = true := by
  by_cases hn : hget L k = []
  · rw [hn]; rfl
  · exact h.chk _ (hget_of_ne hn)
theorem hs_map {L : Hs} (h : HsOk L) : L = (L.map (·.1)).map fun k => (k, hget L k) := by
  rw [List.map_map]
  conv => lhs; rw [← List.map_id L]
  refine List.map_congr_left fun p hp => ?_
  obtain ⟨k, l⟩ := p
  simp [Function.comp, hget_mem h hp]
theorem hs_ext {L L' : Hs} (h : HsOk L) (h' : HsOk L') (he : ∀ k, hget L k = hget L' k) : L = L' := by
  rw [hs_map h, hs_map h']
  have : L.map (·.1) = L'.map (·.1) := rises_eq h.rises h'.rises fun k => by rw [← hget_ne h, ← hget_ne h', he]
  rw [this]
  exact List.map_congr_left fun k _ => by rw [he]
/-- Of a map's contents: by rising keys. -/
def cont (m : List (ByteArray × List Ver)) : Hs := (sortedK m).map fun k => (k, (mget m k).getD [])
theorem keys_cont (m : List (ByteArray × List Ver)) : (cont m).map (·.1) = sortedK m := by
  rw [cont, List.map_map]
  exact List.map_id _
theorem hget_cont (m : List (ByteArray × List Ver)) (k : ByteArray) : hget (cont m) k = (mget m k).getD [] := by
  unfold hget
  by_cases hk : k ∈ sortedK m
  · have : mget (cont m) k = some ((mget m k).getD []) := by
      unfold cont
      generalize hg : sortedK m = ks at hk
      clear hg
      induction ks with
      | nil => simp at hk
      | cons a r ih =>
        simp only [List.map_cons, mget]
        by_cases ha : a = k
        · subst ha; simp
        · rw [if_neg ha]; exact ih (by rcases List.mem_cons.1 hk with e | e; exact absurd e.symm ha; exact e)
    rw [this]; rfl
  · have h1 : mget (cont m) k = none := (mget_none_iff _ _).2 (by rw [keys_cont]; exact hk)
    have h2 : mget m k = none := (mget_none_iff _ _).2 (by rw [← mem_sortedK]; exact hk)
    rw [h1, h2]
/-- A map's entries, as they must be. -/
structure MOk (m : List (ByteArray × List Ver)) : Prop where
  nodup : (m.map (·.1)).Nodup
  some_ : ∀ p ∈ m, p.2 ≠ []
  chk : ∀ p ∈ m, chkB p.2 = true
  key : ∀ p ∈ m, keyB p.1 = true
theorem cont_ok {m : List (ByteArray × List Ver)} (h : MOk m) : HsOk (cont m) := by
  have hmem : ∀ p ∈ cont m, (p.1, p.2) ∈ m := fun p hp => by
    unfold cont at hp
    obtain ⟨k, hk, rfl⟩ := List.mem_map.1 hp
    rw [mem_sortedK] at hk
    obtain ⟨q, hq, rfl⟩ := List.mem_map.1 hk
    simp only
    rw [mget_of_mem h.nodup (k := q.1) (v := q.2) hq]; exact hq
  exact ⟨by rw [keys_cont]; exact rises_sortedK h.nodup, fun p hp => h.some_ _ (hmem p hp), fun p hp => h.chk _ (hmem p hp), fun p hp => h.key _ (hmem p hp)⟩
theorem mok_put {m : List (ByteArray × List Ver)} (h : MOk m) {k : ByteArray} {l : List Ver} (hk : keyB k = true) (hl : chkB l = true) (hn : l ≠ []) : MOk (mput m k l) := by
  have hmem : ∀ p ∈ mput m k l, p = (k, l) ∨ p ∈ m := fun p hp => by
    clear h
    induction m with
    | nil => simp [mput] at hp; exact .inl hp
    | cons q r ih =>
      obtain ⟨a, u⟩ := q
      simp only [mput] at hp
      split at hp
      · rcases List.mem_cons.1 hp with e | e
        · exact .inl e
        · exact .inr (by simp [e])
      · rcases List.mem_cons.1 hp with e | e
        · exact .inr (by simp [e])
        · exact (ih e).imp id (fun e => by simp [e])
  exact ⟨nodup_mput _ _ h.nodup, fun p hp => (hmem p hp).elim (fun e => e ▸ hn) (h.some_ p), fun p hp => (hmem p hp).elim (fun e => e ▸ hl) (h.chk p), fun p hp => (hmem p hp).elim (fun e => e ▸ hk) (h.key p)⟩
theorem MOk.nil : MOk [] := ⟨List.nodup_nil, by simp, by simp, by simp⟩
/-- A key's versions set. -/
def hput (L : Hs) (k : ByteArray) (l : List Ver) : Hs := cont (mput L k l)
theorem HsOk.mok {L : Hs} (h : HsOk L) : MOk L := ⟨h.nodup, h.some_, h.chk, h.key⟩
theorem hget_hput {L : Hs} {k j : ByteArray} {l : List Ver} : hget (hput L k l) j = if k = j then l else hget L j := by
  rw [hput, hget_cont, mget_mput]; split
  · rfl
  · rfl
theorem hput_ok {L : Hs} (h : HsOk L) {k : ByteArray} {l : List Ver} (hk : keyB k = true) (hl : chkB l = true) (hn : l ≠ []) : HsOk (hput L k l) := cont_ok (mok_put h.mok hk hl hn)
theorem cont_put {m : List (ByteArray × List Ver)} (h : MOk m) {k : ByteArray} {l : List Ver} (hk : keyB k = true) (hl : chkB l = true) (hn : l ≠ []) : cont (mput m k l) = hput (cont m) k l :=
  hs_ext (cont_ok (mok_put h hk hl hn)) (hput_ok (cont_ok h) hk hl hn) fun j => by
    rw [hget_cont, mget_mput, hget_hput, hget_cont]; split <;> rfl
theorem hput_same {L : Hs} (h : HsOk L) {k : ByteArray} (hn : hget L k ≠ []) : hput L k (hget L k) = L :=
  hs_ext (hput_ok h (h.key _ (hget_of_ne hn)) (hget_chk h k) hn) h fun j => by rw [hget_hput]; split; · subst_vars; rfl
                                                                               · rfl
/-- What a shard has of a stretch at a mark. -/
def inS (key end_ k : ByteArray) : Bool := !ltB k key && (decide (end_.size = 0) || ltB k end_)
def scanH (L : Hs) (key end_ : ByteArray) (m : Int) : List (ByteArray × ByteArray) := L.filterMap fun p => if (getV p.2 m).2 && inS key end_ p.1 then some (p.1, (getV p.2 m).1) else none
def collH (L : Hs) (least : Int) : Hs := L.map fun p => (p.1, collV p.2 least)
def goneH (L : Hs) (least : Int) : Nat := (L.map fun p => upto p.2 least - 1).sum
def pickH (f : List Ver → List Ver) (L : Hs) : Hs := (L.map fun p => (p.1, f p.2)).filter fun p => decide (p.2 ≠ [])
def sizeH (L : Hs) : Nat := (L.map fun p => p.2.length).sum
theorem pickH_id {L : Hs} (h : HsOk L) : pickH id L = L := by
  unfold pickH
  rw [List.filter_eq_self.2]
  · simp
  · intro p hp
    obtain ⟨q, hq, rfl⟩ := List.mem_map.1 hp
    simpa using h.some_ q hq
theorem keys_collH (L : Hs) (least : Int) : (collH L least).map (·.1) = L.map (·.1) := by simp [collH]
theorem mget_map {V W : Type} (f : V → W) (L : List (ByteArray × V)) (k : ByteArray) : mget (L.map fun p => (p.1, f p.2)) k = (mget L k).map f := by
  induction L with
  | nil => rfl
  | cons p r ih => obtain ⟨a, v⟩ := p; simp only [List.map_cons, mget]; split <;> simp_all
theorem hget_collH (L : Hs) (least : Int) (k : ByteArray) : hget (collH L least) k = collV (hget L k) least := by
  unfold hget collH
  rw [mget_map (fun l => collV l least)]
  cases mget L k <;> simp [collV]
theorem collH_ok {L : Hs} (h : HsOk L) (least : Int) : HsOk (collH L least) := by
  refine ⟨by rw [keys_collH]; exact h.rises, fun p hp => ?_, fun p hp => ?_, fun p hp => ?_⟩ <;> obtain ⟨q, hq, rfl⟩ := List.mem_map.1 hp
  · exact collV_ne (h.some_ q hq) least
  · exact chkB_sub (h.chk q hq) (collV_sub _ _)
  · exact h.key q hq
theorem pickH_ok {L : Hs} (h : HsOk L) {f : List Ver → List Ver} (hf : ∀ l, (f l).Sublist l) : HsOk (pickH f L) := by
  have hm : ∀ p ∈ pickH f L, ∃ q ∈ L, p = (q.1, f q.2) ∧ f q.2 ≠ [] := fun p hp => by
    obtain ⟨h1, h2⟩ := List.mem_filter.1 hp
    obtain ⟨q, hq, rfl⟩ := List.mem_map.1 h1
    exact ⟨q, hq, rfl, by simpa using h2⟩
  refine ⟨?_, fun p hp => ?_, fun p hp => ?_, fun p hp => ?_⟩
  · have : ((L.map fun p => (p.1, f p.2)).map (·.1)) = L.map (·.1) := by simp
    have h2 : ((pickH f L).map (·.1)).Sublist (L.map (·.1)) := by rw [← this]; exact List.filter_sublist.map _
    exact h.rises.sublist h2
  all_goals obtain ⟨q, hq, rfl, hne⟩ := hm p hp
  · exact hne
  · exact chkB_sub (h.chk q hq) (hf _)
  · exact h.key q hq
theorem hget_pickH {L : Hs} (h : HsOk L) {f : List Ver → List Ver} (hf : ∀ l, (f l).Sublist l) (k : ByteArray) : hget (pickH f L) k = f (hget L k) := by
  have hok := pickH_ok h hf
  by_cases hn : hget (pickH f L) k = []
  · rw [hn]
    refine Classical.byContradiction fun hc => ?_
    have h1 : hget L k ≠ [] := fun e => hc (by rw [e]; exact (List.sublist_nil.1 (hf [])).symm)
    have h2 : (k, f (hget L k)) ∈ pickH f L := List.mem_filter.2 ⟨List.mem_map.2 ⟨_, hget_of_ne h1, rfl⟩, by simpa using fun e => hc e.symm⟩
    rw [hget_mem hok h2] at hn; exact hc hn.symm
  · have := hget_of_ne hn
    obtain ⟨h1, h2⟩ := List.mem_filter.1 this
    obtain ⟨q, hq, e⟩ := List.mem_map.1 h1
    simp only [Prod.mk.injEq] at e
    obtain ⟨rfl, e2⟩ := e
    rw [← e2, hget_mem h (l := q.2) hq]
/-- Two shards that read the same at a mark have the same stretches. -/
theorem mem_scanH {L : Hs} (h : HsOk L) {key end_ : ByteArray} {m : Int} {k v : ByteArray} : (k, v) ∈ scanH L key end_ m ↔ getV (hget L k) m = (v, true) ∧ inS key end_ k = true := by
  unfold scanH
  rw [List.mem_filterMap]
  constructor
  · rintro ⟨p, hp, he⟩
    obtain ⟨k', l⟩ := p
    split at he
    · rename_i hc
      simp only [Option.some.injEq, Prod.mk.injEq] at he
      obtain ⟨rfl, rfl⟩ := he
      rw [hget_mem h hp]
      simp only [Bool.and_eq_true] at hc
      exact ⟨Prod.ext rfl hc.1, hc.2⟩
    · cases he
  · rintro ⟨h1, h2⟩
    have hn : hget L k ≠ [] := fun e => by rw [e] at h1; simp [getV, atV, upto] at h1
    refine ⟨_, hget_of_ne hn, ?_⟩
    simp [h1, h2]
theorem scanH_keys (L : Hs) (key end_ : ByteArray) (m : Int) : ((scanH L key end_ m).map (·.1)).Sublist (L.map (·.1)) := by
  unfold scanH
  induction L with
  | nil => exact List.Sublist.slnil
  | cons p r ih =>
    rw [List.filterMap_cons]
    split
    · exact ih.cons _
    · rename_i b hb
      split at hb
      · simp only [Option.some.injEq] at hb; subst hb; exact ih.cons_cons _
      · cases hb
theorem scanH_rises {L : Hs} (h : HsOk L) (key end_ : ByteArray) (m : Int) : Rises ((scanH L key end_ m).map (·.1)) := h.rises.sublist (scanH_keys L key end_ m)
theorem ents_ext {A B : List (ByteArray × ByteArray)} (hA : Rises (A.map (·.1))) (hB : Rises (B.map (·.1))) (hm : ∀ k v, (k, v) ∈ A ↔ (k, v) ∈ B) : A = B := by
  have p1 : A.Pairwise fun a b => ltB a.1 b.1 = true := List.pairwise_map.1 hA
  have p2 : B.Pairwise fun a b => ltB a.1 b.1 = true := List.pairwise_map.1 hB
  have n1 : A.Nodup := p1.imp fun {a b} h e => by subst e; rw [ltB_irr] at h; cases h
  have n2 : B.Nodup := p2.imp fun {a b} h e => by subst e; rw [ltB_irr] at h; cases h
  exact List.Perm.eq_of_pairwise (le := fun a b => ltB a.1 b.1 = true) (fun a b _ _ h1 h2 => by rw [ltB_asymm h1] at h2; cases h2) p1 p2 ((List.perm_ext_iff_of_nodup n1 n2).2 fun x => hm x.1 x.2)
theorem scanH_ext {L L' : Hs} (h : HsOk L) (h' : HsOk L') {m : Int} (he : ∀ k, getV (hget L k) m = getV (hget L' k) m) (key end_ : ByteArray) : scanH L key end_ m = scanH L' key end_ m :=
  ents_ext (scanH_rises h _ _ _) (scanH_rises h' _ _ _) fun k v => by rw [mem_scanH h, mem_scanH h', he]
theorem sizeH_collH (L : Hs) (least : Int) : sizeH (collH L least) = sizeH L - goneH L least ∧ goneH L least ≤ sizeH L := by
  unfold sizeH collH goneH
  induction L with
  | nil => simp
  | cons p r ih =>
    have := upto_le p.2 least
    simp only [List.map_cons, List.sum_cons, len_collV] at *
    omega
end Go.Proofs.YtafghiekpgjniaaGreatDoor

/- A shard that is filled by installs, one after the other: what it has, in which order whatever. Plain theorems. -/

namespace Go.Proofs.YtafghiekpgjniaaGreatDoor
open Go.RowKit
set_option linter.unusedVariables false
set_option linter.unusedSimpArgs false

structure Part where
  num : Int
  w : Wr
def Part.ver (p : Part) : Ver := ⟨p.num, p.w.val, p.w.drop⟩
def Part.cells (p : Part) : List Value := [.int .i64 p.num, .string p.w.key, .string p.w.val, .bool p.w.drop]
theorem len_part (xs : List Part) : ∀ x ∈ xs, (Part.cells x).length = 4 := fun _ _ => rfl
/-- May it be installed at all? -/
def okP (p : Part) : Bool := keyB p.w.key && verB p.ver
/-- Is it new? -/
def newP (L : Hs) (p : Part) : Bool := okP p && !hasV (hget L p.w.key) p.num
def instH (L : Hs) (p : Part) : Hs := if newP L p then hput L p.w.key (putV (hget L p.w.key) p.ver) else L
def fillH : List Part → Hs → List Part → Hs × List Part
  | [], L, ins => (L, ins)
  | p :: r, L, ins => if newP L p then fillH r (instH L p) (ins ++ [p]) else fillH r L ins
theorem fillH_append (a b : List Part) (L : Hs) (ins : List Part) : fillH (a ++ b) L ins = fillH b (fillH a L ins).1 (fillH a L ins).2 := by
  induction a generalizing L ins with
  | nil => rfl
  | cons p r ih => simp only [List.cons_append, fillH]; split <;> exact ih _ _
theorem fillH_snoc (a : List Part) (p : Part) (L : Hs) (ins : List Part) : fillH (a ++ [p]) L ins = if newP (fillH a L ins).1 p then (instH (fillH a L ins).1 p, (fillH a L ins).2 ++ [p]) else fillH a L ins := by
  rw [fillH_append]; simp only [fillH]
/-- The number of versions. -/
def sizeM (m : Hs) : Nat := (m.map fun p => p.2.length).sum
theorem sizeM_mput (m : Hs) (k : ByteArray) (l : List Ver) : sizeM (mput m k l) + (hget m k).length = sizeM m + l.length := by
  unfold sizeM hget
  induction m with
  | nil => simp [mput, mget]
  | cons q r ih =>
    obtain ⟨a, u⟩ := q
    simp only [mput, mget]
    by_cases h : a = k
    · rw [if_pos h, if_pos h]; simp only [List.map_cons, List.sum_cons, Option.getD_some]; omega
    · rw [if_neg h, if_neg h]; simp only [List.map_cons, List.sum_cons]; omega
theorem sizeH_cont {m : Hs} (h : (m.map (·.1)).Nodup) : sizeH (cont m) = sizeM m := by
  unfold sizeH sizeM cont
  rw [List.map_map]
  have h1 : (sortedK m).Perm (m.map (·.1)) := by
    refine (List.perm_ext_iff_of_nodup ((rises_sortedK h).nodup) h).2 fun k => mem_sortedK m k
  rw [show (m.map fun p => p.2.length) = (m.map (·.1)).map (fun k => ((mget m k).getD []).length) from ?_]
  · exact (h1.map _).sum_nat
  · rw [List.map_map]
    refine List.map_congr_left fun p hp => ?_
    obtain ⟨k, l⟩ := p
    simp [mget_of_mem h hp]
structure Fill (L : Hs) (ins : List Part) : Prop where
  ok : HsOk L
  mem : ∀ k x, x ∈ hget L k ↔ ∃ p ∈ ins, p.w.key = k ∧ p.ver = x
  dist : ins.Pairwise fun p q => ¬ (p.w.key = q.w.key ∧ p.num = q.num)
  okp : ∀ p ∈ ins, okP p = true
  size : sizeH L = ins.length
theorem Fill.nil : Fill [] [] := ⟨HsOk.nil, fun k x => by simp [hget, mget], List.Pairwise.nil, by simp, rfl⟩
theorem okP_iff {p : Part} : okP p = true ↔ keyB p.w.key = true ∧ verB p.ver = true := by simp [okP]
theorem putV_ne (l : List Ver) (x : Ver) : putV l x ≠ [] := fun h => by have := len_putV l x; rw [h] at this; simp at this
theorem instH_ok {L : Hs} (h : HsOk L) (p : Part) : HsOk (instH L p) := by
  unfold instH
  split
  · rename_i hn
    unfold newP at hn
    simp only [Bool.and_eq_true, okP_iff, Bool.not_eq_true'] at hn
    exact hput_ok h hn.1.1 (chkB_putV (hget_chk h _) hn.1.2 hn.2) (putV_ne _ _)
  · exact h
theorem Fill.add {L : Hs} {ins : List Part} (h : Fill L ins) {p : Part} (hn : newP L p = true) : Fill (instH L p) (ins ++ [p]) := by
  have hn' := hn
  unfold newP at hn'
  simp only [Bool.and_eq_true, Bool.not_eq_true'] at hn'
  have hi : instH L p = hput L p.w.key (putV (hget L p.w.key) p.ver) := by unfold instH; rw [if_pos hn]
  refine ⟨instH_ok h.ok p, fun k x => ?_, ?_, ?_, ?_⟩
  · rw [hi, hget_hput]
    by_cases hk : p.w.key = k
    · subst hk
      rw [if_pos rfl, mem_putV, h.mem]
      simp only [List.mem_append, List.mem_singleton]
      constructor
      · rintro (rfl | ⟨q, hq, h1, h2⟩)
        · exact ⟨p, .inr rfl, rfl, rfl⟩
        · exact ⟨q, .inl hq, h1, h2⟩
      · rintro ⟨q, hq | rfl, h1, h2⟩
        · exact .inr ⟨q, hq, h1, h2⟩
        · exact .inl h2.symm
    · rw [if_neg hk, h.mem]
      simp only [List.mem_append, List.mem_singleton]
      constructor
      · rintro ⟨q, hq, h1⟩; exact ⟨q, .inl hq, h1⟩
      · rintro ⟨q, hq | rfl, h1, h2⟩
        · exact ⟨q, hq, h1, h2⟩
        · exact absurd h1 hk
  · refine List.pairwise_append.2 ⟨h.dist, List.pairwise_singleton _ _, fun q hq r hr => ?_⟩
    simp only [List.mem_singleton] at hr; subst hr
    rintro ⟨h1, h2⟩
    have : q.ver ∈ hget L r.w.key := (h.mem _ _).2 ⟨q, hq, h1, rfl⟩
    have h3 : hasV (hget L r.w.key) r.num = true := hasV_iff.2 ⟨_, this, h2⟩
    rw [hn'.2] at h3; cases h3
  · intro q hq
    rcases List.mem_append.1 hq with hq | hq
    · exact h.okp q hq
    · simp only [List.mem_singleton] at hq; subst hq; exact hn'.1
  · rw [hi, hput, sizeH_cont (nodup_mput _ _ h.ok.nodup)]
    have h1 := sizeM_mput L p.w.key (putV (hget L p.w.key) p.ver)
    rw [len_putV] at h1
    have h2 : sizeM L = ins.length := h.size
    rw [List.length_append, List.length_singleton]; omega
theorem Fill.fill {L : Hs} {ins : List Part} (h : Fill L ins) (ps : List Part) : Fill (fillH ps L ins).1 (fillH ps L ins).2 := by
  induction ps generalizing L ins with
  | nil => exact h
  | cons p r ih =>
    simp only [fillH]
    split
    · rename_i hn; exact ih (h.add hn)
    · exact ih h
theorem fillH_len (ps : List Part) (L : Hs) (ins : List Part) : (fillH ps L ins).2.length ≤ ins.length + ps.length := by
  induction ps generalizing L ins with
  | nil => simp [fillH]
  | cons p r ih =>
    simp only [fillH]
    split
    · have := ih (instH L p) (ins ++ [p]); simp at this ⊢; omega
    · have := ih L ins; simp at this ⊢; omega
theorem fillH_sub (ps : List Part) (L : Hs) (ins : List Part) : ∀ q ∈ (fillH ps L ins).2, q ∈ ins ∨ q ∈ ps := by
  induction ps generalizing L ins with
  | nil => intro q hq; exact .inl hq
  | cons p r ih =>
    intro q hq
    simp only [fillH] at hq
    split at hq
    · rcases ih _ _ q hq with h | h
      · rcases List.mem_append.1 h with h | h
        · exact .inl h
        · simp at h; exact .inr (by simp [h])
      · exact .inr (by simp [h])
    · exact (ih _ _ q hq).imp id (fun h => by simp [h])
/-- What is apart can all be installed, in any order. -/
theorem fill_all {L : Hs} {ins : List Part} (h : Fill L ins) (ps : List Part) (hp : (ins ++ ps).Pairwise fun p q => ¬ (p.w.key = q.w.key ∧ p.num = q.num)) (hok : ∀ p ∈ ps, okP p = true) : (fillH ps L ins).2 = ins ++ ps := by
  induction ps generalizing L ins with
  | nil => simp [fillH]
  | cons p r ih =>
    have hn : newP L p = true := by
      unfold newP
      rw [hok p (by simp), Bool.true_and, Bool.not_eq_true', Bool.eq_false_iff]
      intro hc
      obtain ⟨y, hy, e⟩ := hasV_iff.1 hc
      obtain ⟨q, hq, h1, rfl⟩ := (h.mem _ _).1 hy
      exact (List.pairwise_append.1 hp).2.2 q hq p (by simp) ⟨h1, e⟩
    simp only [fillH, if_pos hn]
    rw [ih (h.add hn) (by simpa using hp) (fun q hq => hok q (by simp [hq]))]
    simp
theorem Fill.ext {L L' : Hs} {ins ins' : List Part} (h : Fill L ins) (h' : Fill L' ins') (hm : ∀ p, p ∈ ins ↔ p ∈ ins') : L = L' := by
  refine hs_ext h.ok h'.ok fun k => ?_
  refine asc_ext (chkB_iff.1 (hget_chk h.ok k)).2 (chkB_iff.1 (hget_chk h'.ok k)).2 fun x => ?_
  rw [h.mem, h'.mem]
  simp only [hm]
/-- One order more. -/
def turnI (n t i : Nat) : Nat := (n - 1 - i + t) % n
def noPart : Part := ⟨0, ⟨ByteArray.empty, ByteArray.empty, false⟩⟩
def turnL (l : List Part) (t : Nat) : List Part := (List.range l.length).map fun i => l.getD (turnI l.length t i) noPart
theorem turnI_turn {n t i : Nat} (h : i < n) : turnI n t (turnI n t i) = i := by
  unfold turnI
  have h1 := Nat.div_add_mod (n - 1 - i + t) n
  have h2 := Nat.mod_lt (n - 1 - i + t) (show 0 < n by omega)
  have h3 : n - 1 - (n - 1 - i + t) % n + t = i + n * ((n - 1 - i + t) / n) := by omega
  rw [h3, Nat.add_mul_mod_self_left, Nat.mod_eq_of_lt h]
theorem turnI_lt {n t i : Nat} (h : i < n) : turnI n t i < n := Nat.mod_lt _ (by omega)
theorem turnL_perm (l : List Part) (t : Nat) : (∀ p, p ∈ turnL l t ↔ p ∈ l) ∧ (turnL l t).length = l.length ∧ ∀ i (h : i < l.length), (turnL l t)[i]? = l[turnI l.length t i]? := by
  have hg : ∀ i (h : i < l.length), (turnL l t)[i]? = l[turnI l.length t i]? := fun i h => by
    unfold turnL
    rw [List.getElem?_map, List.getElem?_range h]
    have := turnI_lt (t := t) h
    simp [List.getD, List.getElem?_eq_getElem this]
  have hl : (turnL l t).length = l.length := by simp [turnL]
  refine ⟨fun p => ⟨fun hp => ?_, fun hp => ?_⟩, hl, hg⟩
  · obtain ⟨i, hi⟩ := List.getElem?_of_mem hp
    have hil := (List.getElem?_eq_some_iff.1 hi).1
    rw [hg i (by omega)] at hi
    exact List.mem_of_getElem? hi
  · obtain ⟨j, hj⟩ := List.getElem?_of_mem hp
    have hjl := (List.getElem?_eq_some_iff.1 hj).1
    refine List.mem_of_getElem? (i := turnI l.length t j) ?_
    rw [hg _ (turnI_lt hjl), turnI_turn hjl]; exact hj
theorem turnL_dist {l : List Part} {R : Part → Part → Prop} (hs : ∀ a b, R a b → R b a) (h : l.Pairwise R) (t : Nat) : (turnL l t).Pairwise R := by
  obtain ⟨-, hl, hg⟩ := turnL_perm l t
  rw [List.pairwise_iff_getElem]
  intro i j hi hj hij
  rw [hl] at hi hj
  have h1 := hg i hi
  have h2 := hg j hj
  rw [List.getElem?_eq_getElem (by omega), List.getElem?_eq_getElem (turnI_lt hi)] at h1
  rw [List.getElem?_eq_getElem (by omega), List.getElem?_eq_getElem (turnI_lt hj)] at h2
  injection h1 with h1; injection h2 with h2
  rw [h1, h2]
  have hne : turnI l.length t i ≠ turnI l.length t j := fun e => by
    have := congrArg (turnI l.length t) e
    rw [turnI_turn hi, turnI_turn hj] at this; omega
  have hp := List.pairwise_iff_getElem.1 h
  rcases Nat.lt_or_gt_of_ne hne with hlt | hlt
  · exact hp _ _ (turnI_lt hi) (turnI_lt hj) hlt
  · exact hs _ _ (hp _ _ (turnI_lt hj) (turnI_lt hi) hlt)
/-- SHARDORDERS, in plain words. -/
theorem orders_law (ps : List Part) (t : Nat) : fillH (turnL (fillH ps [] []).2 t) [] [] = ((fillH ps [] []).1, turnL (fillH ps [] []).2 t) := by
  have h1 := Fill.nil.fill ps
  obtain ⟨hm, hl, -⟩ := turnL_perm (fillH ps [] []).2 t
  have h2 := Fill.nil.fill (turnL (fillH ps [] []).2 t)
  have h3 : (fillH (turnL (fillH ps [] []).2 t) [] []).2 = turnL (fillH ps [] []).2 t := by
    have := fill_all Fill.nil (turnL (fillH ps [] []).2 t) (by simpa using turnL_dist (fun a b h h' => h ⟨h'.1.symm, h'.2.symm⟩) h1.dist t) (fun p hp => h1.okp p ((hm p).1 hp))
    simpa using this
  rw [h3] at h2
  exact Prod.ext (h2.ext h1 hm) h3
end Go.Proofs.YtafghiekpgjniaaGreatDoor

/- ShardReads, ShardDumps, ShardStretches, in plain words. Plain theorems. -/

namespace Go.Proofs.YtafghiekpgjniaaGreatDoor
open Go.RowKit
set_option linter.unusedVariables false
set_option linter.unusedSimpArgs false

theorem ltB_em (k : ByteArray) : ltB k ByteArray.empty = false := by
  cases h : ltB k ByteArray.empty
  · rfl
  · exfalso; revert h; unfold ltB; simp [kL]
theorem inS_all (k : ByteArray) : inS ByteArray.empty ByteArray.empty k = true := by
  unfold inS; rw [ltB_em]; simp
theorem fm_congr {α β : Type} {f g : α → Option β} : ∀ {l : List α}, (∀ x ∈ l, f x = g x) → l.filterMap f = l.filterMap g
  | [], _ => rfl
  | x :: r, h => by rw [List.filterMap_cons, List.filterMap_cons, h x (by simp), fm_congr (l := r) fun y hy => h y (by simp [hy])]
theorem scanH_part (L : Hs) (key end_ : ByteArray) (m : Int) : scanH L key end_ m = (scanH L ByteArray.empty ByteArray.empty m).filter fun e => inS key end_ e.1 := by
  unfold scanH
  rw [List.filter_filterMap]
  refine fm_congr fun p _ => ?_
  rw [inS_all, Bool.and_true]
  cases h : (getV p.2 m).2 <;> cases h2 : inS key end_ p.1 <;> simp [Option.filter, h2]
theorem scanH_two {L : Hs} (h : HsOk L) {key : ByteArray} (hk : 0 < key.size) (m : Int) : scanH L ByteArray.empty key m ++ scanH L key ByteArray.empty m = scanH L ByteArray.empty ByteArray.empty m := by
  have i1 : ∀ k, inS ByteArray.empty key k = ltB k key := fun k => by
    have hk0 : ¬ key.size = 0 := by omega
    unfold inS; rw [ltB_em]; simp [hk0]
  have i2 : ∀ k, inS key ByteArray.empty k = !ltB k key := fun k => by unfold inS; simp
  refine ents_ext ?_ (scanH_rises h _ _ _) fun k v => ?_
  · rw [List.map_append]
    refine List.pairwise_append.2 ⟨scanH_rises h _ _ _, scanH_rises h _ _ _, fun a ha b hb => ?_⟩
    obtain ⟨⟨k1, v1⟩, h1, rfl⟩ := List.mem_map.1 ha
    obtain ⟨⟨k2, v2⟩, h2, rfl⟩ := List.mem_map.1 hb
    have e1 := ((mem_scanH h).1 h1).2
    have e2 := ((mem_scanH h).1 h2).2
    rw [i1] at e1
    rw [i2] at e2
    simp only [Bool.not_eq_true'] at e2
    simp only
    rcases ltB_or k1 k2 with h3 | h3 | h3
    · exact h3
    · subst h3; rw [e1] at e2; cases e2
    · rw [ltB_trans h3 e1] at e2; cases e2
  · rw [List.mem_append, mem_scanH h, mem_scanH h, mem_scanH h, i1, i2, inS_all]
    cases ltB k key <;> simp
/-- The write of the greatest number of at most a mark of a key. -/
def newI (best : Option Part) (k : ByteArray) (m : Int) (p : Part) : Option Part := if p.w.key = k ∧ p.num ≤ m ∧ ((best.map Part.num).getD 0) < p.num then some p else best
def newL (l : List Part) (k : ByteArray) (m : Int) : Option Part := l.foldl (fun b p => newI b k m p) none
theorem newL_snoc (l : List Part) (k : ByteArray) (m : Int) (p : Part) : newL (l ++ [p]) k m = newI (newL l k m) k m p := by simp [newL]
theorem newL_spec (l : List Part) (k : ByteArray) (m : Int) (hp : ∀ p ∈ l, 1 ≤ p.num) :
    (∀ b, newL l k m = some b → b ∈ l ∧ b.w.key = k ∧ b.num ≤ m ∧ ∀ q ∈ l, q.w.key = k → q.num ≤ m → q.num ≤ b.num) ∧ (newL l k m = none → ∀ q ∈ l, q.w.key = k → m < q.num) := by
  obtain ⟨n, hn⟩ : ∃ n, n = l.length := ⟨_, rfl⟩
  induction n generalizing l with
  | zero =>
    obtain rfl : l = [] := List.eq_nil_of_length_eq_zero hn.symm
    simp [newL]
  | succ n ih =>
    obtain ⟨l, p, rfl⟩ : ∃ l' p, l = l' ++ [p] := ⟨l.dropLast, l.getLast (by intro e; rw [e] at hn; simp at hn), (List.dropLast_concat_getLast _).symm⟩
    obtain ⟨i1, i2⟩ := ih l (fun q hq => hp q (by simp [hq])) (by simp at hn; omega)
    clear hn ih
    have hp1 := hp p (by simp)
    rw [newL_snoc]
    unfold newI
    by_cases hc : p.w.key = k ∧ p.num ≤ m ∧ ((newL l k m).map Part.num).getD 0 < p.num
    · rw [if_pos hc]
      refine ⟨fun b hb => ?_, fun h => by cases h⟩
      injection hb with hb; subst hb
      refine ⟨by simp, hc.1, hc.2.1, fun q hq hqk hqm => ?_⟩
      rcases List.mem_append.1 hq with hq | hq
      · cases hn : newL l k m with
        | none => have := i2 hn q hq hqk; omega
        | some b =>
          have h1 := (i1 b hn).2.2.2 q hq hqk hqm
          have h2 := hc.2.2
          rw [hn] at h2; simp at h2; omega
      · simp at hq; subst hq; omega
    · rw [if_neg hc]
      refine ⟨fun b hb => ?_, fun hn q hq hqk => ?_⟩
      · obtain ⟨h1, h2, h3, h4⟩ := i1 b hb
        refine ⟨by simp [h1], h2, h3, fun q hq hqk hqm => ?_⟩
        rcases List.mem_append.1 hq with hq | hq
        · exact h4 q hq hqk hqm
        · simp at hq; subst hq
          rw [hb] at hc; simp at hc
          have := hc hqk hqm; omega
      · rcases List.mem_append.1 hq with hq | hq
        · exact i2 hn q hq hqk
        · simp at hq; subst hq
          rw [hn] at hc; simp at hc
          refine Classical.byContradiction fun h => ?_
          have := hc hqk (by omega); omega
theorem reads_new {L : Hs} {ins : List Part} (h : Fill L ins) (k : ByteArray) (m : Int) :
    getV (hget L k) m = match newL ins k m with | some b => (b.w.val, !b.w.drop) | none => (ByteArray.empty, false) := by
  have hp : ∀ p ∈ ins, 1 ≤ p.num := fun p hp => (verB_num (okP_iff.1 (h.okp p hp)).2).1
  obtain ⟨i1, i2⟩ := newL_spec ins k m hp
  have hc := (chkB_iff.1 (hget_chk h.ok k)).2
  unfold getV
  cases hn : newL ins k m with
  | none =>
    rw [atV_none.2 fun y hy => ?_]
    obtain ⟨q, hq, hqk, rfl⟩ := (h.mem _ _).1 hy
    exact i2 hn q hq hqk
  | some b =>
    obtain ⟨h1, h2, h3, h4⟩ := i1 b hn
    have : atV (hget L k) m = some b.ver := (atV_some hc).2 ⟨(h.mem _ _).2 ⟨b, h1, h2, rfl⟩, h3, fun y hy hym => by
      obtain ⟨q, hq, hqk, rfl⟩ := (h.mem _ _).1 hy
      exact h4 q hq hqk hym⟩
    rw [this]; rfl
theorem reads_found {L : Hs} (h : HsOk L) (k : ByteArray) (m : Int) : (getV (hget L k) m).2 = (scanH L ByteArray.empty ByteArray.empty m).any fun e => decide (e.1 = k) := by
  rw [Bool.eq_iff_iff, List.any_eq_true]
  constructor
  · intro hg
    exact ⟨(k, (getV (hget L k) m).1), (mem_scanH h).2 ⟨Prod.ext rfl hg, inS_all k⟩, by simp⟩
  · rintro ⟨⟨k', v⟩, he, hk⟩
    simp only [decide_eq_true_eq] at hk; subst hk
    rw [((mem_scanH h).1 he).1]
theorem reads_after {L : Hs} (h : HsOk L) {least m : Int} (hm : least ≤ m) (key end_ : ByteArray) : scanH (collH L least) key end_ m = scanH L key end_ m :=
  scanH_ext (collH_ok h least) h (fun k => by
    rw [hget_collH]; unfold getV
    rw [atV_collV (chkB_iff.1 (hget_chk h k)).2 hm]) key end_
/-- A dump. -/
def dumpH (L : Hs) (mark : Int) (beyond : List Int) : Hs := pickH (fun l => dumpV l mark beyond) L
theorem dumpH_ok {L : Hs} (h : HsOk L) (mark : Int) (beyond : List Int) : HsOk (dumpH L mark beyond) := pickH_ok h fun _ => dumpV_sub
theorem hget_dumpH {L : Hs} (h : HsOk L) (mark : Int) (beyond : List Int) (k : ByteArray) : hget (dumpH L mark beyond) k = dumpV (hget L k) mark beyond := hget_pickH h (fun _ => dumpV_sub) k
theorem sizeH_dumpH (L : Hs) (mark : Int) (beyond : List Int) : sizeH (dumpH L mark beyond) ≤ sizeH L := by
  unfold sizeH dumpH pickH
  induction L with
  | nil => simp
  | cons p r ih =>
    have h1 := (dumpV_sub (l := p.2) (mark := mark) (beyond := beyond)).length_le
    simp only [List.map_cons, List.filter_cons]
    split <;> simp only [List.map_cons, List.sum_cons] at * <;> omega
def beyL (ins : List Part) (mark : Int) : List Int := (ins.filter fun p => decide (mark < p.num)).map Part.num
theorem dumps_get {L : Hs} {ins : List Part} (h : Fill L ins) {mark m : Int} (hm : mark ≤ m) (k : ByteArray) : getV (hget (dumpH L mark (beyL ins mark)) k) m = getV (hget L k) m := by
  rw [hget_dumpH h.ok]
  refine getV_dumpV (hget_chk h.ok k) hm fun x hx hlt => ?_
  obtain ⟨q, hq, hqk, rfl⟩ := (h.mem _ _).1 hx
  exact List.mem_map.2 ⟨q, List.mem_filter.2 ⟨hq, by simpa [Part.ver] using hlt⟩, rfl⟩
theorem dumps_scan {L : Hs} {ins : List Part} (h : Fill L ins) {mark m : Int} (hm : mark ≤ m) (key end_ : ByteArray) : scanH (dumpH L mark (beyL ins mark)) key end_ m = scanH L key end_ m :=
  scanH_ext (dumpH_ok h.ok _ _) h.ok (fun k => dumps_get h hm k) key end_
theorem dumps_in {L : Hs} {ins : List Part} (h : Fill L ins) {mark : Int} {beyond : List Int} {k : ByteArray} {l : List Ver} (hp : (k, l) ∈ dumpH L mark beyond) {x : Ver} (hx : x ∈ l) : ∃ q ∈ ins, q.num = x.num ∧ q.w.key = k ∧ q.w.val = x.val ∧ q.w.drop = x.drop := by
  have h1 := hget_mem (dumpH_ok h.ok mark beyond) hp
  rw [hget_dumpH h.ok] at h1
  have h2 : x ∈ hget L k := dumpV_sub.subset (by rw [h1]; exact hx)
  obtain ⟨q, hq, hqk, rfl⟩ := (h.mem _ _).1 h2
  exact ⟨q, hq, rfl, hqk, rfl, rfl⟩
end Go.Proofs.YtafghiekpgjniaaGreatDoor

/- towpathref09 in plain words: a key's place. Plain theorems. -/

namespace Go.Proofs.YtafghiekpgjniaaGreatDoor
open Go.RowKit
set_option linter.unusedVariables false
set_option linter.unusedSimpArgs false

/-- How many keys stand ahead of a key. -/
def plN (L : Hs) (k : ByteArray) : Nat := (L.takeWhile fun p => ltB p.1 k).length
theorem take_tw {α : Type} (p : α → Bool) : ∀ l : List α, l.take (l.takeWhile p).length = l.takeWhile p ∧ l.drop (l.takeWhile p).length = l.dropWhile p
  | [] => by simp
  | x :: r => by
    have ih := take_tw p r
    by_cases h : p x = true
    · rw [List.takeWhile_cons_of_pos h, List.dropWhile_cons_of_pos h]; simp [ih.1, ih.2]
    · rw [List.takeWhile_cons_of_neg h, List.dropWhile_cons_of_neg h]; simp
section
variable {L : Hs} {k : ByteArray} {j : Nat} {q : ByteArray × List Ver}
theorem plN_le (L : Hs) (k : ByteArray) : plN L k ≤ L.length := by
  unfold plN
  have := (List.takeWhile_sublist (l := L) (fun p => ltB p.1 k)).length_le
  exact this
theorem plN_at (hq : L[j]? = some q) (h : ltB q.1 k = false) (ha : ∀ p ∈ L.take j, ltB p.1 k = true) : plN L k = j := by
  unfold plN
  have hj := (List.getElem?_eq_some_iff.1 hq)
  obtain ⟨hj1, hj2⟩ := hj
  have hs : L = L.take j ++ q :: L.drop (j + 1) := by
    conv => lhs; rw [← List.take_append_drop j L]
    rw [List.drop_eq_getElem_cons hj1, hj2]
  rw [hs, List.takeWhile_append_of_pos (by simpa using ha), List.takeWhile_cons_of_neg (by simp [h])]
  simp; omega
theorem plN_end (ha : ∀ p ∈ L, ltB p.1 k = true) : plN L k = L.length := by
  unfold plN
  have := List.takeWhile_append_of_pos (p := fun p : ByteArray × List Ver => ltB p.1 k) (l₁ := L) (l₂ := []) (by simpa using ha)
  simp only [List.append_nil, List.takeWhile_nil] at this
  rw [this]
theorem plN_take (L : Hs) (k : ByteArray) : ∀ p ∈ L.take (plN L k), ltB p.1 k = true := by
  intro p hp
  have h1 : L.take (plN L k) = L.takeWhile fun p => ltB p.1 k := (take_tw _ L).1
  rw [h1] at hp
  have := List.all_takeWhile (p := fun p : ByteArray × List Ver => ltB p.1 k) (l := L)
  exact List.all_eq_true.1 this p hp
theorem plN_drop (L : Hs) (k : ByteArray) : L.drop (plN L k) = L.dropWhile fun p => ltB p.1 k := (take_tw _ L).2
/-- Is the key there? -/
def plB (L : Hs) (k : ByteArray) : Bool := match L[plN L k]? with | some p => decide (p.1 = k) | none => false
theorem plN_head (h : L[plN L k]? = some q) : ltB q.1 k = false := by
  have hd := plN_drop L k
  have h2 : (L.dropWhile fun p => ltB p.1 k).head? = some q := by rw [← hd, List.head?_drop]; exact h
  have := List.head?_dropWhile_not (p := fun p : ByteArray × List Ver => ltB p.1 k) (l := L)
  rw [h2] at this
  simpa using this
theorem plB_at (ok : HsOk L) (h : plB L k = true) : L[plN L k]? = some (k, hget L k) := by
  unfold plB at h
  cases e : L[plN L k]? with
  | none => rw [e] at h; cases h
  | some p =>
    rw [e] at h
    obtain ⟨a, l⟩ := p
    simp at h
    subst h
    rw [hget_mem ok (List.mem_of_getElem? e)]
theorem rise_lt (ok : HsOk L) {i j : Nat} {p q : ByteArray × List Ver} (hp : L[i]? = some p) (hq : L[j]? = some q) (h : i < j) : ltB p.1 q.1 = true := by
  obtain ⟨h1, rfl⟩ := List.getElem?_eq_some_iff.1 hp
  obtain ⟨h2, rfl⟩ := List.getElem?_eq_some_iff.1 hq
  exact List.pairwise_iff_getElem.1 (List.pairwise_map.1 ok.rises) i j h1 h2 h
theorem plB_no (ok : HsOk L) (h : plB L k = false) : k ∉ L.map (·.1) := by
  intro hm
  obtain ⟨p, hp, rfl⟩ := List.mem_map.1 hm
  obtain ⟨i, hi⟩ := List.getElem?_of_mem hp
  have h1 : plN L p.1 = i := plN_at hi (ltB_irr _) (fun q hq => by
    obtain ⟨j, hj⟩ := List.getElem?_of_mem hq
    have hj2 : j < i := by have := (List.getElem?_eq_some_iff.1 hj).1; simp at this; omega
    rw [List.getElem?_take_of_lt hj2] at hj
    exact rise_lt ok hj hi hj2)
  unfold plB at h
  rw [h1, hi] at h
  simp at h
theorem plB_nil (ok : HsOk L) (h : plB L k = false) : hget L k = [] := by
  refine Classical.byContradiction fun hn => plB_no ok h ((hget_ne ok).1 hn)
/-- A key that is there, bound anew. -/
theorem hput_pl (ok : HsOk L) (h : plB L k = true) {l : List Ver} (hl : chkB l = true) (hn : l ≠ []) : hput L k l = L.set (plN L k) (k, l) := by
  have hat := plB_at ok h
  obtain ⟨hlt, hel⟩ := List.getElem?_eq_some_iff.1 hat
  have hmem : (k, hget L k) ∈ L := List.mem_of_getElem? hat
  have hkeys : (L.set (plN L k) (k, l)).map (·.1) = L.map (·.1) := by
    apply List.ext_getElem?
    intro i
    rw [List.getElem?_map, List.getElem?_map, List.getElem?_set]
    by_cases hi : plN L k = i
    · subst hi; rw [if_pos rfl, if_pos hlt, hat]; rfl
    · rw [if_neg hi]
  have hm : ∀ p ∈ L.set (plN L k) (k, l), p = (k, l) ∨ p ∈ L := fun p hp => (List.mem_or_eq_of_mem_set hp).symm
  have ok' : HsOk (L.set (plN L k) (k, l)) := ⟨by rw [hkeys]; exact ok.rises, fun p hp => (hm p hp).elim (fun e => e ▸ hn) (ok.some_ p), fun p hp => (hm p hp).elim (fun e => e ▸ hl) (ok.chk p), fun p hp => (hm p hp).elim (fun e => by rw [e]; exact ok.key (k, hget L k) hmem) (ok.key p)⟩
  refine hs_ext (hput_ok ok (ok.key _ hmem) hl hn) ok' fun j => ?_
  rw [hget_hput]
  by_cases hj : k = j
  · subst hj
    rw [if_pos rfl, hget_mem ok' (List.mem_of_getElem? (i := plN L k) (by rw [List.getElem?_set_self hlt]))]
  · rw [if_neg hj]
    by_cases he : hget L j = []
    · rw [he]
      refine (Classical.byContradiction fun hc => ?_ : hget (L.set (plN L k) (k, l)) j = []).symm
      have := (hget_ne ok').1 hc
      rw [hkeys] at this
      exact (hget_ne ok).2 this he
    · obtain ⟨i, hi⟩ := List.getElem?_of_mem (hget_of_ne he)
      have hne : plN L k ≠ i := fun e => by
        rw [e, hi] at hat
        injection hat with hat; injection hat with hat; exact hj hat.symm
      exact (hget_mem ok' (List.mem_of_getElem? (i := i) (by rw [List.getElem?_set_ne hne]; exact hi))).symm
/-- A key that is not there yet. -/
theorem hput_pln (ok : HsOk L) (h : plB L k = false) {l : List Ver} (hk : keyB k = true) (hl : chkB l = true) (hn : l ≠ []) : hput L k l = L.take (plN L k) ++ (k, l) :: L.drop (plN L k) := by
  have hno := plB_no ok h
  have hm : ∀ p, p ∈ L.take (plN L k) ++ (k, l) :: L.drop (plN L k) ↔ p = (k, l) ∨ p ∈ L := fun p => by
    have : p ∈ L ↔ p ∈ L.take (plN L k) ∨ p ∈ L.drop (plN L k) := by rw [← List.mem_append, List.take_append_drop]
    rw [this]; simp only [List.mem_append, List.mem_cons]; grind
  have hr : Rises ((L.take (plN L k) ++ (k, l) :: L.drop (plN L k)).map (·.1)) := by
    have hr0 := ok.rises
    conv at hr0 => rw [← List.take_append_drop (plN L k) L]
    rw [List.map_append] at hr0 ⊢
    obtain ⟨r1, r2, r3⟩ := List.pairwise_append.1 hr0
    have hgt : ∀ b ∈ (L.drop (plN L k)).map (·.1), ltB k b = true := fun b hb => by
      obtain ⟨p, hp, rfl⟩ := List.mem_map.1 hb
      obtain ⟨i, hi⟩ := List.getElem?_of_mem hp
      rw [List.getElem?_drop] at hi
      have hne : k ≠ p.1 := fun e => hno (e ▸ List.mem_map.2 ⟨p, List.mem_of_getElem? hi, rfl⟩)
      have hlt : plN L k < L.length := by have := (List.getElem?_eq_some_iff.1 hi).1; omega
      have hh := plN_head (L := L) (k := k) (List.getElem?_eq_getElem hlt)
      have hke : k ≠ (L[plN L k]).1 := fun e => hno (e ▸ List.mem_map.2 ⟨_, List.getElem_mem hlt, rfl⟩)
      have h1 : ltB k (L[plN L k]).1 = true := by
        rcases ltB_or k (L[plN L k]).1 with h | h | h
        · exact h
        · exact absurd h hke
        · rw [hh] at h; cases h
      rcases Nat.eq_zero_or_pos i with h0 | h0
      · subst h0
        rw [Nat.add_zero, List.getElem?_eq_getElem hlt] at hi
        injection hi with hi
        rw [← hi]; exact h1
      · exact ltB_trans h1 (rise_lt ok (List.getElem?_eq_getElem hlt) hi (by omega))
    refine List.pairwise_append.2 ⟨r1, ?_, fun a ha b hb => ?_⟩
    · exact List.pairwise_cons.2 ⟨hgt, r2⟩
    · obtain ⟨p, hp, rfl⟩ := List.mem_map.1 ha
      have h1 := plN_take L k p hp
      rcases List.mem_cons.1 hb with rfl | hb
      · exact h1
      · exact ltB_trans h1 (hgt b hb)
  have ok' : HsOk (L.take (plN L k) ++ (k, l) :: L.drop (plN L k)) := ⟨hr, fun p hp => ((hm p).1 hp).elim (fun e => e ▸ hn) (ok.some_ p), fun p hp => ((hm p).1 hp).elim (fun e => e ▸ hl) (ok.chk p), fun p hp => ((hm p).1 hp).elim (fun e => e ▸ hk) (ok.key p)⟩
  refine hs_ext (hput_ok ok hk hl hn) ok' fun j => ?_
  rw [hget_hput]
  by_cases hj : k = j
  · subst hj
    rw [if_pos rfl, hget_mem ok' ((hm _).2 (.inl rfl))]
  · rw [if_neg hj]
    by_cases he : hget L j = []
    · rw [he]
      refine (Classical.byContradiction fun hc => ?_ : hget _ j = []).symm
      obtain ⟨p, hp, rfl⟩ := List.mem_map.1 ((hget_ne ok').1 hc)
      rcases (hm p).1 hp with rfl | hp
      · exact hj rfl
      · exact (hget_ne ok).2 (List.mem_map.2 ⟨p, hp, rfl⟩) he
    · exact (hget_mem ok' ((hm _).2 (.inr (hget_of_ne he)))).symm
end
end Go.Proofs.YtafghiekpgjniaaGreatDoor


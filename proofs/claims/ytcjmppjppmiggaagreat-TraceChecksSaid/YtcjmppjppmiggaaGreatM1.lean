/- Lemmas and contracts of functions that statements of this seat stand on, many texts in one; each holds under the premises typed in its head. -/
import Derived.WalkKit
import Derived.WalkSpells
import Derived.WalkLawsBesides
import Derived.Lib.Hide
import Derived.Laws.OwnMore
import Derived.Deep.AppendLies
import Derived.Deep.Draws
import Derived.Deep.QuietTactic
import Derived.BigQuiet
import Derived.Deep.LoopGhost
import Derived.Maps.Own
import Derived.Maps.OwnOps
import Derived.Maps.OwnSet
import Derived.Sort.KeysCollected
import Derived.Lib.SlKeysI
import Derived.StringKeys
/- Words of memory that every text of this seat uses: slices that read as lists, small lemmas on worlds. Plain theorems over any program. -/
namespace Go.Proofs.YtcjmppjppmiggaaGreat
open Go.RowKit
set_option linter.unusedVariables false
set_option linter.unusedSimpArgs false

theorem ret_int {k : IntKind} {a b : Int} (h : a = b) : Ending.returned (.int k a) = .returned (.int k b) := by rw [h]
theorem ret_bool {a b : Bool} (h : a = b) : Ending.returned (.bool a) = .returned (.bool b) := by rw [h]

theorem toList_nil (s : ByteArray) : s.toList = [] ↔ s.size = 0 := by
  rw [ByteArray.toList_eq, ByteArray.size, ← Array.length_toList]
  exact List.length_eq_zero_iff.symm

def RowAt {α : Type} (cells : α → List Value) (size : Nat) (w : World) (B : Nat) (A : Option Addr) (n : Nat) (xs : List α) : Prop :=
  xs.length = n ∧ (0 < n → ∃ b off, A = some ⟨b, off, none⟩ ∧ b < B ∧ ∀ i x, xs[i]? = some x → ∀ j u, (cells x)[j]? = some u → w.cell? ⟨b, off + i * size + j, none⟩ = some u)

section
variable {α : Type} {cells : α → List Value} {size : Nat} {w w' : World} {B B' n : Nat} {A : Option Addr} {xs : List α}
theorem RowAt.nil_ : RowAt cells size w B none 0 [] := ⟨rfl, fun h => absurd h (by omega)⟩
theorem RowAt.len (h : RowAt cells size w B A n xs) : xs.length = n := h.1
theorem RowAt.keep (h : RowAt cells size w B A n xs) (hk : ∀ p : Addr, p.block < B → w'.cell? p = w.cell? p) : RowAt cells size w' B A n xs :=
  ⟨h.1, fun hn => by
    obtain ⟨b, off, e, hb, hc⟩ := h.2 hn
    exact ⟨b, off, e, hb, fun i x hx j u hu => (hk _ hb).trans (hc i x hx j u hu)⟩⟩
theorem RowAt.more (h : RowAt cells size w B A n xs) (hB : B ≤ B') : RowAt cells size w B' A n xs :=
  ⟨h.1, fun hn => by
    obtain ⟨b, off, e, hb, hc⟩ := h.2 hn
    exact ⟨b, off, e, by omega, hc⟩⟩
theorem RowAt.below (h : RowAt cells size w B A n xs) (hb : Below B w w') : RowAt cells size w' B A n xs := h.keep fun _ hp => hb.cell hp
theorem RowAt.at_ {i : Nat} (h : RowAt cells size w B A n xs) (hi : i < n) : ∃ b off x, A = some ⟨b, off, none⟩ ∧ b < B ∧ xs[i]? = some x ∧ ∀ j u, (cells x)[j]? = some u → w.cell? ⟨b, off + i * size + j, none⟩ = some u := by
  obtain ⟨b, off, e, hb, hc⟩ := h.2 (by omega)
  have hl : i < xs.length := by rw [h.1]; exact hi
  exact ⟨b, off, xs[i], e, hb, List.getElem?_eq_getElem hl, fun j u hu => hc i _ (List.getElem?_eq_getElem hl) j u hu⟩
end

theorem below_drewN {B : Nat} {a w : World} (h : Below B a w) (n : Nat) : Below B a (w.drewN n) := ⟨h.os, h.tape, h.output, h.size, h.block⟩

theorem below_box {w wr : World} {o : Obj} (h : Below (w.heap.size + 1) (w.alloc o) wr) : Below w.heap.size w wr :=
  ((Below.refl _ _).alloc (Nat.le_refl _) _).trans (h.mono (by omega))
theorem size_box {w wr : World} {o : Obj} (h : Below (w.heap.size + 1) (w.alloc o) wr) : w.heap.size < wr.heap.size := by
  have := h.size; simp at this; omega
theorem cell_box {w wr : World} {cs : Array Value} {t : TypeId} (h : Below (w.heap.size + 1) (w.alloc (.cells cs t)) wr) (i : Nat) {v : Value} (hv : cs[i]? = some v) : wr.cell? ⟨w.heap.size, i, none⟩ = some v :=
  (h.cell (p := ⟨w.heap.size, i, none⟩) (by simp)).trans (by simp [go_sem, hv])
theorem all_take_succ {α : Type} {p : α → Bool} {l : List α} {k : Nat} {x : α} (h : l[k]? = some x) : (l.take (k + 1)).all p = ((l.take k).all p && p x) := by
  rw [List.take_add_one, h]
  simp [List.all_append]
theorem all_of_not {α : Type} {p : α → Bool} {l : List α} {k : Nat} {x : α} (h : l[k]? = some x) (hp : p x = false) : l.all p = false := by
  rw [List.all_eq_false]
  exact ⟨x, List.mem_of_getElem? h, by simp [hp]⟩

def IdxEnd (W : World) (b : Bool) (e : Ending) (w' : World) : Prop := ∃ r : Int, e = .returned (.int .i64 r) ∧ -1 ≤ r ∧ decide (0 ≤ r) = b ∧ Below W.heap.size W w'
theorem any_take_succ {α : Type} {p : α → Bool} {l : List α} {k : Nat} {x : α} (h : l[k]? = some x) : (l.take (k + 1)).any p = ((l.take k).any p || p x) := by
  rw [List.take_add_one, h]
  simp [List.any_append]
theorem any_of {α : Type} {p : α → Bool} {l : List α} {k : Nat} {x : α} (h : l[k]? = some x) (hp : p x = true) : l.any p = true :=
  List.any_eq_true.2 ⟨x, List.mem_of_getElem? h, hp⟩

/-! ### The plain data -/
structure Wr where
  key : ByteArray
  val : ByteArray
  drop : Bool
def Wr.cells (x : Wr) : List Value := [.string x.key, .string x.val, .bool x.drop]
def Wr.v (x : Wr) : Value := .agg #[.string x.key, .string x.val, .bool x.drop]

abbrev WsAt := RowAt Wr.cells 3
theorem WsAt.cell3 {w : World} {B n i : Nat} {A : Option Addr} {ws : List Wr} (h : WsAt w B A n ws) (hi : i < n) :
    ∃ b off x, A = some ⟨b, off, none⟩ ∧ b < B ∧ ws[i]? = some x ∧ w.cell? ⟨b, off + i * 3, none⟩ = some (.string x.key) ∧ w.cell? ⟨b, off + i * 3 + 1, none⟩ = some (.string x.val) ∧ w.cell? ⟨b, off + i * 3 + 2, none⟩ = some (.bool x.drop) := by
  obtain ⟨b, off, x, e, hb, hx, hc⟩ := h.at_ hi
  exact ⟨b, off, x, e, hb, hx, hc 0 _ rfl, hc 1 _ rfl, hc 2 _ rfl⟩

def keyB (k : ByteArray) : Bool := decide (1 ≤ k.size) && decide (k.size ≤ 64)
def valB (v : ByteArray) : Bool := decide (v.size ≤ 1024)
def wrB (x : Wr) : Bool := keyB x.key && valB x.val && (!x.drop || decide (x.val.size = 0))
def txB (n : Int) (ws : List Wr) : Bool := decide (1 ≤ n) && decide (n ≤ 65536) && decide (ws.length ≤ 32) && ws.all wrB
def errOf (b : Bool) : Int := if b then 0 else 1

end Go.Proofs.YtcjmppjppmiggaaGreat

/- From blocks and owned rows to rows that read as lists. Plain theorems over any program. -/

namespace Go.Proofs.YtcjmppjppmiggaaGreat
open Go.RowKit
set_option linter.unusedVariables false
set_option linter.unusedSimpArgs false


theorem flat_get {α : Type} {cells : α → List Value} {size : Nat} : ∀ (xs : List α) (hs : ∀ x ∈ xs, (cells x).length = size) (i : Nat) (x : α), xs[i]? = some x → ∀ j u, (cells x)[j]? = some u → (xs.flatMap cells)[i * size + j]? = some u
  | [], _, _, _, h, _, _, _ => by simp at h
  | y :: r, hs, 0, x, h, j, u, hu => by
    simp at h; subst h
    rw [List.flatMap_cons, List.getElem?_append_left]
    · simpa using hu
    · simpa using (List.getElem?_eq_some_iff.1 hu).1
  | y :: r, hs, i + 1, x, h, j, u, hu => by
    have hy := hs y (by simp)
    rw [List.flatMap_cons, List.getElem?_append_right (by rw [hy, Nat.add_mul]; omega), hy, show (i + 1) * size + j - size = i * size + j from by rw [Nat.add_mul]; omega]
    exact flat_get r (fun z hz => hs z (by simp [hz])) i x (by simpa using h) j u hu
theorem flat_len {α : Type} {cells : α → List Value} {size : Nat} (xs : List α) (hs : ∀ x ∈ xs, (cells x).length = size) : (xs.flatMap cells).length = xs.length * size := by
  induction xs with
  | nil => simp
  | cons y r ih => rw [List.flatMap_cons, List.length_append, hs y (by simp), ih (fun x hx => hs x (by simp [hx])), List.length_cons, Nat.add_mul]; omega
theorem rowAt_block {α : Type} {cells : α → List Value} {size : Nat} {w : World} {b B : Nat} {cs : Array Value} {t : TypeId} {fr : Nat × Nat} (xs : List α) (hs : ∀ x ∈ xs, (cells x).length = size)
    (h : w.heap[b]? = some (.cells cs t fr)) (hb : b < B) (hcs : ∀ (j : Nat) (u : Value), (xs.flatMap cells)[j]? = some u → cs[j]? = some u) : RowAt cells size w B (some ⟨b, 0, none⟩) xs.length xs :=
  ⟨rfl, fun _ => ⟨b, 0, rfl, hb, fun i x hx j u hu => by
    rw [cell_of_row _ _ _ cs t fr h]
    exact hcs _ _ (by have := flat_get xs hs i x hx j u hu; simpa using this)⟩⟩
theorem len_wr (ws : List Wr) : ∀ x ∈ ws, (Wr.cells x).length = 3 := fun _ _ => rfl
end Go.Proofs.YtcjmppjppmiggaaGreat

/- Maps that the code makes and keeps: a map's block as a list of keys with their values, in the model's own order. Plain theorems over any program. -/
namespace Go.Proofs.YtcjmppjppmiggaaGreat
open Go.RowKit
set_option linter.unusedVariables false
set_option linter.unusedSimpArgs false

open Go.MapKept
set_option linter.unusedSectionVars false
variable {K V : Type} [DecidableEq K]

def mfind (k : K) : List (K × Value) → Nat → Option (Nat × Value)
  | [], _ => none
  | (a, v) :: r, i => if a = k then some (i, v) else mfind k r (i + 1)
def mget : List (K × V) → K → Option V
  | [], _ => none
  | (a, v) :: r, k => if a = k then some v else mget r k
def mput : List (K × V) → K → V → List (K × V)
  | [], k, v => [(k, v)]
  | (a, u) :: r, k, v => if a = k then (k, v) :: r else (a, u) :: mput r k v
def mdel : List (K × V) → K → List (K × V)
  | [], _ => []
  | (a, u) :: r, k => if a = k then r else (a, u) :: mdel r k

theorem mget_mput (m : List (K × V)) (k j : K) (v : V) : mget (mput m k v) j = if k = j then some v else mget m j := by
  induction m with
  | nil => simp [mput, mget]
  | cons p r ih => obtain ⟨a, u⟩ := p; simp only [mput]; split <;> simp only [mget] <;> grind
theorem mem_keys_mput (m : List (K × V)) (k j : K) (v : V) : j ∈ (mput m k v).map (·.1) ↔ j = k ∨ j ∈ m.map (·.1) := by
  induction m with
  | nil => simp [mput]
  | cons p r ih => obtain ⟨a, u⟩ := p; simp only [mput]; split <;> simp_all <;> grind
theorem nodup_mput {m : List (K × V)} (k : K) (v : V) (h : (m.map (·.1)).Nodup) : ((mput m k v).map (·.1)).Nodup := by
  induction m with
  | nil => simp [mput]
  | cons p r ih =>
    obtain ⟨a, u⟩ := p
    simp only [List.map_cons, List.nodup_cons] at h
    simp only [mput]; split
    · subst_vars; simpa using h
    · simp only [List.map_cons, List.nodup_cons, mem_keys_mput]; exact ⟨by grind, ih h.2⟩
theorem mget_none_iff (m : List (K × V)) (k : K) : mget m k = none ↔ k ∉ m.map (·.1) := by
  induction m with
  | nil => simp [mget]
  | cons p r ih => obtain ⟨a, u⟩ := p; simp only [mget]; split <;> simp_all <;> grind
theorem mget_some_mem {m : List (K × V)} {k : K} {v : V} (h : mget m k = some v) : (k, v) ∈ m := by
  induction m with
  | nil => simp [mget] at h
  | cons p r ih => obtain ⟨a, u⟩ := p; simp only [mget] at h; split at h <;> simp_all
theorem mget_mdel {m : List (K × V)} (hn : (m.map (·.1)).Nodup) (k j : K) : mget (mdel m k) j = if k = j then none else mget m j := by
  induction m with
  | nil => simp [mdel, mget]
  | cons p r ih =>
    obtain ⟨a, u⟩ := p
    simp only [List.map_cons, List.nodup_cons] at hn
    simp only [mdel]; split
    · subst_vars
      by_cases h : a = j
      · subst h; rw [if_pos rfl]; exact (mget_none_iff _ _).2 hn.1
      · simp [mget, h]
    · simp only [mget, ih hn.2]; grind
theorem mfind_some {ν : V → Value} : ∀ (m : List (K × V)) {k : K} {i j : Nat} {u : Value}, mfind k (m.map fun p => (p.1, ν p.2)) i = some (j, u) →
    ∃ (t : Nat) (v : V), j = i + t ∧ u = ν v ∧ t < m.length ∧ mget m k = some v ∧ m[t]? = some (k, v) ∧ (∀ x, mput m k x = m.set t (k, x)) ∧ mdel m k = m.eraseIdx t
  | [], _, _, _, _, h => by simp [mfind] at h
  | (a, v) :: r, k, i, j, u, h => by
    simp only [List.map_cons, mfind] at h
    by_cases ha : a = k
    · rw [if_pos ha] at h
      simp only [Option.some.injEq, Prod.mk.injEq] at h
      obtain ⟨rfl, rfl⟩ := h
      subst ha
      exact ⟨0, v, rfl, rfl, by simp, by simp [mget], by simp, by simp [mput], by simp [mdel]⟩
    · rw [if_neg ha] at h
      obtain ⟨t, v', rfl, rfl, h1, h2, h3, h4, h5⟩ := mfind_some r h
      exact ⟨t + 1, v', by omega, rfl, by simpa using h1, by simp [mget, ha, h2], by simpa using h3, fun x => by simp [mput, ha, h4], by simp [mdel, ha, h5]⟩
theorem mfind_none {ν : V → Value} : ∀ (m : List (K × V)) {k : K} {i : Nat}, mfind k (m.map fun p => (p.1, ν p.2)) i = none →
    mget m k = none ∧ (∀ x, mput m k x = m ++ [(k, x)]) ∧ mdel m k = m ∧ k ∉ m.map (·.1)
  | [], _, _, _ => ⟨rfl, fun _ => rfl, rfl, by simp⟩
  | (a, v) :: r, k, i, h => by
    simp only [List.map_cons, mfind] at h
    by_cases ha : a = k
    · rw [if_pos ha] at h; cases h
    · rw [if_neg ha] at h
      obtain ⟨h1, h2, h3, h4⟩ := mfind_none r h
      exact ⟨by simp [mget, ha, h1], fun x => by simp [mput, ha, h2], by simp [mdel, ha, h3], by simp at h4 ⊢; exact ⟨fun e => ha e.symm, h4⟩⟩

structure Keying (P : Program) (kt : TypeId) (κ : K → Value) : Prop where
  inj : ∀ a b, κ a = κ b → a = b
  check : ∀ e w a, (Instr.checkKey e 10000 kt (κ a)).run P w = .ok () w
  find : ∀ w k (l : List MapEntry) (m : List (K × Value)), l.map (fun e => (e.key, e.val)) = m.map (fun p => (κ p.1, p.2)) → (m.map (·.1)).Nodup → (Instr.findKey kt (κ k) l).run P w = .ok (mfind k m 0) w
  stays : ∀ w a, (Instr.keyThatStays (κ a) (κ a)).run P w = .ok (κ a) w

theorem findNow_mfind {d : TypeDesc} {κ : K → Value} (hk : ∀ a, IsKey d (κ a)) (hi : ∀ a b, κ a = κ b → a = b) (k : K) : ∀ (l : List MapEntry) (m : List (K × Value)) (i : Nat),
    l.map (fun e => (e.key, e.val)) = m.map (fun p => (κ p.1, p.2)) → Instr.findNow d (κ k) l i = some (mfind k m i)
  | [], [], _, _ => rfl
  | [], _ :: _, _, h => by simp at h
  | _ :: _, [], _, h => by simp at h
  | e :: l, (a, v) :: m, i, h => by
    simp only [List.map_cons, List.cons.injEq, Prod.mk.injEq] at h
    obtain ⟨⟨h1, h2⟩, h3⟩ := h
    obtain ⟨r, hr, hiff⟩ := sameNow_of_keys (hk k) (h1 ▸ hk a)
    cases r with
    | true =>
      have : k = a := hi _ _ ((hiff.1 rfl).trans h1)
      subst this
      simp [Instr.findNow, hr, mfind, h2]
    | false =>
      have : a ≠ k := by rintro rfl; have := hiff.2 h1.symm; cases this
      simp only [Instr.findNow, hr, mfind, if_neg this]
      exact findNow_mfind hk hi k l m (i + 1) h3
theorem keying_of {P : Program} {kt : TypeId} {d : TypeDesc} {κ : K → Value} (hd : P.underlying kt = some d) (hk : ∀ a, IsKey d (κ a)) (hi : ∀ a b, κ a = κ b → a = b) : Keying P kt κ :=
  ⟨hi, fun e w a => run_checkKey hd (hk a) e 9999, fun w k l m h _ => run_findKey hd (findNow_mfind hk hi k l m 0 h), fun w a => run_keyThatStays (hk a)⟩
theorem mfind_absent : ∀ (m : List (K × Value)) {k : K} {i : Nat}, k ∉ m.map (·.1) → mfind k m i = none
  | [], _, _, _ => rfl
  | (a, v) :: r, k, i, h => by
    simp only [List.map_cons, List.mem_cons, not_or] at h
    rw [mfind, if_neg (fun e => h.1 e.symm)]
    exact mfind_absent r h.2
theorem mfind_of_get : ∀ (m : List (K × Value)) {k : K} {i j : Nat} {v : Value}, (m.map (·.1)).Nodup → m[j]? = some (k, v) → mfind k m i = some (i + j, v)
  | [], _, _, _, _, _, h => by simp at h
  | (a, u) :: r, k, i, 0, v, _, h => by simp at h; obtain ⟨rfl, rfl⟩ := h; simp [mfind]
  | (a, u) :: r, k, i, j + 1, v, hn, h => by
    simp only [List.map_cons, List.nodup_cons] at hn
    have h' : r[j]? = some (k, v) := by simpa using h
    have hm : k ∈ r.map (·.1) := List.mem_map.2 ⟨_, List.mem_of_getElem? h', rfl⟩
    rw [mfind, if_neg (fun e : a = k => hn.1 (by rw [e]; exact hm)), mfind_of_get r hn.2 h']
    congr 2; omega
theorem keying_keyed {P : Program} {kt : TypeId} {κ : K → Value} (Q : Go.Maps.Keyed P kt) (hk : ∀ a, ∃ l, keyOf P kt (κ a) = some l) (hi : ∀ a b, κ a = κ b → a = b) : Keying P kt κ :=
  ⟨hi, fun e w a => by obtain ⟨l, hl⟩ := hk a; exact Q.check w e hl, fun w k l m h hn => by
    obtain ⟨lk, hlk⟩ := hk k
    have hmem : ∀ (j : Nat) (e : MapEntry), l[j]? = some e → ∃ p : K × Value, m[j]? = some p ∧ e.key = κ p.1 ∧ e.val = p.2 := fun j e he => by
      have h1 := congrArg (fun x => x[j]?) h
      simp only [List.getElem?_map, he, Option.map_some] at h1
      cases hj : m[j]? with
      | none => rw [hj] at h1; cases h1
      | some p => rw [hj] at h1; simp only [Option.map_some, Option.some.injEq, Prod.mk.injEq] at h1; exact ⟨p, rfl, h1.1, h1.2⟩
    rcases Q.find w hlk l (fun e he => by
      obtain ⟨j, hj⟩ := List.getElem?_of_mem he
      obtain ⟨p, -, h1, -⟩ := hmem j e hj
      obtain ⟨la, hla⟩ := hk p.1
      exact ⟨la, by rw [h1]; exact hla⟩) with ⟨hr, hne⟩ | ⟨j, e, hr, hj, he⟩
    · rw [hr, mfind_absent m]
      intro hkm
      obtain ⟨p, hp, rfl⟩ := List.mem_map.1 hkm
      obtain ⟨j, hj⟩ := List.getElem?_of_mem hp
      have h1 := congrArg (fun x => x[j]?) h
      simp only [List.getElem?_map, hj, Option.map_some] at h1
      cases hlj : l[j]? with
      | none => rw [hlj] at h1; cases h1
      | some e => rw [hlj] at h1; simp only [Option.map_some, Option.some.injEq, Prod.mk.injEq] at h1; exact hne e (List.mem_of_getElem? hlj) h1.1
    · obtain ⟨p, hp, h1, h2⟩ := hmem j e hj
      have : p = (k, e.val) := Prod.ext (hi _ _ (h1.symm.trans he)) h2.symm
      rw [hr, mfind_of_get m hn (this ▸ hp), Nat.zero_add], fun w a => by obtain ⟨l, hl⟩ := hk a; exact Q.stays w hl⟩
theorem keying_string {P : Program} {kt : TypeId} (hd : P.underlying kt = some .string) : Keying P kt Value.string := keying_of hd (fun _ => trivial) (fun _ _ h => by injection h)
theorem keying_int {P : Program} {kt : TypeId} {q : IntKind} (hd : P.underlying kt = some (.int q)) : Keying P kt (Value.int q) := keying_of hd (fun _ => rfl) (fun _ _ h => by injection h)

def OwnM (κ : K → Value) (ν : V → Value) (w : World) (b : Nat) (m : List (K × V)) : Prop :=
  ∃ es clock, w.heap[b]? = some (.map es clock) ∧ Stamped es clock ∧ es.toList.map (fun e => (e.key, e.val)) = m.map (fun p => (κ p.1, ν p.2))

section
variable {κ : K → Value} {ν : V → Value} {w w' : World} {b : Nat} {m : List (K × V)} {P : Program} {kt vt t : TypeId}
theorem OwnM.made (w : World) (κ : K → Value) (ν : V → Value) : OwnM κ ν (w.alloc (.map #[] 0)) w.heap.size [] := ⟨#[], 0, (MapKept.heap_alloc w _).1, stamped_empty 0, rfl⟩
theorem OwnM.lt (h : OwnM κ ν w b m) : b < w.heap.size := by obtain ⟨es, clock, hb, _⟩ := h; exact (Array.getElem?_eq_some_iff.1 hb).1
theorem OwnM.of_block (h : OwnM κ ν w b m) (hb : w'.heap[b]? = w.heap[b]?) : OwnM κ ν w' b m := by obtain ⟨es, clock, h1, h2⟩ := h; exact ⟨es, clock, hb.trans h1, h2⟩
theorem OwnM.below {B : Nat} (h : OwnM κ ν w b m) (hb : Below B w w') (hB : b < B) : OwnM κ ν w' b m := h.of_block (hb.block b hB)
theorem OwnM.grown {row : Option Nat} (h : OwnM κ ν w b m) (hg : w.grownBy w' row) (hne : some b ≠ row) : OwnM κ ν w' b m := h.of_block (hg.block b h.lt hne)
theorem OwnM.alloc (h : OwnM κ ν w b m) (o : Obj) : OwnM κ ν (w.alloc o) b m := h.of_block (Below.heap_alloc w o b h.lt)
theorem OwnM.drew (h : OwnM κ ν w b m) : OwnM κ ν w.drew b m := h
theorem OwnM.drewN (h : OwnM κ ν w b m) (n : Nat) : OwnM κ ν (w.drewN n) b m := h
theorem OwnM.setCell (h : OwnM κ ν w b m) (p : Addr) (u : Value) (hp : b ≠ p.block) : OwnM κ ν (w.setCell p u) b m := h.of_block (Below.heap_setCell w p u b hp)
theorem OwnM.nodup (h : OwnM κ ν w b m) : (m.map (·.1)).Nodup := by
  obtain ⟨es, clock, _, hs, he⟩ := h
  have h1 := hs.2.2
  have h2 : es.toList.map (·.key) = m.map (fun p => κ p.1) := by
    have := congrArg (List.map (·.1)) he
    simpa [Function.comp_def] using this
  rw [h2] at h1
  rw [show (fun p : K × V => κ p.1) = κ ∘ (fun p => p.1) from rfl, ← List.map_map] at h1
  exact List.Pairwise.of_map κ (fun a b hab e => hab (by rw [e])) h1

theorem OwnM.run_lookup (h : OwnM κ ν w b m) (hK : Keying P kt κ) (ht : P.underlying t = some (.map kt vt)) {z : Value} (hz : (zeroValue vt).run P w = .ok z w) (k : K) (ok : Bool) :
    (Instr.lookup t (.map (some b)) (κ k) ok).run P w = .ok (if ok then .tuple #[((mget m k).map ν).getD z, .bool (mget m k).isSome] else ((mget m k).map ν).getD z) w := by
  have hnd : ((m.map fun p => (p.1, ν p.2)).map (·.1)).Nodup := by rw [List.map_map]; exact h.nodup
  obtain ⟨es, clock, hb, _, he⟩ := h
  have hf := hK.find w k es.toList (m.map fun p => (p.1, ν p.2)) (by rw [he]; simp [Function.comp_def]) hnd
  unfold Instr.lookup
  simp only [Sem.run_bind, run_underlying ht, Result.andThen_ok, MapKept.run_getObj_map hb, Sem.run_pure, hK.check, hf]
  cases hq : mfind k (m.map fun p => (p.1, ν p.2)) 0 with
  | none =>
    obtain ⟨h1, _⟩ := mfind_none m hq
    simp only [hz, Sem.run_bind, Result.andThen_ok, Sem.run_pure, h1]
    cases ok <;> rfl
  | some x =>
    obtain ⟨j, u⟩ := x
    obtain ⟨t', v, -, rfl, -, h2, -⟩ := mfind_some m hq
    simp only [Sem.run_pure, Result.andThen_ok, h2]
    cases ok <;> rfl

theorem OwnM.run_update (h : OwnM κ ν w b m) (hK : Keying P kt κ) (ht : P.underlying t = some (.map kt vt)) (k : K) (v : V) :
    ∃ w', (Instr.mapUpdate t (.map (some b)) (κ k) (ν v)).run P w = .ok () w' ∧ OwnM κ ν w' b (mput m k v) ∧ w.grownBy w' (some b) := by
  have hnd : ((m.map fun p => (p.1, ν p.2)).map (·.1)).Nodup := by rw [List.map_map]; exact h.nodup
  obtain ⟨es, clock, hb, hs, he⟩ := h
  have hf := hK.find w k es.toList (m.map fun p => (p.1, ν p.2)) (by rw [he]; simp [Function.comp_def]) hnd
  have hlen : es.toList.length = m.length := by simpa using congrArg List.length he
  have hset : ∀ o : Obj, w.grownBy { w with heap := w.heap.setIfInBounds b o } (some b) := fun o =>
    ⟨rfl, rfl, rfl, by simp, fun i _ hne => (MapKept.heap_set hb).2 i (fun e => hne (by rw [e]))⟩
  unfold Instr.mapUpdate
  simp only [Sem.run_bind, run_underlying ht, Result.andThen_ok, MapKept.run_getObj_map hb, hK.check, hf]
  cases hq : mfind k (m.map fun p => (p.1, ν p.2)) 0 with
  | none =>
    obtain ⟨h1, h2, h3, h4⟩ := mfind_none m hq
    refine ⟨_, MapKept.run_setObj_map _ hb, ⟨_, _, (MapKept.heap_set hb).1, ?_, ?_⟩, hset _⟩
    · refine stamped_push hs fun x hx hxk => ?_
      have : (x.key, x.val) ∈ m.map (fun p => (κ p.1, ν p.2)) := by rw [← he]; exact List.mem_map.2 ⟨x, hx, rfl⟩
      obtain ⟨p, hp, hpe⟩ := List.mem_map.1 this
      simp only [Prod.mk.injEq] at hpe
      have : p.1 = k := hK.inj _ _ (hpe.1.trans hxk)
      exact h4 (List.mem_map.2 ⟨p, hp, this⟩)
    · rw [h2 v]; simp [he]
  | some x =>
    obtain ⟨j, u⟩ := x
    obtain ⟨t', v', rfl, rfl, hlt, h2, h3, h4, h5⟩ := mfind_some m hq
    simp only [Nat.zero_add]
    have hx : t' < es.size := by rw [← Array.length_toList, hlen]; exact hlt
    have hkey : es[t'].key = κ k := by
      have h6 : (es.toList.map (fun e => (e.key, e.val)))[t']? = some (κ k, ν v') := by rw [he]; simp [h3]
      simp [hx] at h6
      exact h6.1
    have hst := hK.stays w k
    have hgd : ((es[t']?).map (·.key)).getD (κ k) = κ k := by simp [hx, hkey]
    simp only [hgd, Sem.run_bind, hst, Result.andThen_ok]
    refine ⟨_, MapKept.run_setObj_map _ hb, ⟨_, _, (MapKept.heap_set hb).1, ?_, ?_⟩, hset _⟩
    · refine stamped_modify hs t' _ (fun _ _ => rfl) (fun e _ hget => ?_)
      have : e = es[t'] := by simpa [hx] using hget.symm
      rw [this]; exact hkey.symm
    · rw [h4 v]
      apply List.ext_getElem?
      intro i
      have hi : (es.toList.map (fun e => (e.key, e.val)))[i]? = (m.map (fun p => (κ p.1, ν p.2)))[i]? := by rw [he]
      simp only [List.getElem?_map, Array.toList_modify, List.getElem?_modify, List.getElem?_set] at hi ⊢
      by_cases hit : t' = i
      · subst hit
        simp [hx, hlt]
      · simpa [hit] using hi

theorem OwnM.run_delete (h : OwnM κ ν w b m) (hK : Keying P kt κ) (ht : P.underlying t = some (.map kt vt)) (k : K) (ts : Array TypeId) (hts : ts[0]? = some t) (ty : TypeId) :
    ∃ w', (Builtin.delete_ ts ty #[.map (some b), κ k]).run P w = .ok (.tuple #[]) w' ∧ OwnM κ ν w' b (mdel m k) ∧ w.grownBy w' (some b) := by
  have hnd : ((m.map fun p => (p.1, ν p.2)).map (·.1)).Nodup := by rw [List.map_map]; exact h.nodup
  obtain ⟨es, clock, hb, hs, he⟩ := h
  have hf := hK.find w k es.toList (m.map fun p => (p.1, ν p.2)) (by rw [he]; simp [Function.comp_def]) hnd
  have hset : ∀ o : Obj, w.grownBy { w with heap := w.heap.setIfInBounds b o } (some b) := fun o =>
    ⟨rfl, rfl, rfl, by simp, fun i _ hne => (MapKept.heap_set hb).2 i (fun e => hne (by rw [e]))⟩
  unfold Builtin.delete_
  simp only [hts, List.getElem?_toArray, List.getElem?_cons_zero, List.getElem?_cons_succ, Sem.run_bind, run_underlying ht, Result.andThen_ok, MapKept.run_getObj_map hb, hK.check, hf]
  cases hq : mfind k (m.map fun p => (p.1, ν p.2)) 0 with
  | none =>
    obtain ⟨h1, h2, h3, h4⟩ := mfind_none m hq
    refine ⟨_, by simp only [Sem.run_bind, MapKept.run_setObj_map _ hb, Result.andThen_ok, Sem.run_pure], ⟨_, _, (MapKept.heap_set hb).1, hs, by rw [h3]; exact he⟩, hset _⟩
  | some x =>
    obtain ⟨j, u⟩ := x
    obtain ⟨t', v', rfl, rfl, hlt, h2, h3, h4, h5⟩ := mfind_some m hq
    simp only [Nat.zero_add]
    refine ⟨_, by simp only [Sem.run_bind, MapKept.run_setObj_map _ hb, Result.andThen_ok, Sem.run_pure], ⟨_, _, (MapKept.heap_set hb).1, stamped_erase hs t', ?_⟩, hset _⟩
    rw [h5]
    have hlen : es.toList.length = m.length := by simpa using congrArg List.length he
    have hx : t' < es.size := by rw [← Array.length_toList, hlen]; exact hlt
    simp only [Array.eraseIdxIfInBounds, hx, ↓reduceDIte, Array.toList_eraseIdx]
    have e2 : ∀ {α β : Type} (f : α → β) (l : List α) (i : Nat), (l.eraseIdx i).map f = (l.map f).eraseIdx i := by
      intro α β f l
      induction l with
      | nil => intro i; rfl
      | cons x r ih => intro i; cases i <;> simp [ih]
    rw [e2, he, e2]
end

section
variable {κ : K → Value} {ν : V → Value} {w : World} {b : Nat} {m : List (K × V)} {P : Program} {kt vt t : TypeId}
variable {ops : Array Oper} {rest : List Oper} {o : Oper} {a : Act} {Q : Exit → Act → World → Prop}
theorem wpList_lookup_ok_M (hgd : o.guard = none) (x y : Operand) (ho : o.op = .lookup t x y true) (hown : OwnM κ ν w b m) (hK : Keying P kt κ) (ht : P.underlying t = some (.map kt vt)) {z : Value} (hz : ∀ w, (zeroValue vt).run P w = .ok z w) (k : K)
    (hx : a.eval x = .map (some b)) (hy : a.eval y = κ k) (h : wpList P ops Q rest (a.put o.dst (.tuple #[((mget m k).map ν).getD z, .bool (mget m k).isSome])) w) : wpList P ops Q (o :: rest) a w := by
  refine wpList_plain hgd fun K' hK' => ?_
  have hr := hown.run_lookup hK ht (hz w) k true
  unfold Oper.wp
  simp [execOp, ho, hx, hy, hr, Result.andThen]
  exact hK' _ _ h
theorem wpList_update_M (hgd : o.guard = none) (x y v : Operand) (ho : o.op = .mapUpdate t x y v) (hown : OwnM κ ν w b m) (hK : Keying P kt κ) (ht : P.underlying t = some (.map kt vt)) (k : K) (u : V)
    (hx : a.eval x = .map (some b)) (hy : a.eval y = κ k) (hv : a.eval v = ν u) (h : ∀ w', OwnM κ ν w' b (mput m k u) → w.grownBy w' (some b) → wpList P ops Q rest (a.put o.dst undef) w') : wpList P ops Q (o :: rest) a w := by
  refine wpList_plain hgd fun K' hK' => ?_
  obtain ⟨w', hr, h1, h2⟩ := hown.run_update hK ht k u
  unfold Oper.wp
  simp [execOp, ho, hx, hy, hv, hr, Result.andThen]
  exact hK' _ _ (h w' h1 h2)
theorem wpList_delete_M (hgd : o.guard = none) (x y : Operand) (kt' : TypeId) (ho : o.op = .call { callee := .builtin .delete, args := #[x, y], argTypes := #[t, kt'] }) (hown : OwnM κ ν w b m) (hK : Keying P kt κ) (ht : P.underlying t = some (.map kt vt)) (k : K)
    (hx : a.eval x = .map (some b)) (hy : a.eval y = κ k) (h : ∀ w', OwnM κ ν w' b (mdel m k) → w.grownBy w' (some b) → wpList P ops Q rest (a.put o.dst (.tuple #[])) w') : wpList P ops Q (o :: rest) a w := by
  refine wpList_plain hgd fun K' hK' => ?_
  obtain ⟨w', hr, h1, h2⟩ := hown.run_delete hK ht k #[t, kt'] rfl o.type
  unfold Oper.wp
  simp [execOp, ho, resolve, invoke, builtin, hx, hy, hr, Result.andThen]
  exact hK' _ _ (h w' h1 h2)
end
end Go.Proofs.YtcjmppjppmiggaaGreat


namespace Go.Proofs.YtcjmppjppmiggaaGreat
open Go.RowKit
set_option linter.unusedVariables false
set_option linter.unusedSimpArgs false

theorem blk_set {w : World} {g : Nat} {t : TypeId} {cs : Array Value} (h : w.heap[g]? = some (.cells cs t (0, 0))) (i : Nat) (u : Value) : (w.setCell ⟨g, i, none⟩ u).heap[g]? = some (.cells (cs.setIfInBounds i u) t (0, 0)) := by
  simp [World.setCell, Array.getElem?_modify, h]
theorem blk_cell {w : World} {g : Nat} {t : TypeId} {cs : Array Value} (h : w.heap[g]? = some (.cells cs t (0, 0))) (i : Nat) : w.cell? ⟨g, i, none⟩ = cs[i]? := cell_of_row w g i cs t (0, 0) h
theorem blk_frozen {w : World} {g : Nat} {t : TypeId} {cs : Array Value} (h : w.heap[g]? = some (.cells cs t (0, 0))) (i : Nat) : w.frozen? ⟨g, i, none⟩ = false := by simp [World.frozen?, h]
theorem blk_lt {w : World} {g : Nat} {o : Obj} (h : w.heap[g]? = some o) : g < w.heap.size := (Array.getElem?_eq_some_iff.1 h).1
theorem only_of_below {a w : World} (h : Below a.heap.size a w) (row : Option Nat) : a.grownBy w row := ⟨h.os, h.tape, h.output, h.size, fun i hi _ => h.block i hi⟩
theorem only_setCell {a w : World} {g : Nat} (h : a.grownBy w (some g)) {p : Addr} (hp : p.block = g ∨ a.heap.size ≤ p.block) (u : Value) : a.grownBy (w.setCell p u) (some g) :=
  ⟨h.os, h.tape, h.output, by simpa [World.setCell] using h.size, fun i hi hne => (Below.heap_setCell w p u i (by
    rintro rfl
    rcases hp with hp | hp
    · exact hne (by rw [hp])
    · omega)).trans (h.block i hi hne)⟩

structure Kept (w w' : World) (X : Nat → Prop) : Prop where
  os : w'.os = w.os
  tape : w'.tape = w.tape
  output : w'.output = w.output
  size : w.heap.size ≤ w'.heap.size
  block : ∀ k, k < w.heap.size → ¬ X k → w'.heap[k]? = w.heap[k]?
section
variable {a b c w w' : World} {X Y : Nat → Prop}
theorem Kept.refl (w : World) (X : Nat → Prop) : Kept w w X := ⟨rfl, rfl, rfl, Nat.le_refl _, fun _ _ _ => rfl⟩
theorem Kept.trans (h : Kept a b X) (k : Kept b c X) : Kept a c X :=
  ⟨k.os.trans h.os, k.tape.trans h.tape, k.output.trans h.output, Nat.le_trans h.size k.size, fun i hi hx => (k.block i (Nat.lt_of_lt_of_le hi h.size) hx).trans (h.block i hi hx)⟩
theorem Kept.mono (h : Kept a b X) (hx : ∀ k, X k → Y k) : Kept a b Y := ⟨h.os, h.tape, h.output, h.size, fun i hi hy => h.block i hi (fun hxi => hy (hx i hxi))⟩
theorem Kept.of_only {g : Nat} (h : a.grownBy b (some g)) (hx : X g) : Kept a b X := ⟨h.os, h.tape, h.output, h.size, fun i hi hn => h.block i hi (fun e => by injection e with e; subst e; exact hn hx)⟩
theorem Kept.of_below (h : Below a.heap.size a b) : Kept a b X := ⟨h.os, h.tape, h.output, h.size, fun i hi _ => h.block i hi⟩
theorem Kept.below {B : Nat} (h : Kept a b X) (hB : B ≤ a.heap.size) (hX : ∀ k, X k → B ≤ k) : Below B a b := ⟨h.os, h.tape, h.output, h.size, fun i hi => h.block i (by omega) (fun hx => by have := hX i hx; omega)⟩
theorem Kept.alloc (h : Kept a b X) (o : Obj) : Kept a (b.alloc o) X := h.trans ⟨rfl, rfl, rfl, by simp, fun k hk _ => Below.heap_alloc _ _ _ hk⟩
theorem Kept.setCell (h : Kept a b X) {p : Addr} (hp : X p.block ∨ a.heap.size ≤ p.block) (u : Value) : Kept a (b.setCell p u) X :=
  ⟨h.os, h.tape, h.output, by simpa [World.setCell] using h.size, fun k hk hx => (Below.heap_setCell _ _ _ _ (by rintro rfl; rcases hp with hp | hp; exact hx hp; omega)).trans (h.block k hk hx)⟩
theorem Kept.drewN (h : Kept a b X) (n : Nat) : Kept a (b.drewN n) X := ⟨h.os, h.tape, h.output, h.size, h.block⟩
end
theorem Kept.blk {w w' : World} {X : Nat → Prop} {g : Nat} {o : Option Obj} (h : Kept w w' X) (hg : w.heap[g]? = o) (hl : g < w.heap.size) (hx : ¬ X g) : w'.heap[g]? = o := (h.block g hl hx).trans hg
theorem Kept.cell {w w' : World} {X : Nat → Prop} (h : Kept w w' X) {g i : Nat} (hl : g < w.heap.size) (hx : ¬ X g) : w'.cell? ⟨g, i, none⟩ = w.cell? ⟨g, i, none⟩ := by
  have := h.block g hl hx
  simp only [World.cell?, this]
theorem blk_new (w : World) (o : Obj) : (w.alloc o).heap[w.heap.size]? = some o := by show (w.heap.push o)[w.heap.size]? = _; simp
theorem RowAt.take_ {α : Type} {cells : α → List Value} {size : Nat} {w : World} {B n k : Nat} {A : Option Addr} {xs : List α} (h : RowAt cells size w B A n xs) (hk : k ≤ n) : RowAt cells size w B A k (xs.take k) := by
  refine ⟨by rw [List.length_take, h.1]; omega, fun hn => ?_⟩
  obtain ⟨b, off, e, hb, hx⟩ := h.2 (by omega)
  refine ⟨b, off, e, hb, fun i x hi j u hu => hx i x ?_ j u hu⟩
  have hik : i < k := by have := (List.getElem?_eq_some_iff.1 hi).1; simp at this; omega
  rwa [List.getElem?_take_of_lt hik] at hi
theorem bel_alloc {w X : World} (h : Below w.heap.size w X) (o : Obj) : Below w.heap.size w (X.alloc o) := h.alloc h.size o
theorem bel_drew {w X : World} (h : Below w.heap.size w X) : Below w.heap.size w X.drew := h.drew
theorem RowAt.prefix_ {α : Type} {cells : α → List Value} {size : Nat} {w : World} {B n : Nat} {A : Option Addr} {xs : List α} {sp : α} (h : RowAt cells size w B A (n + 1) (xs ++ [sp])) : RowAt cells size w B A n xs := by
  have hl : xs.length = n := by have := h.1; simp at this; exact this
  refine ⟨hl, fun hn => ?_⟩
  obtain ⟨b, off, e, hb, hc⟩ := h.2 (by omega)
  exact ⟨b, off, e, hb, fun i x hx j u hu => hc i x (by rw [List.getElem?_append_left (List.getElem?_eq_some_iff.1 hx).1]; exact hx) j u hu⟩
theorem drop_get {α : Type} {l : List α} {k : Nat} {x : α} (h : l[k]? = some x) : l.drop k = x :: l.drop (k + 1) := by
  obtain ⟨hk, e⟩ := List.getElem?_eq_some_iff.1 h
  rw [List.drop_eq_getElem_cons hk, e]
end Go.Proofs.YtcjmppjppmiggaaGreat

/- From a map that the walk keeps to what the library's iterators ask; the order of keys. Plain theorems over any program. -/
namespace Go.Proofs.YtcjmppjppmiggaaGreat
open Go.RowKit
set_option linter.unusedVariables false
set_option linter.unusedSimpArgs false

open Go.MapKept Go.Maps Go.WideShapes Go.WideMaps
section
variable {V : Type} {ν : V → Value} {P : Program} {kt : TypeId} {w : World} {b : Nat}
end

/-! ### keys in order -/
def kL (k : ByteArray) : List UInt8 := k.data.toList
theorem kL_inj {a b : ByteArray} (h : kL a = kL b) : a = b := by
  unfold kL at h; cases a; cases b; simp_all
def ltB (a b : ByteArray) : Bool := decide (kL a < kL b)
theorem ltB_irr (a : ByteArray) : ltB a a = false := by simp [ltB, List.lt_irrefl]
theorem ltB_ne {a b : ByteArray} (h : ltB a b = true) : a ≠ b := by rintro rfl; rw [ltB_irr] at h; cases h
def Rises (l : List ByteArray) : Prop := l.Pairwise fun a b => ltB a b = true
theorem Rises.nodup {l : List ByteArray} (h : Rises l) : l.Nodup := h.imp fun h => ltB_ne h
end Go.Proofs.YtcjmppjppmiggaaGreat


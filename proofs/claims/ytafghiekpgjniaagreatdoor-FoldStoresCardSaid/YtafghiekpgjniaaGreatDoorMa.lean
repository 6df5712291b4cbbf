/- Lemmas and contracts of functions that statements of this seat stand on, many texts in one; each holds under the premises typed in its head. -/
import Derived.WalkKit
import Derived.WalkSpells
import Derived.WalkLawsBesides
import Derived.Lib.Hide
import Derived.Laws.OwnMore
import Derived.Deep.AppendLies
import Derived.Deep.Draws
import Derived.Deep.QuietTactic
import Derived.BigQuiet
import Derived.Deep.LoopGhost
import Derived.Test.YtafghiekpgjniaaGreatDoorRows
import Derived.Maps.Own
import Derived.Maps.OwnOps
/- Words of memory that every text of this seat uses: slices that read as lists, small lemmas on worlds. Plain theorems over any program. -/
namespace Go.Proofs.YtafghiekpgjniaaGreatDoor
open Go.RowKit
set_option linter.unusedVariables false
set_option linter.unusedSimpArgs false

theorem ret_int {k : IntKind} {a b : Int} (h : a = b) : Ending.returned (.int k a) = .returned (.int k b) := by rw [h]
theorem ret_bool {a b : Bool} (h : a = b) : Ending.returned (.bool a) = .returned (.bool b) := by rw [h]

theorem toList_nil (s : ByteArray) : s.toList = [] ↔ s.size = 0 := by
  rw [ByteArray.toList_eq, ByteArray.size, ← Array.length_toList]
  exact List.length_eq_zero_iff.symm

/-- A slice value of n elements at A reads as the list xs: element i lies at the cells from i * size on; its block lies below B. -/
def RowAt {α : Type} (cells : α → List Value) (size : Nat) (w : World) (B : Nat) (A : Option Addr) (n : Nat) (xs : List α) : Prop :=
  xs.length = n ∧ (0 < n → ∃ b off, A = some ⟨b, off, none⟩ ∧ b < B ∧ ∀ i x, xs[i]? = some x → ∀ j u, (cells x)[j]? = some u → w.cell? ⟨b, off + i * size + j, none⟩ = some u)

section
variable {α : Type} {cells : α → List Value} {size : Nat} {w w' : World} {B B' n : Nat} {A : Option Addr} {xs : List α}
theorem RowAt.nil_ : RowAt cells size w B none 0 [] := ⟨rfl, fun h => absurd h (by omega)⟩
theorem RowAt.len (h : RowAt cells size w B A n xs) : xs.length = n := h.1
theorem RowAt.keep (h : RowAt cells size w B A n xs) (hk : ∀ p : Addr, p.block < B → w'.cell? p = w.cell? p) : RowAt cells size w' B A n xs :=
  ⟨h.1, fun hn => by
    obtain ⟨b, off, e, hb, hc⟩ := h.2 hn
    exact ⟨b, off, e, hb, fun i x hx j u hu => (hk _ hb).trans (hc i x hx j u hu)⟩⟩
theorem RowAt.more (h : RowAt cells size w B A n xs) (hB : B ≤ B') : RowAt cells size w B' A n xs :=
  ⟨h.1, fun hn => by
    obtain ⟨b, off, e, hb, hc⟩ := h.2 hn
    exact ⟨b, off, e, by omega, hc⟩⟩
theorem RowAt.below (h : RowAt cells size w B A n xs) (hb : Below B w w') : RowAt cells size w' B A n xs := h.keep fun _ hp => hb.cell hp
theorem RowAt.at_ {i : Nat} (h : RowAt cells size w B A n xs) (hi : i < n) : ∃ b off x, A = some ⟨b, off, none⟩ ∧ b < B ∧ xs[i]? = some x ∧ ∀ j u, (cells x)[j]? = some u → w.cell? ⟨b, off + i * size + j, none⟩ = some u := by
  obtain ⟨b, off, e, hb, hc⟩ := h.2 (by omega)
  have hl : i < xs.length := by rw [h.1]; exact hi
  exact ⟨b, off, xs[i], e, hb, List.getElem?_eq_getElem hl, fun j u hu => hc i _ (List.getElem?_eq_getElem hl) j u hu⟩
end

theorem below_drewN {B : Nat} {a w : World} (h : Below B a w) (n : Nat) : Below B a (w.drewN n) := ⟨h.os, h.tape, h.output, h.size, h.block⟩

theorem bcell {W w1 : World} (hb : Below W.heap.size W w1) : (∀ b o, b < W.heap.size → w1.cell? ⟨b, o, none⟩ = W.cell? ⟨b, o, none⟩) ∧ (∀ b o, b < W.heap.size → w1.frozen? ⟨b, o, none⟩ = W.frozen? ⟨b, o, none⟩) :=
  ⟨fun b o h => hb.cell (p := ⟨b, o, none⟩) h, fun b o h => hb.frozen (p := ⟨b, o, none⟩) h⟩

theorem below_box {w wr : World} {o : Obj} (h : Below (w.heap.size + 1) (w.alloc o) wr) : Below w.heap.size w wr :=
  ((Below.refl _ _).alloc (Nat.le_refl _) _).trans (h.mono (by omega))
theorem size_box {w wr : World} {o : Obj} (h : Below (w.heap.size + 1) (w.alloc o) wr) : w.heap.size < wr.heap.size := by
  have := h.size; simp at this; omega
theorem cell_box {w wr : World} {cs : Array Value} {t : TypeId} (h : Below (w.heap.size + 1) (w.alloc (.cells cs t)) wr) (i : Nat) {v : Value} (hv : cs[i]? = some v) : wr.cell? ⟨w.heap.size, i, none⟩ = some v :=
  (h.cell (p := ⟨w.heap.size, i, none⟩) (by simp)).trans (by simp [go_sem, hv])
theorem all_take_succ {α : Type} {p : α → Bool} {l : List α} {k : Nat} {x : α} (h : l[k]? = some x) : (l.take (k + 1)).all p = ((l.take k).all p && p x) := by
  rw [List.take_add_one, h]
  simp [List.all_append]
theorem all_of_not {α : Type} {p : α → Bool} {l : List α} {k : Nat} {x : α} (h : l[k]? = some x) (hp : p x = false) : l.all p = false := by
  rw [List.all_eq_false]
  exact ⟨x, List.mem_of_getElem? h, by simp [hp]⟩

/-- What IndexFunc answers: some number that is not below 0 just if one of the elements is met. -/
def IdxEnd (W : World) (b : Bool) (e : Ending) (w' : World) : Prop := ∃ r : Int, e = .returned (.int .i64 r) ∧ -1 ≤ r ∧ decide (0 ≤ r) = b ∧ Below W.heap.size W w'
theorem any_take_succ {α : Type} {p : α → Bool} {l : List α} {k : Nat} {x : α} (h : l[k]? = some x) : (l.take (k + 1)).any p = ((l.take k).any p || p x) := by
  rw [List.take_add_one, h]
  simp [List.any_append]
theorem any_of {α : Type} {p : α → Bool} {l : List α} {k : Nat} {x : α} (h : l[k]? = some x) (hp : p x = true) : l.any p = true :=
  List.any_eq_true.2 ⟨x, List.mem_of_getElem? h, hp⟩

/-! ### The plain data -/
/-- A write of a transaction. -/
structure Wr where
  key : ByteArray
  val : ByteArray
  drop : Bool
def Wr.cells (x : Wr) : List Value := [.string x.key, .string x.val, .bool x.drop]
def Wr.v (x : Wr) : Value := .agg #[.string x.key, .string x.val, .bool x.drop]

abbrev WsAt := RowAt Wr.cells 3
theorem WsAt.cell3 {w : World} {B n i : Nat} {A : Option Addr} {ws : List Wr} (h : WsAt w B A n ws) (hi : i < n) :
    ∃ b off x, A = some ⟨b, off, none⟩ ∧ b < B ∧ ws[i]? = some x ∧ w.cell? ⟨b, off + i * 3, none⟩ = some (.string x.key) ∧ w.cell? ⟨b, off + i * 3 + 1, none⟩ = some (.string x.val) ∧ w.cell? ⟨b, off + i * 3 + 2, none⟩ = some (.bool x.drop) := by
  obtain ⟨b, off, x, e, hb, hx, hc⟩ := h.at_ hi
  exact ⟨b, off, x, e, hb, hx, hc 0 _ rfl, hc 1 _ rfl, hc 2 _ rfl⟩

def keyB (k : ByteArray) : Bool := decide (1 ≤ k.size) && decide (k.size ≤ 64)
def valB (v : ByteArray) : Bool := decide (v.size ≤ 1024)
def wrB (x : Wr) : Bool := keyB x.key && valB x.val && (!x.drop || decide (x.val.size = 0))
def txB (n : Int) (ws : List Wr) : Bool := decide (1 ≤ n) && decide (n ≤ 65536) && decide (ws.length ≤ 32) && ws.all wrB
def errOf (b : Bool) : Int := if b then 0 else 1

end Go.Proofs.YtafghiekpgjniaaGreatDoor

namespace Go.Proofs.YtafghiekpgjniaaGreatDoor
open Go.RowKit
set_option linter.unusedVariables false
set_option linter.unusedSimpArgs false

set_option maxHeartbeats 400000 in
theorem wrong_any (x : Wr) (w : World) :
    Calls Tryz.prog 207 #[x.v] w fun e w' => e = .returned (.bool (!wrB x)) ∧ Below w.heap.size w w' := by
  obtain ⟨k, v, d⟩ := x
  have hfin : ∀ (b : Bool) (w' : World), b = (!wrB ⟨k, v, d⟩) → Below w.heap.size w w' → (Ending.returned (.bool b) = .returned (.bool (!wrB ⟨k, v, d⟩)) ∧ Below w.heap.size w w') := fun b w' h h' => ⟨by rw [h], h'⟩
  have Hf := Lib.hid hfin
  clear hfin
  unfold Wr.v
  go_enter Tryz.func207, Tryz.ntmps207
  go_wp2
  all_goals go_ret
  all_goals refine Hf.out _ _ ?_ ((Below.refl _ _).alloc (Nat.le_refl _) _)
  all_goals (have nk := toList_nil k; have nv := toList_nil v; clear Hf)
  all_goals (simp only [wrB, keyB, valB, List.isEmpty_iff]; grind)

theorem key_any (k : ByteArray) (w : World) :
    Calls Tryz.prog 173 #[.string k] w fun e w' => e = .returned (.bool (keyB k)) ∧ w = w' := by
    go_enter Tryz.func173, Tryz.ntmps173
    go_wp2
    all_goals go_ret
    all_goals exact ⟨ret_bool (by simp only [keyB]; grind), rfl⟩

theorem val_any (k : ByteArray) (w : World) :
    Calls Tryz.prog 215 #[.string k] w fun e w' => e = .returned (.bool (valB k)) ∧ w = w' := by
  go_enter Tryz.func215, Tryz.ntmps215
  go_wp2
  go_ret
  exact ⟨ret_bool (by simp only [valB]; grind), rfl⟩

def numB (n : Int) : Bool := decide (1 ≤ n) && decide (n ≤ 65536)
theorem num_any (n : Int) (w : World) :
    Calls Tryz.prog 178 #[.int .i64 n] w fun e w' => e = .returned (.bool (numB n)) ∧ w = w' := by
    go_enter Tryz.func178, Tryz.ntmps178
    go_wp2
    all_goals go_ret
    all_goals exact ⟨ret_bool (by simp only [numB]; grind), rfl⟩

set_option maxHeartbeats 400000 in
theorem refwr_any (x : Wr) (w : World) :
    Calls Tryz.prog 179 #[x.v] w fun e w' => e = .returned (.bool (wrB x)) ∧ Below w.heap.size w w' := by
  obtain ⟨k, v, d⟩ := x
  have hfin : ∀ (b : Bool) (w' : World), b = (wrB ⟨k, v, d⟩) → Below w.heap.size w w' → (Ending.returned (.bool b) = .returned (.bool (wrB ⟨k, v, d⟩)) ∧ Below w.heap.size w w') := fun b w' h h' => ⟨by rw [h], h'⟩
  have Hf := Lib.hid hfin
  clear hfin
  unfold Wr.v
  go_enter Tryz.func179, Tryz.ntmps179
  go_wp2_with (first | (go_at_call 173; refine (key_any _ _).mono ?_; rintro e w' ⟨rfl, rfl⟩) | (go_at_call 215; refine (val_any _ _).mono ?_; rintro e w' ⟨rfl, rfl⟩))
  all_goals go_ret
  all_goals refine Hf.out _ _ ?_ ((Below.refl _ _).alloc (Nat.le_refl _) _)
  all_goals (clear Hf)
  all_goals (simp only [wrB] at *; grind)

end Go.Proofs.YtafghiekpgjniaaGreatDoor

namespace Go.Proofs.YtafghiekpgjniaaGreatDoor
open Go.RowKit
set_option linter.unusedVariables false
set_option linter.unusedSimpArgs false

set_option maxHeartbeats 400000 in
theorem refcheck_any (n : Int) (A : Option Addr) (len cap : Nat) (ws : List Wr) (w : World) (hw : WsAt w w.heap.size A len ws) :
    Calls Tryz.prog 136 #[.agg #[.int .i64 n, .slice A len cap]] w fun e w' => e = .returned (.int .i64 (errOf (txB n ws))) ∧ Below w.heap.size w w' := by
  have hfin : ∀ (b : Bool) (w' : World), b = txB n ws → Below w.heap.size w w' → (Ending.returned (.int .i64 (errOf b)) = .returned (.int .i64 (errOf (txB n ws))) ∧ Below w.heap.size w w') := fun b w' h h' => ⟨by rw [h], h'⟩
  have Hf := Lib.hid hfin
  have hlen := Lib.hid hw.len
  clear hfin
  go_enter Tryz.func136, Tryz.ntmps136
  go_wp2_with (first | (go_at_call 178; refine (num_any _ _).mono ?_; rintro e w' ⟨rfl, rfl⟩))
  · go_ret
    refine Hf.out false _ ?_ ((Below.refl _ _).alloc (Nat.le_refl _) _)
    have := hlen.out
    simp only [txB]; grind
  · go_loopw [3] (fun i wr => ∃ k : Nat, k ≤ len ∧ i = .int .i64 k ∧ (ws.take k).all wrB = true ∧ Below (w.heap.size + 1) (w.alloc (.cells #[.int .i64 n, .slice A len cap] 64)) wr) (fun i _ => len - (RowKit.intOf i).toNat)
    case atStart => exact ⟨0, Nat.zero_le _, rfl, rfl, Below.refl _ _⟩
    case round =>
      obtain ⟨k, hk, rfl, hall, hb⟩ := hrel
      have Hall := Lib.hid hall
      clear hall
      have hr := hw.below (below_box hb)
      have Hb := Lib.hid hb
      have hs := size_box hb
      have c0 := cell_box hb 0 rfl
      have c1 := cell_box hb 1 rfl
      clear hb
      by_cases hlt : k < len
      · obtain ⟨b, off, x, rfl, hbl, hx, x0, x1, x2⟩ := WsAt.cell3 hr hlt
        have Hx := Lib.hid hx
        clear hx
        go_wp2_with (go_at_call 179; refine (refwr_any x _).mono ?_; rintro e w' ⟨rfl, hb'⟩)
        · go_ret
          refine Hf.out false _ ?_ ((below_box Hb.out).trans (hb'.mono (by omega)))
          have := all_of_not (p := wrB) Hx.out (by simpa using ‹(!wrB x) = true›)
          simp [txB, this]
        · go_roundw
          case rel => exact ⟨k + 1, by omega, by go_num, by rw [all_take_succ Hx.out, Hall.out]; simpa using ‹(!wrB x) = false›, Hb.out.trans (hb'.mono (by omega))⟩
          case measure => simp [RowKit.intOf]; omega
      · have hkl : k = len := by omega
        go_wp2
        go_ret
        refine Hf.out true _ ?_ (below_box Hb.out)
        have h2 := Hall.out
        have h3 := hlen.out
        rw [List.take_of_length_le (by omega)] at h2
        have h4 := ‹numB n = true›; clear hw hr Hf Hb c0 c1; simp only [txB, h2, numB] at *; grind
  · go_ret
    refine Hf.out false _ ?_ ((Below.refl _ _).alloc (Nat.le_refl _) _)
    simp only [txB, numB] at *; grind
end Go.Proofs.YtafghiekpgjniaaGreatDoor


namespace Go.Proofs.YtafghiekpgjniaaGreatDoor
open Go.RowKit
set_option linter.unusedVariables false
set_option linter.unusedSimpArgs false


def wrongB (x : Wr) : Bool := !wrB x
theorem any_wrong (ws : List Wr) : ws.any wrongB = !ws.all wrB := by induction ws <;> simp_all [wrongB]
set_option maxHeartbeats 400000 in
theorem index_wrong (A : Option Addr) (len cap : Nat) (ws : List Wr) (w : World) (hw : WsAt w w.heap.size A len ws) (hl : len ≤ 9223372036854775807) :
    Calls Tryz.prog 227 #[.slice A len cap, .func (.func 207) #[] #[]] w (IdxEnd w (ws.any wrongB)) := by
  have hlen := Lib.hid hw.len
  go_enter Tryz.func227, Tryz.ntmps227
  go_wp2_with fail
  go_loopw [8] (fun i wr => ∃ k : Nat, k ≤ len ∧ i = .int .i64 k ∧ (ws.take k).any wrongB = false ∧ Below w.heap.size w wr) (fun i _ => len - (RowKit.intOf i).toNat)
  case atStart => exact ⟨0, Nat.zero_le _, rfl, rfl, Below.refl _ _⟩
  case round =>
    obtain ⟨k, hk, rfl, hany, hb⟩ := hrel
    have Hany := Lib.hid hany
    clear hany
    have hr := hw.below hb
    have Hb := Lib.hid hb
    have hs := hb.size
    clear hb
    by_cases hlt : k < len
    · obtain ⟨b, off, x, rfl, hbl, hx, x0, x1, x2⟩ := WsAt.cell3 hr hlt
      have Hx := Lib.hid hx
      clear hx
      go_wp2_with (go_at_call 207; refine (wrong_any x _).mono ?_; rintro e w' ⟨rfl, hb'⟩)
      · go_ret
        refine ⟨k, rfl, by omega, ?_, Hb.out.trans (hb'.mono (by omega))⟩
        rw [any_of (p := wrongB) Hx.out (by simpa [wrongB] using ‹(!wrB x) = true›)]
        simp
      · go_roundw
        case rel => exact ⟨k + 1, by omega, by go_num, by rw [any_take_succ Hx.out, Hany.out]; simpa [wrongB] using ‹(!wrB x) = false›, Hb.out.trans (hb'.mono (by omega))⟩
        case measure => simp [RowKit.intOf]; omega
    · have hkl : k = len := by omega
      go_wp2
      go_ret
      have h2 := Hany.out
      have h3 := hlen.out
      rw [List.take_of_length_le (by omega)] at h2
      exact ⟨-1, rfl, by omega, by rw [h2]; simp, Hb.out⟩

set_option maxHeartbeats 400000 in
theorem contains_wrong (A : Option Addr) (len cap : Nat) (ws : List Wr) (w : World) (hw : WsAt w w.heap.size A len ws) (hl : len ≤ 9223372036854775807) :
    Calls Tryz.prog 208 #[.slice A len cap, .func (.func 207) #[] #[]] w fun e w' => e = .returned (.bool (ws.any wrongB)) ∧ Below w.heap.size w w' := by
  have hfin : ∀ (b : Bool) (w' : World), b = ws.any wrongB → Below w.heap.size w w' → (Ending.returned (.bool b) = .returned (.bool (ws.any wrongB)) ∧ Below w.heap.size w w') := fun b w' h h' => ⟨by rw [h], h'⟩
  have Hf := Lib.hid hfin
  clear hfin
  go_enter Tryz.func208, Tryz.ntmps208
  go_wp2_with (go_at_call 227; refine (index_wrong _ _ _ ws _ hw hl).mono ?_; rintro e w' ⟨r, rfl, hr1, hr2, hb'⟩; have Hr2 := Lib.hid hr2; clear hr2)
  go_ret
  exact Hf.out _ _ (by have := Hr2.out; simpa using this) hb'

set_option maxHeartbeats 400000 in
theorem check_any (n : Int) (A : Option Addr) (len cap : Nat) (ws : List Wr) (w : World) (hw : WsAt w w.heap.size A len ws) (hl : len ≤ 9223372036854775807) :
    Calls Tryz.prog 163 #[.agg #[.int .i64 n, .slice A len cap]] w fun e w' => e = .returned (.int .i64 (errOf (txB n ws))) ∧ Below w.heap.size w w' := by
  have hfin : ∀ (b : Bool) (w' : World), b = txB n ws → Below w.heap.size w w' → (Ending.returned (.int .i64 (errOf b)) = .returned (.int .i64 (errOf (txB n ws))) ∧ Below w.heap.size w w') := fun b w' h h' => ⟨by rw [h], h'⟩
  have Hf := Lib.hid hfin
  have hlen := Lib.hid hw.len
  clear hfin
  have hw2 : ∀ o, WsAt (w.alloc o) (w.alloc o).heap.size A len ws := fun o => (hw.below ((Below.refl _ _).alloc (Nat.le_refl _) _)).more (by simp)
  go_enter Tryz.func163, Tryz.ntmps163
  go_wp2_with (go_at_call 208; refine (contains_wrong _ _ _ ws _ (hw2 _) hl).mono ?_; rintro e w' ⟨rfl, hb'⟩)
  all_goals go_ret
  · refine Hf.out false _ ?_ (((Below.refl _ _).alloc (Nat.le_refl _) _).trans (hb'.mono (by simp)))
    have := hlen.out; have e := any_wrong ws; clear hw hw2 Hf hb'
    simp only [txB]; grind
  · refine Hf.out true _ ?_ (((Below.refl _ _).alloc (Nat.le_refl _) _).trans (hb'.mono (by simp)))
    have := hlen.out; have e := any_wrong ws; clear hw hw2 Hf hb'
    simp only [txB]; grind
  all_goals
    refine Hf.out false _ ?_ ((Below.refl _ _).alloc (Nat.le_refl _) _)
    have := hlen.out; clear hw hw2 Hf
    simp only [txB]; grind

end Go.Proofs.YtafghiekpgjniaaGreatDoor

/- From blocks and owned rows to rows that read as lists. Plain theorems over any program. -/

namespace Go.Proofs.YtafghiekpgjniaaGreatDoor
open Go.RowKit
set_option linter.unusedVariables false
set_option linter.unusedSimpArgs false


theorem flat_get {α : Type} {cells : α → List Value} {size : Nat} : ∀ (xs : List α) (hs : ∀ x ∈ xs, (cells x).length = size) (i : Nat) (x : α), xs[i]? = some x → ∀ j u, (cells x)[j]? = some u → (xs.flatMap cells)[i * size + j]? = some u
  | [], _, _, _, h, _, _, _ => by simp at h
  | y :: r, hs, 0, x, h, j, u, hu => by
    simp at h; subst h
    rw [List.flatMap_cons, List.getElem?_append_left]
    · simpa using hu
    · simpa using (List.getElem?_eq_some_iff.1 hu).1
  | y :: r, hs, i + 1, x, h, j, u, hu => by
    have hy := hs y (by simp)
    rw [List.flatMap_cons, List.getElem?_append_right (by rw [hy, Nat.add_mul]; omega), hy, show (i + 1) * size + j - size = i * size + j from by rw [Nat.add_mul]; omega]
    exact flat_get r (fun z hz => hs z (by simp [hz])) i x (by simpa using h) j u hu
theorem flat_len {α : Type} {cells : α → List Value} {size : Nat} (xs : List α) (hs : ∀ x ∈ xs, (cells x).length = size) : (xs.flatMap cells).length = xs.length * size := by
  induction xs with
  | nil => simp
  | cons y r ih => rw [List.flatMap_cons, List.length_append, hs y (by simp), ih (fun x hx => hs x (by simp [hx])), List.length_cons, Nat.add_mul]; omega
/-- A block whose first cells are those of xs. -/
theorem rowAt_block {α : Type} {cells : α → List Value} {size : Nat} {w : World} {b B : Nat} {cs : Array Value} {t : TypeId} {fr : Nat × Nat} (xs : List α) (hs : ∀ x ∈ xs, (cells x).length = size)
    (h : w.heap[b]? = some (.cells cs t fr)) (hb : b < B) (hcs : ∀ (j : Nat) (u : Value), (xs.flatMap cells)[j]? = some u → cs[j]? = some u) : RowAt cells size w B (some ⟨b, 0, none⟩) xs.length xs :=
  ⟨rfl, fun _ => ⟨b, 0, rfl, hb, fun i x hx j u hu => by
    rw [cell_of_row _ _ _ cs t fr h]
    exact hcs _ _ (by have := flat_get xs hs i x hx j u hu; simpa using this)⟩⟩
/-- An owned row reads as its list. -/
theorem rowAt_own {α : Type} {cells : α → List Value} {size : Nat} {w : World} {base : Nat} {e : TypeId} {v : Value} {xs : List α} (hs : ∀ x ∈ xs, (cells x).length = size)
    (h : w.ownsRow base e size v xs.length (xs.flatMap cells)) : ∃ A cap, v = .slice A xs.length cap ∧ RowAt cells size w w.heap.size A xs.length xs ∧ (A = none → xs.length = 0 ∧ cap = 0) ∧ xs.length ≤ cap := by
  obtain ⟨h1, h2 | ⟨g, cap, cur, hv, hg, hh, hn, hc, hsz, ht⟩⟩ := h
  · obtain ⟨rfl, h0⟩ := h2
    refine ⟨none, 0, by rw [h0], ?_, fun _ => ⟨h0, rfl⟩, by omega⟩
    rw [h0]
    have : xs = [] := List.eq_nil_of_length_eq_zero h0
    subst this
    exact RowAt.nil_
  · refine ⟨_, _, hv, rowAt_block xs hs hh (Array.getElem?_eq_some_iff.1 hh).1 (fun j u hu => ?_), (fun h => by cases h), hn⟩
    rw [← ht, List.getElem?_take] at hu
    split at hu
    · simpa using hu
    · cases hu
theorem len_wr (ws : List Wr) : ∀ x ∈ ws, (Wr.cells x).length = 3 := fun _ _ => rfl
end Go.Proofs.YtafghiekpgjniaaGreatDoor

namespace Go.Proofs.YtafghiekpgjniaaGreatDoor
open Go.RowKit
set_option linter.unusedVariables false
set_option linter.unusedSimpArgs false

open Go.Maps
def sameKey (x y : Wr) : Bool := y.key.toList == x.key.toList
/-- The writes that count: of each key the last one. -/
def countingL : List Wr → List Wr
  | [] => []
  | x :: r => if r.any (sameKey x) then countingL r else x :: countingL r
/-- The same, of the first k. -/
def countTo (ws : List Wr) (k : Nat) : List Wr := (List.range k).filterMap fun i => match ws[i]? with | some x => if (ws.drop (i + 1)).any (sameKey x) then none else some x | none => none
theorem countTo_succ {ws : List Wr} {k : Nat} {x : Wr} (h : ws[k]? = some x) : countTo ws (k + 1) = countTo ws k ++ if (ws.drop (k + 1)).any (sameKey x) then [] else [x] := by
  unfold countTo
  rw [List.range_succ, List.filterMap_append]
  congr 1
  simp only [List.filterMap_cons, h, List.filterMap_nil]
  by_cases hb : (ws.drop (k + 1)).any (sameKey x) = true
  · rw [if_pos hb, if_pos hb]
  · rw [if_neg hb, if_neg hb]
theorem countTo_cons (x : Wr) (r : List Wr) : ∀ k, countTo (x :: r) (k + 1) = (if r.any (sameKey x) then [] else [x]) ++ countTo r k := by
  intro k
  unfold countTo
  rw [List.range_succ_eq_map, List.filterMap_cons, List.filterMap_map]
  simp only [List.getElem?_cons_zero, List.drop_succ_cons, List.drop_zero]
  by_cases h : r.any (sameKey x) = true
  · simp [h, Function.comp_def]
  · simp [h, Function.comp_def]
theorem countTo_all (ws : List Wr) : countTo ws ws.length = countingL ws := by
  induction ws with
  | nil => rfl
  | cons x r ih =>
    rw [List.length_cons, countTo_cons, ih]
    show _ = if r.any (sameKey x) then countingL r else x :: countingL r
    by_cases hb : r.any (sameKey x) = true
    · rw [if_pos hb, if_pos hb]; rfl
    · rw [if_neg hb, if_neg hb]; rfl
theorem countTo_le (ws : List Wr) (k : Nat) : (countTo ws k).length ≤ k := by
  unfold countTo
  exact Nat.le_trans (List.length_filterMap_le _ _) (by simp)
theorem info_wr : (Tryz.prog.info? 87).map (fun i => (i.zero, i.size, i.bytes)) = some (some (.agg #[.string ⟨#[]⟩, .string ⟨#[]⟩, .bool false]), 3, 40) := by kernel_rfl

theorem bnot_f {a b : Bool} (h : false = !a) : false = !(a || b) := by cases a <;> simp_all
theorem bnot_t {a b : Bool} (h : true = !a) : (!b) = !(a || b) := by cases a <;> simp_all
theorem ownsRow_below {w w' : World} {base : Nat} {e : TypeId} {size : Nat} {v : Value} {n : Nat} {xs : List Value} (h : w.ownsRow base e size v n xs) (hb : Below w.heap.size w w') : w'.ownsRow base e size v n xs := by
  obtain ⟨h1, h2⟩ := h
  refine ⟨h1, ?_⟩
  rcases h2 with h2 | ⟨g, cap, cur, hv, hg, hh, r⟩
  · exact Or.inl h2
  · exact Or.inr ⟨g, cap, cur, hv, hg, by rw [hb.block g (Array.getElem?_eq_some_iff.1 hh).1]; exact hh, r⟩

theorem cells_new (w : World) (cs : List Value) (e : TypeId) : ∀ (j : Nat) (u : Value), cs[j]? = some u → (w.alloc (.cells cs.toArray e)).cell? ((⟨w.heap.size, 0, none⟩ : Addr).add j) = some u := by
  intro j u hu
  rw [Addr.add_lit, Nat.zero_add, cell_of_row _ _ _ cs.toArray e (0, 0) (heap_alloc_new w _)]
  simpa using hu
theorem one_wr (x : Wr) : ∀ (u : Value), u ∈ x.cells → u.oneCell' = true := by
  intro u hu
  simp only [Wr.cells, List.mem_cons, List.not_mem_nil, or_false] at hu
  rcases hu with rfl | rfl | rfl <;> rfl
theorem below_grown_new {w w' : World} {o : Obj} {v : Value} {base n size : Nat} {e : TypeId} {xs : List Value} (h : w.ownsRow base e size v n xs) (hg : (w.alloc o).grownBy w' v.ownBlock) (hb : base ≤ w.heap.size) : Below base w w' :=
  ((Below.refl _ _).alloc hb o).grown hg (by simp; omega) (fun k hk => (h.lt k hk).1)
end Go.Proofs.YtafghiekpgjniaaGreatDoor

namespace Go.Proofs.YtafghiekpgjniaaGreatDoor
open Go.RowKit
set_option linter.unusedVariables false
set_option linter.unusedSimpArgs false

theorem below_two {w wr : World} {o p : Obj} (h : Below (w.heap.size + 2) ((w.alloc o).alloc p) wr) : Below w.heap.size w wr :=
  (((Below.refl _ _).alloc (Nat.le_refl _) _).alloc (by simp) _).trans (h.mono (by omega))
end Go.Proofs.YtafghiekpgjniaaGreatDoor

namespace Go.Proofs.YtafghiekpgjniaaGreatDoor
open Go.RowKit
set_option linter.unusedVariables false
set_option linter.unusedSimpArgs false


def spW : Wr := ⟨⟨#[115, 112, 97, 114, 101]⟩, ⟨#[]⟩, false⟩
theorem take_snoc_flat {α : Type} {cells : α → List Value} {l : List α} {k : Nat} {x : α} (h : l[k]? = some x) : (l.take (k + 1)).flatMap cells = (l.take k).flatMap cells ++ cells x := by
  rw [List.take_add_one, h]; simp
theorem blk_of_own {w : World} {base g n size : Nat} {e : TypeId} {xs : List Value} (h : w.ownsRow base e size (.slice (some ⟨g, 0, none⟩) n n) n xs) : w.heap[g]? = some (.cells xs.toArray e (0, 0)) := by
  obtain ⟨h1, h2 | ⟨g', cap, cur, hv, hg, hh, hn, hc, hsz, ht⟩⟩ := h
  · simp at h2
  · simp at hv
    obtain ⟨rfl, rfl⟩ := hv
    rw [hh]
    have : cur.toList = xs := by rw [← ht, List.take_of_length_le (by rw [Array.length_toList, hsz]; exact Nat.le_refl _)]
    rw [← this]

/-- A row of one element more, that lies in one block. -/
theorem row_of_blk {α : Type} {cells : α → List Value} {size : Nat} {w : World} {g B : Nat} {e : TypeId} {xs : List α} {sp : α} (hs : ∀ x ∈ xs ++ [sp], (cells x).length = size) (h : w.heap[g]? = some (.cells ((xs ++ [sp]).flatMap cells).toArray e (0, 0))) (hB : g < B) :
    RowAt cells size w B (some ⟨g, 0, none⟩) (xs.length + 1) (xs ++ [sp]) := by
  have := rowAt_block (B := B) (xs ++ [sp]) hs h hB (fun j u hu => by simpa using hu)
  simpa using this

set_option maxHeartbeats 1000000 in
theorem twinW_any (A : Option Addr) (len cap : Nat) (xs : List Wr) (w : World) (hw : RowAt Wr.cells 3 w w.heap.size A len xs) (hreach : len * 40 ≤ 140737488351232) :
    Calls Tryz.prog 132 #[.slice A len cap] w fun e w' => e = .returned (.slice (some ⟨w.heap.size, 0, none⟩) len (len + 1)) ∧ w'.heap[w.heap.size]? = some (.cells ((xs ++ [spW]).flatMap Wr.cells).toArray 87 (0, 0)) ∧ Below w.heap.size w w' := by
  have hlen := Lib.hid hw.len
  obtain ⟨i0, hi, hz0, hz1, hz2⟩ := info_parts info_wr
  go_enter Tryz.func132, Tryz.ntmps132
  go_wp2_with (at_make; refine wpList_make_own _ rfl _ _ 62 rfl w.heap.size 87 i0 _ 3 Tryz.underlying62 hi hz0 hz1 _ _ _ (len + 1) rfl rfl (by omega) (by rw [hz2]; omega) (by simp only [maxLen]; omega) (Nat.le_refl _) ?_; intro w1 hown1 hgrow1)
  have hs1 : w.heap.size < w1.heap.size := (hown1.lt _ rfl).2
  have hbw1 : Below w.heap.size w w1 := (Below.refl _ _).grown hgrow1 (Nat.le_refl _) (fun k hk => by cases hk)
  go_wp2_with fail
  go_loopw [3, 4] (fun v i wr => ∃ k : Nat, k ≤ len ∧ i = .int .i64 k ∧ v = .slice (some ⟨w.heap.size, 0, none⟩) k (len + 1) ∧ wr.ownsRow w.heap.size 87 3 (.slice (some ⟨w.heap.size, 0, none⟩) k (len + 1)) k ((xs.take k).flatMap Wr.cells) ∧ Below w.heap.size w wr) (fun _ i _ => len - (RowKit.intOf i).toNat)
  case atStart => exact ⟨0, Nat.zero_le _, rfl, rfl, hown1, hbw1⟩
  case round =>
    obtain ⟨k, hk, rfl, rfl, hown, hb⟩ := hrel
    have hr := hw.below hb
    have Hb := Lib.hid hb
    have hs := hb.size
    have hgl := (hown.lt _ rfl).2
    clear hb hown1 hgrow1 hbw1
    by_cases hlt : k < len
    · obtain ⟨b, off, x, rfl, hbl, hx, hxc⟩ := hr.at_ hlt
      have x0 := hxc 0 _ rfl
      have x1 := hxc 1 _ rfl
      have x2 := hxc 2 _ rfl
      simp only [Nat.add_zero] at x0
      have Hx := Lib.hid hx
      clear hx hxc
      go_wp2_with (at_builtin; refine wpList_append_fits _ rfl _ _ 62 rfl w.heap.size 87 i0 3 Tryz.underlying62 hi hz1 w.heap.size k (len + 1) _ rfl (hown.alloc _) ⟨wr.heap.size, 0, none⟩ 1 1 (Wr.cells x) rfl rfl (cells_new _ _ _) (one_wr x) (by omega) ?_; intro w2 hown2 hg2)
      have hbl2 := below_grown_new hown hg2 (by omega)
      refine ⟨⟨k + 1, by omega, by go_num, rfl, ?_, Hb.out.trans hbl2⟩, by simp [RowKit.intOf]; omega⟩
      rw [take_snoc_flat Hx.out]; exact hown2
    · have hkl : k = len := by omega
      subst hkl
      have htk : xs.take k = xs := List.take_of_length_le (by have := hlen.out; omega)
      rw [htk] at hown
      go_wp2_with (at_builtin; refine wpList_append_fits _ rfl _ _ 62 rfl w.heap.size 87 i0 3 Tryz.underlying62 hi hz1 w.heap.size k (k + 1) _ rfl (hown.alloc _) ⟨wr.heap.size, 0, none⟩ 1 1 (Wr.cells spW) rfl rfl (cells_new _ _ _) (one_wr spW) (by omega) ?_; intro w2 hown2 hg2)
      have hbl2 := below_grown_new hown hg2 (by omega)
      go_wp2_with fail
      go_ret
      exact ⟨rfl, by simpa using blk_of_own hown2, Hb.out.trans hbl2⟩

set_option maxHeartbeats 1000000 in
theorem leftW_any (g : Nat) (A : Option Addr) (len cap : Nat) (xs : List Wr) (w : World) (hg : w.heap[g]? = some (.cells ((xs ++ [spW]).flatMap Wr.cells).toArray 87 (0, 0))) (hw : RowAt Wr.cells 3 w w.heap.size A len xs) (hreach : len * 40 ≤ 140737488351232) :
    Calls Tryz.prog 138 #[.slice (some ⟨g, 0, none⟩) len (len + 1), .slice A len cap] w fun e w' => e = .returned (.bool true) ∧ Below w.heap.size w w' := by
  have hlen := Lib.hid hw.len
  have hgl : g < w.heap.size := (Array.getElem?_eq_some_iff.1 hg).1
  have hrow := row_of_blk (len_wr _) hg hgl
  rw [hw.len] at hrow
  have hb0 := beq_self_eq_true (len : Int)
  go_enter Tryz.func138, Tryz.ntmps138
  go_wp2_with fail
  go_loopw [5] (fun i wr => ∃ k : Nat, k ≤ len ∧ i = .int .i64 k ∧ Below w.heap.size w wr) (fun i _ => len - (RowKit.intOf i).toNat)
  case atStart => exact ⟨0, Nat.zero_le _, rfl, Below.refl _ _⟩
  case round =>
    obtain ⟨k, hk, rfl, hb⟩ := hrel
    have hr := hw.below hb
    have ht := hrow.below hb
    have Hb := Lib.hid hb
    have hs := hb.size
    clear hb
    by_cases hlt : k < len
    · obtain ⟨b, off, x, rfl, hbl, hx, hxc⟩ := hr.at_ hlt
      have x0 := hxc 0 _ rfl
      have x1 := hxc 1 _ rfl
      have x2 := hxc 2 _ rfl
      simp only [Nat.add_zero] at x0
      obtain ⟨b', off', y, he, hbl', hy, hyc⟩ := ht.at_ (show k < len + 1 by omega)
      have y0 := hyc 0 _ rfl
      have y1 := hyc 1 _ rfl
      have y2 := hyc 2 _ rfl
      simp only [Nat.add_zero] at y0
      simp only [Option.some.injEq, Addr.mk.injEq, and_true] at he
      obtain ⟨rfl, rfl⟩ := he
      have hyx : y = x := by
        rw [List.getElem?_append_left (by have := hlen.out; omega), hx] at hy
        exact (Option.some.inj hy).symm
      subst hyx
      clear hx hy hxc hyc
      simp only [Nat.zero_add] at y0 y1 y2
      go_wp2_with fail
      go_quiet (fail)
      go_wp2_with fail
      exact ⟨⟨k + 1, by omega, by go_num, below_drewN Hb.out _⟩, by simp [RowKit.intOf]; omega⟩
    · have hkl : k = len := by omega
      subst hkl
      obtain ⟨b', off', y, he, hbl', hy, hyc⟩ := ht.at_ (show k < k + 1 by omega)
      have y0 := hyc 0 _ rfl
      have y1 := hyc 1 _ rfl
      have y2 := hyc 2 _ rfl
      simp only [Nat.add_zero] at y0
      simp only [Option.some.injEq, Addr.mk.injEq, and_true] at he
      obtain ⟨rfl, rfl⟩ := he
      have hyx : y = spW := by
        rw [List.getElem?_append_right (by have := hlen.out; omega), hlen.out] at hy
        simpa using hy.symm
      subst hyx
      clear hy hyc
      simp only [Nat.zero_add, spW] at y0 y1 y2
      have hk1 : (k : Int) < (k : Int) + 1 := by omega
      go_wp2_with fail
      go_ret
      exact ⟨rfl, by first | exact Hb.out.alloc (by omega) _ | exact Hb.out⟩
end Go.Proofs.YtafghiekpgjniaaGreatDoor


namespace Go.Proofs.YtafghiekpgjniaaGreatDoor
open Go.RowKit
set_option linter.unusedVariables false
set_option linter.unusedSimpArgs false

def Icell (x : Int) : List Value := [.int .i64 x]
def spI : Int := 7777
theorem len_int (xs : List Int) : ∀ x ∈ xs, (Icell x).length = 1 := fun _ _ => rfl
theorem one_int (x : Int) : ∀ (u : Value), u ∈ Icell x → u.oneCell' = true := by
  intro u hu; simp only [Icell, List.mem_cons, List.not_mem_nil, or_false] at hu; rw [hu]; rfl
theorem info_int : (Tryz.prog.info? 3).map (fun i => (i.zero, i.size, i.bytes)) = some (some (.int .i64 0), 1, 8) := by kernel_rfl
end Go.Proofs.YtafghiekpgjniaaGreatDoor


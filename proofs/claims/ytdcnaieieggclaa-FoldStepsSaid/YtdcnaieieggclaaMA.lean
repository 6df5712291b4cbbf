/- Lemmas and contracts of functions that statements of this seat stand on, many texts in one; each holds under the premises typed in its head. -/
import Derived.WalkKit
import Derived.WalkSpells
import Derived.WalkLawsBesides
import Derived.Lib.Hide
import Derived.Laws.OwnMore
import Derived.Deep.AppendLies
import Derived.Deep.Draws
import Derived.Deep.QuietTactic
import Derived.BigQuiet
import Derived.Deep.LoopGhost
import Derived.Test.YtdcnaieieggclaaRows
import Derived.Maps.Own
import Derived.Maps.OwnOps
import Derived.Deep.RegionHeld3
import Derived.Maps.OwnSet
import Derived.ProofKit
import Derived.Deep.Slices
import Derived.Deep.Fields
import Derived.ChangeSame
import Derived.Lib.SmallJoins
import Derived.SizedLaws
/- Words of memory that every text of this seat uses: slices that read as lists, small lemmas on worlds. Plain theorems over any program. -/
namespace Go.Proofs.Ytdcnaieieggclaa
open Go.RowKit
set_option linter.unusedVariables false
set_option linter.unusedSimpArgs false

theorem ret_int {k : IntKind} {a b : Int} (h : a = b) : Ending.returned (.int k a) = .returned (.int k b) := by rw [h]
theorem ret_bool {a b : Bool} (h : a = b) : Ending.returned (.bool a) = .returned (.bool b) := by rw [h]

theorem toList_nil (s : ByteArray) : s.toList = [] ↔ s.size = 0 := by
  rw [ByteArray.toList_eq, ByteArray.size, ← Array.length_toList]
  exact List.length_eq_zero_iff.symm

/-- A slice value of n elements at A reads as the list xs: element i lies at the cells from i * size on; its block lies below B. -/
def RowAt {α : Type} (cells : α → List Value) (size : Nat) (w : World) (B : Nat) (A : Option Addr) (n : Nat) (xs : List α) : Prop :=
  xs.length = n ∧ (0 < n → ∃ b off, A = some ⟨b, off, none⟩ ∧ b < B ∧ ∀ i x, xs[i]? = some x → ∀ j u, (cells x)[j]? = some u → w.cell? ⟨b, off + i * size + j, none⟩ = some u)

section
variable {α : Type} {cells : α → List Value} {size : Nat} {w w' : World} {B B' n : Nat} {A : Option Addr} {xs : List α}
theorem RowAt.nil_ : RowAt cells size w B none 0 [] := ⟨rfl, fun h => absurd h (by omega)⟩
theorem RowAt.len (h : RowAt cells size w B A n xs) : xs.length = n := h.1
theorem RowAt.keep (h : RowAt cells size w B A n xs) (hk : ∀ p : Addr, p.block < B → w'.cell? p = w.cell? p) : RowAt cells size w' B A n xs :=
  ⟨h.1, fun hn => by
    obtain ⟨b, off, e, hb, hc⟩ := h.2 hn
    exact ⟨b, off, e, hb, fun i x hx j u hu => (hk _ hb).trans (hc i x hx j u hu)⟩⟩
theorem RowAt.more (h : RowAt cells size w B A n xs) (hB : B ≤ B') : RowAt cells size w B' A n xs :=
  ⟨h.1, fun hn => by
    obtain ⟨b, off, e, hb, hc⟩ := h.2 hn
    exact ⟨b, off, e, by omega, hc⟩⟩
theorem RowAt.below (h : RowAt cells size w B A n xs) (hb : Below B w w') : RowAt cells size w' B A n xs := h.keep fun _ hp => hb.cell hp
theorem RowAt.at_ {i : Nat} (h : RowAt cells size w B A n xs) (hi : i < n) : ∃ b off x, A = some ⟨b, off, none⟩ ∧ b < B ∧ xs[i]? = some x ∧ ∀ j u, (cells x)[j]? = some u → w.cell? ⟨b, off + i * size + j, none⟩ = some u := by
  obtain ⟨b, off, e, hb, hc⟩ := h.2 (by omega)
  have hl : i < xs.length := by rw [h.1]; exact hi
  exact ⟨b, off, xs[i], e, hb, List.getElem?_eq_getElem hl, fun j u hu => hc i _ (List.getElem?_eq_getElem hl) j u hu⟩
end

theorem below_drewN {B : Nat} {a w : World} (h : Below B a w) (n : Nat) : Below B a (w.drewN n) := ⟨h.os, h.tape, h.output, h.size, h.block⟩

theorem bcell {W w1 : World} (hb : Below W.heap.size W w1) : (∀ b o, b < W.heap.size → w1.cell? ⟨b, o, none⟩ = W.cell? ⟨b, o, none⟩) ∧ (∀ b o, b < W.heap.size → w1.frozen? ⟨b, o, none⟩ = W.frozen? ⟨b, o, none⟩) :=
  ⟨fun b o h => hb.cell (p := ⟨b, o, none⟩) h, fun b o h => hb.frozen (p := ⟨b, o, none⟩) h⟩

theorem below_box {w wr : World} {o : Obj} (h : Below (w.heap.size + 1) (w.alloc o) wr) : Below w.heap.size w wr :=
  ((Below.refl _ _).alloc (Nat.le_refl _) _).trans (h.mono (by omega))
theorem size_box {w wr : World} {o : Obj} (h : Below (w.heap.size + 1) (w.alloc o) wr) : w.heap.size < wr.heap.size := by
  have := h.size; simp at this; omega
theorem cell_box {w wr : World} {cs : Array Value} {t : TypeId} (h : Below (w.heap.size + 1) (w.alloc (.cells cs t)) wr) (i : Nat) {v : Value} (hv : cs[i]? = some v) : wr.cell? ⟨w.heap.size, i, none⟩ = some v :=
  (h.cell (p := ⟨w.heap.size, i, none⟩) (by simp)).trans (by simp [go_sem, hv])
theorem all_take_succ {α : Type} {p : α → Bool} {l : List α} {k : Nat} {x : α} (h : l[k]? = some x) : (l.take (k + 1)).all p = ((l.take k).all p && p x) := by
  rw [List.take_add_one, h]
  simp [List.all_append]
theorem all_of_not {α : Type} {p : α → Bool} {l : List α} {k : Nat} {x : α} (h : l[k]? = some x) (hp : p x = false) : l.all p = false := by
  rw [List.all_eq_false]
  exact ⟨x, List.mem_of_getElem? h, by simp [hp]⟩

/-- What IndexFunc answers: some number that is not below 0 just if one of the elements is met. -/
def IdxEnd (W : World) (b : Bool) (e : Ending) (w' : World) : Prop := ∃ r : Int, e = .returned (.int .i64 r) ∧ -1 ≤ r ∧ decide (0 ≤ r) = b ∧ Below W.heap.size W w'
theorem any_take_succ {α : Type} {p : α → Bool} {l : List α} {k : Nat} {x : α} (h : l[k]? = some x) : (l.take (k + 1)).any p = ((l.take k).any p || p x) := by
  rw [List.take_add_one, h]
  simp [List.any_append]
theorem any_of {α : Type} {p : α → Bool} {l : List α} {k : Nat} {x : α} (h : l[k]? = some x) (hp : p x = true) : l.any p = true :=
  List.any_eq_true.2 ⟨x, List.mem_of_getElem? h, hp⟩

/-! ### The plain data -/
/-- A write of a transaction. -/
structure Wr where
  key : ByteArray
  val : ByteArray
  drop : Bool
def Wr.cells (x : Wr) : List Value := [.string x.key, .string x.val, .bool x.drop]
def Wr.v (x : Wr) : Value := .agg #[.string x.key, .string x.val, .bool x.drop]

abbrev WsAt := RowAt Wr.cells 3
theorem WsAt.cell3 {w : World} {B n i : Nat} {A : Option Addr} {ws : List Wr} (h : WsAt w B A n ws) (hi : i < n) :
    ∃ b off x, A = some ⟨b, off, none⟩ ∧ b < B ∧ ws[i]? = some x ∧ w.cell? ⟨b, off + i * 3, none⟩ = some (.string x.key) ∧ w.cell? ⟨b, off + i * 3 + 1, none⟩ = some (.string x.val) ∧ w.cell? ⟨b, off + i * 3 + 2, none⟩ = some (.bool x.drop) := by
  obtain ⟨b, off, x, e, hb, hx, hc⟩ := h.at_ hi
  exact ⟨b, off, x, e, hb, hx, hc 0 _ rfl, hc 1 _ rfl, hc 2 _ rfl⟩

def keyB (k : ByteArray) : Bool := decide (1 ≤ k.size) && decide (k.size ≤ 64)
def valB (v : ByteArray) : Bool := decide (v.size ≤ 1024)
def wrB (x : Wr) : Bool := keyB x.key && valB x.val && (!x.drop || decide (x.val.size = 0))
def txB (n : Int) (ws : List Wr) : Bool := decide (1 ≤ n) && decide (n ≤ 65536) && decide (ws.length ≤ 32) && ws.all wrB
def errOf (b : Bool) : Int := if b then 0 else 1

end Go.Proofs.Ytdcnaieieggclaa

namespace Go.Proofs.Ytdcnaieieggclaa
open Go.RowKit
set_option linter.unusedVariables false
set_option linter.unusedSimpArgs false

set_option maxHeartbeats 400000 in
theorem wrong_any (x : Wr) (w : World) :
    Calls Try.prog 62 #[x.v] w fun e w' => e = .returned (.bool (!wrB x)) ∧ Below w.heap.size w w' := by
  obtain ⟨k, v, d⟩ := x
  have hfin : ∀ (b : Bool) (w' : World), b = (!wrB ⟨k, v, d⟩) → Below w.heap.size w w' → (Ending.returned (.bool b) = .returned (.bool (!wrB ⟨k, v, d⟩)) ∧ Below w.heap.size w w') := fun b w' h h' => ⟨by rw [h], h'⟩
  have Hf := Lib.hid hfin
  clear hfin
  unfold Wr.v
  go_enter Try.func62, Try.ntmps62
  go_wp2
  all_goals go_ret
  all_goals refine Hf.out _ _ ?_ ((Below.refl _ _).alloc (Nat.le_refl _) _)
  all_goals (have nk := toList_nil k; have nv := toList_nil v; clear Hf)
  all_goals (simp only [wrB, keyB, valB, List.isEmpty_iff]; grind)

theorem key_any (k : ByteArray) (w : World) :
    Calls Try.prog 51 #[.string k] w fun e w' => e = .returned (.bool (keyB k)) ∧ w = w' := by
    go_enter Try.func51, Try.ntmps51
    go_wp2
    all_goals go_ret
    all_goals exact ⟨ret_bool (by simp only [keyB]; grind), rfl⟩

theorem val_any (k : ByteArray) (w : World) :
    Calls Try.prog 97 #[.string k] w fun e w' => e = .returned (.bool (valB k)) ∧ w = w' := by
  go_enter Try.func97, Try.ntmps97
  go_wp2
  go_ret
  exact ⟨ret_bool (by simp only [valB]; grind), rfl⟩

def numB (n : Int) : Bool := decide (1 ≤ n) && decide (n ≤ 65536)
theorem num_any (n : Int) (w : World) :
    Calls Try.prog 81 #[.int .i64 n] w fun e w' => e = .returned (.bool (numB n)) ∧ w = w' := by
    go_enter Try.func81, Try.ntmps81
    go_wp2
    all_goals go_ret
    all_goals exact ⟨ret_bool (by simp only [numB]; grind), rfl⟩

set_option maxHeartbeats 400000 in
theorem refwr_any (x : Wr) (w : World) :
    Calls Try.prog 82 #[x.v] w fun e w' => e = .returned (.bool (wrB x)) ∧ Below w.heap.size w w' := by
  obtain ⟨k, v, d⟩ := x
  have hfin : ∀ (b : Bool) (w' : World), b = (wrB ⟨k, v, d⟩) → Below w.heap.size w w' → (Ending.returned (.bool b) = .returned (.bool (wrB ⟨k, v, d⟩)) ∧ Below w.heap.size w w') := fun b w' h h' => ⟨by rw [h], h'⟩
  have Hf := Lib.hid hfin
  clear hfin
  unfold Wr.v
  go_enter Try.func82, Try.ntmps82
  go_wp2_with (first | (go_at_call 51; refine (key_any _ _).mono ?_; rintro e w' ⟨rfl, rfl⟩) | (go_at_call 97; refine (val_any _ _).mono ?_; rintro e w' ⟨rfl, rfl⟩))
  all_goals go_ret
  all_goals refine Hf.out _ _ ?_ ((Below.refl _ _).alloc (Nat.le_refl _) _)
  all_goals (clear Hf)
  all_goals (simp only [wrB] at *; grind)

end Go.Proofs.Ytdcnaieieggclaa

namespace Go.Proofs.Ytdcnaieieggclaa
open Go.RowKit
set_option linter.unusedVariables false
set_option linter.unusedSimpArgs false

set_option maxHeartbeats 400000 in
theorem refcheck_any (n : Int) (A : Option Addr) (len cap : Nat) (ws : List Wr) (w : World) (hw : WsAt w w.heap.size A len ws) :
    Calls Try.prog 70 #[.agg #[.int .i64 n, .slice A len cap]] w fun e w' => e = .returned (.int .i64 (errOf (txB n ws))) ∧ Below w.heap.size w w' := by
  have hfin : ∀ (b : Bool) (w' : World), b = txB n ws → Below w.heap.size w w' → (Ending.returned (.int .i64 (errOf b)) = .returned (.int .i64 (errOf (txB n ws))) ∧ Below w.heap.size w w') := fun b w' h h' => ⟨by rw [h], h'⟩
  have Hf := Lib.hid hfin
  have hlen := Lib.hid hw.len
  clear hfin
  go_enter Try.func70, Try.ntmps70
  go_wp2_with (first | (go_at_call 81; refine (num_any _ _).mono ?_; rintro e w' ⟨rfl, rfl⟩))
  · go_ret
    refine Hf.out false _ ?_ ((Below.refl _ _).alloc (Nat.le_refl _) _)
    have := hlen.out
    simp only [txB]; grind
  · go_loopw [3] (fun i wr => ∃ k : Nat, k ≤ len ∧ i = .int .i64 k ∧ (ws.take k).all wrB = true ∧ Below (w.heap.size + 1) (w.alloc (.cells #[.int .i64 n, .slice A len cap] 37)) wr) (fun i _ => len - (RowKit.intOf i).toNat)
    case atStart => exact ⟨0, Nat.zero_le _, rfl, rfl, Below.refl _ _⟩
    case round =>
      obtain ⟨k, hk, rfl, hall, hb⟩ := hrel
      have Hall := Lib.hid hall
      clear hall
      have hr := hw.below (below_box hb)
      have Hb := Lib.hid hb
      have hs := size_box hb
      have c0 := cell_box hb 0 rfl
      have c1 := cell_box hb 1 rfl
      clear hb
      by_cases hlt : k < len
      · obtain ⟨b, off, x, rfl, hbl, hx, x0, x1, x2⟩ := WsAt.cell3 hr hlt
        have Hx := Lib.hid hx
        clear hx
        go_wp2_with (go_at_call 82; refine (refwr_any x _).mono ?_; rintro e w' ⟨rfl, hb'⟩)
        · go_ret
          refine Hf.out false _ ?_ ((below_box Hb.out).trans (hb'.mono (by omega)))
          have := all_of_not (p := wrB) Hx.out (by simpa using ‹(!wrB x) = true›)
          simp [txB, this]
        · go_roundw
          case rel => exact ⟨k + 1, by omega, by go_num, by rw [all_take_succ Hx.out, Hall.out]; simpa using ‹(!wrB x) = false›, Hb.out.trans (hb'.mono (by omega))⟩
          case measure => simp [RowKit.intOf]; omega
      · have hkl : k = len := by omega
        go_wp2
        go_ret
        refine Hf.out true _ ?_ (below_box Hb.out)
        have h2 := Hall.out
        have h3 := hlen.out
        rw [List.take_of_length_le (by omega)] at h2
        have h4 := ‹numB n = true›; clear hw hr Hf Hb c0 c1; simp only [txB, h2, numB] at *; grind
  · go_ret
    refine Hf.out false _ ?_ ((Below.refl _ _).alloc (Nat.le_refl _) _)
    simp only [txB, numB] at *; grind
end Go.Proofs.Ytdcnaieieggclaa


namespace Go.Proofs.Ytdcnaieieggclaa
open Go.RowKit
set_option linter.unusedVariables false
set_option linter.unusedSimpArgs false


def wrongB (x : Wr) : Bool := !wrB x
theorem any_wrong (ws : List Wr) : ws.any wrongB = !ws.all wrB := by induction ws <;> simp_all [wrongB]
set_option maxHeartbeats 400000 in
theorem index_wrong (A : Option Addr) (len cap : Nat) (ws : List Wr) (w : World) (hw : WsAt w w.heap.size A len ws) (hl : len ≤ 9223372036854775807) :
    Calls Try.prog 69 #[.slice A len cap, .func (.func 62) #[] #[]] w (IdxEnd w (ws.any wrongB)) := by
  have hlen := Lib.hid hw.len
  go_enter Try.func69, Try.ntmps69
  go_wp2_with fail
  go_loopw [8] (fun i wr => ∃ k : Nat, k ≤ len ∧ i = .int .i64 k ∧ (ws.take k).any wrongB = false ∧ Below w.heap.size w wr) (fun i _ => len - (RowKit.intOf i).toNat)
  case atStart => exact ⟨0, Nat.zero_le _, rfl, rfl, Below.refl _ _⟩
  case round =>
    obtain ⟨k, hk, rfl, hany, hb⟩ := hrel
    have Hany := Lib.hid hany
    clear hany
    have hr := hw.below hb
    have Hb := Lib.hid hb
    have hs := hb.size
    clear hb
    by_cases hlt : k < len
    · obtain ⟨b, off, x, rfl, hbl, hx, x0, x1, x2⟩ := WsAt.cell3 hr hlt
      have Hx := Lib.hid hx
      clear hx
      go_wp2_with (go_at_call 62; refine (wrong_any x _).mono ?_; rintro e w' ⟨rfl, hb'⟩)
      · go_ret
        refine ⟨k, rfl, by omega, ?_, Hb.out.trans (hb'.mono (by omega))⟩
        rw [any_of (p := wrongB) Hx.out (by simpa [wrongB] using ‹(!wrB x) = true›)]
        simp
      · go_roundw
        case rel => exact ⟨k + 1, by omega, by go_num, by rw [any_take_succ Hx.out, Hany.out]; simpa [wrongB] using ‹(!wrB x) = false›, Hb.out.trans (hb'.mono (by omega))⟩
        case measure => simp [RowKit.intOf]; omega
    · have hkl : k = len := by omega
      go_wp2
      go_ret
      have h2 := Hany.out
      have h3 := hlen.out
      rw [List.take_of_length_le (by omega)] at h2
      exact ⟨-1, rfl, by omega, by rw [h2]; simp, Hb.out⟩

set_option maxHeartbeats 400000 in
theorem contains_wrong (A : Option Addr) (len cap : Nat) (ws : List Wr) (w : World) (hw : WsAt w w.heap.size A len ws) (hl : len ≤ 9223372036854775807) :
    Calls Try.prog 43 #[.slice A len cap, .func (.func 62) #[] #[]] w fun e w' => e = .returned (.bool (ws.any wrongB)) ∧ Below w.heap.size w w' := by
  have hfin : ∀ (b : Bool) (w' : World), b = ws.any wrongB → Below w.heap.size w w' → (Ending.returned (.bool b) = .returned (.bool (ws.any wrongB)) ∧ Below w.heap.size w w') := fun b w' h h' => ⟨by rw [h], h'⟩
  have Hf := Lib.hid hfin
  clear hfin
  go_enter Try.func43, Try.ntmps43
  go_wp2_with (go_at_call 69; refine (index_wrong _ _ _ ws _ hw hl).mono ?_; rintro e w' ⟨r, rfl, hr1, hr2, hb'⟩; have Hr2 := Lib.hid hr2; clear hr2)
  go_ret
  exact Hf.out _ _ (by have := Hr2.out; simpa using this) hb'

set_option maxHeartbeats 400000 in
theorem check_any (n : Int) (A : Option Addr) (len cap : Nat) (ws : List Wr) (w : World) (hw : WsAt w w.heap.size A len ws) (hl : len ≤ 9223372036854775807) :
    Calls Try.prog 30 #[.agg #[.int .i64 n, .slice A len cap]] w fun e w' => e = .returned (.int .i64 (errOf (txB n ws))) ∧ Below w.heap.size w w' := by
  have hfin : ∀ (b : Bool) (w' : World), b = txB n ws → Below w.heap.size w w' → (Ending.returned (.int .i64 (errOf b)) = .returned (.int .i64 (errOf (txB n ws))) ∧ Below w.heap.size w w') := fun b w' h h' => ⟨by rw [h], h'⟩
  have Hf := Lib.hid hfin
  have hlen := Lib.hid hw.len
  clear hfin
  have hw2 : ∀ o, WsAt (w.alloc o) (w.alloc o).heap.size A len ws := fun o => (hw.below ((Below.refl _ _).alloc (Nat.le_refl _) _)).more (by simp)
  go_enter Try.func30, Try.ntmps30
  go_wp2_with (go_at_call 43; refine (contains_wrong _ _ _ ws _ (hw2 _) hl).mono ?_; rintro e w' ⟨rfl, hb'⟩)
  all_goals go_ret
  · refine Hf.out false _ ?_ (((Below.refl _ _).alloc (Nat.le_refl _) _).trans (hb'.mono (by simp)))
    have := hlen.out; have e := any_wrong ws; clear hw hw2 Hf hb'
    simp only [txB]; grind
  · refine Hf.out true _ ?_ (((Below.refl _ _).alloc (Nat.le_refl _) _).trans (hb'.mono (by simp)))
    have := hlen.out; have e := any_wrong ws; clear hw hw2 Hf hb'
    simp only [txB]; grind
  all_goals
    refine Hf.out false _ ?_ ((Below.refl _ _).alloc (Nat.le_refl _) _)
    have := hlen.out; clear hw hw2 Hf
    simp only [txB]; grind

end Go.Proofs.Ytdcnaieieggclaa

/- From blocks and owned rows to rows that read as lists. Plain theorems over any program. -/

namespace Go.Proofs.Ytdcnaieieggclaa
open Go.RowKit
set_option linter.unusedVariables false
set_option linter.unusedSimpArgs false


theorem flat_get {α : Type} {cells : α → List Value} {size : Nat} : ∀ (xs : List α) (hs : ∀ x ∈ xs, (cells x).length = size) (i : Nat) (x : α), xs[i]? = some x → ∀ j u, (cells x)[j]? = some u → (xs.flatMap cells)[i * size + j]? = some u
  | [], _, _, _, h, _, _, _ => by simp at h
  | y :: r, hs, 0, x, h, j, u, hu => by
    simp at h; subst h
    rw [List.flatMap_cons, List.getElem?_append_left]
    · simpa using hu
    · simpa using (List.getElem?_eq_some_iff.1 hu).1
  | y :: r, hs, i + 1, x, h, j, u, hu => by
    have hy := hs y (by simp)
    rw [List.flatMap_cons, List.getElem?_append_right (by rw [hy, Nat.add_mul]; omega), hy, show (i + 1) * size + j - size = i * size + j from by rw [Nat.add_mul]; omega]
    exact flat_get r (fun z hz => hs z (by simp [hz])) i x (by simpa using h) j u hu
theorem flat_len {α : Type} {cells : α → List Value} {size : Nat} (xs : List α) (hs : ∀ x ∈ xs, (cells x).length = size) : (xs.flatMap cells).length = xs.length * size := by
  induction xs with
  | nil => simp
  | cons y r ih => rw [List.flatMap_cons, List.length_append, hs y (by simp), ih (fun x hx => hs x (by simp [hx])), List.length_cons, Nat.add_mul]; omega
/-- A block whose first cells are those of xs. -/
theorem rowAt_block {α : Type} {cells : α → List Value} {size : Nat} {w : World} {b B : Nat} {cs : Array Value} {t : TypeId} {fr : Nat × Nat} (xs : List α) (hs : ∀ x ∈ xs, (cells x).length = size)
    (h : w.heap[b]? = some (.cells cs t fr)) (hb : b < B) (hcs : ∀ (j : Nat) (u : Value), (xs.flatMap cells)[j]? = some u → cs[j]? = some u) : RowAt cells size w B (some ⟨b, 0, none⟩) xs.length xs :=
  ⟨rfl, fun _ => ⟨b, 0, rfl, hb, fun i x hx j u hu => by
    rw [cell_of_row _ _ _ cs t fr h]
    exact hcs _ _ (by have := flat_get xs hs i x hx j u hu; simpa using this)⟩⟩
/-- An owned row reads as its list. -/
theorem rowAt_own {α : Type} {cells : α → List Value} {size : Nat} {w : World} {base : Nat} {e : TypeId} {v : Value} {xs : List α} (hs : ∀ x ∈ xs, (cells x).length = size)
    (h : w.ownsRow base e size v xs.length (xs.flatMap cells)) : ∃ A cap, v = .slice A xs.length cap ∧ RowAt cells size w w.heap.size A xs.length xs ∧ (A = none → xs.length = 0 ∧ cap = 0) ∧ xs.length ≤ cap := by
  obtain ⟨h1, h2 | ⟨g, cap, cur, hv, hg, hh, hn, hc, hsz, ht⟩⟩ := h
  · obtain ⟨rfl, h0⟩ := h2
    refine ⟨none, 0, by rw [h0], ?_, fun _ => ⟨h0, rfl⟩, by omega⟩
    rw [h0]
    have : xs = [] := List.eq_nil_of_length_eq_zero h0
    subst this
    exact RowAt.nil_
  · refine ⟨_, _, hv, rowAt_block xs hs hh (Array.getElem?_eq_some_iff.1 hh).1 (fun j u hu => ?_), (fun h => by cases h), hn⟩
    rw [← ht, List.getElem?_take] at hu
    split at hu
    · simpa using hu
    · cases hu
theorem len_wr (ws : List Wr) : ∀ x ∈ ws, (Wr.cells x).length = 3 := fun _ _ => rfl
end Go.Proofs.Ytdcnaieieggclaa

namespace Go.Proofs.Ytdcnaieieggclaa
open Go.RowKit
set_option linter.unusedVariables false
set_option linter.unusedSimpArgs false

open Go.Maps
def sameKey (x y : Wr) : Bool := y.key.toList == x.key.toList
/-- The writes that count: of each key the last one. -/
def countingL : List Wr → List Wr
  | [] => []
  | x :: r => if r.any (sameKey x) then countingL r else x :: countingL r
/-- The same, of the first k. -/
def countTo (ws : List Wr) (k : Nat) : List Wr := (List.range k).filterMap fun i => match ws[i]? with | some x => if (ws.drop (i + 1)).any (sameKey x) then none else some x | none => none
theorem countTo_succ {ws : List Wr} {k : Nat} {x : Wr} (h : ws[k]? = some x) : countTo ws (k + 1) = countTo ws k ++ if (ws.drop (k + 1)).any (sameKey x) then [] else [x] := by
  unfold countTo
  rw [List.range_succ, List.filterMap_append]
  congr 1
  simp only [List.filterMap_cons, h, List.filterMap_nil]
  by_cases hb : (ws.drop (k + 1)).any (sameKey x) = true
  · rw [if_pos hb, if_pos hb]
  · rw [if_neg hb, if_neg hb]
theorem countTo_cons (x : Wr) (r : List Wr) : ∀ k, countTo (x :: r) (k + 1) = (if r.any (sameKey x) then [] else [x]) ++ countTo r k := by
  intro k
  unfold countTo
  rw [List.range_succ_eq_map, List.filterMap_cons, List.filterMap_map]
  simp only [List.getElem?_cons_zero, List.drop_succ_cons, List.drop_zero]
  by_cases h : r.any (sameKey x) = true
  · simp [h, Function.comp_def]
  · simp [h, Function.comp_def]
theorem countTo_all (ws : List Wr) : countTo ws ws.length = countingL ws := by
  induction ws with
  | nil => rfl
  | cons x r ih =>
    rw [List.length_cons, countTo_cons, ih]
    show _ = if r.any (sameKey x) then countingL r else x :: countingL r
    by_cases hb : r.any (sameKey x) = true
    · rw [if_pos hb, if_pos hb]; rfl
    · rw [if_neg hb, if_neg hb]; rfl
theorem countTo_le (ws : List Wr) (k : Nat) : (countTo ws k).length ≤ k := by
  unfold countTo
  exact Nat.le_trans (List.length_filterMap_le _ _) (by simp)
theorem info_wr : (Try.prog.info? 39).map (fun i => (i.zero, i.size, i.bytes)) = some (some (.agg #[.string ⟨#[]⟩, .string ⟨#[]⟩, .bool false]), 3, 40) := by kernel_rfl

theorem bnot_f {a b : Bool} (h : false = !a) : false = !(a || b) := by cases a <;> simp_all
theorem bnot_t {a b : Bool} (h : true = !a) : (!b) = !(a || b) := by cases a <;> simp_all
theorem ownsRow_below {w w' : World} {base : Nat} {e : TypeId} {size : Nat} {v : Value} {n : Nat} {xs : List Value} (h : w.ownsRow base e size v n xs) (hb : Below w.heap.size w w') : w'.ownsRow base e size v n xs := by
  obtain ⟨h1, h2⟩ := h
  refine ⟨h1, ?_⟩
  rcases h2 with h2 | ⟨g, cap, cur, hv, hg, hh, r⟩
  · exact Or.inl h2
  · exact Or.inr ⟨g, cap, cur, hv, hg, by rw [hb.block g (Array.getElem?_eq_some_iff.1 hh).1]; exact hh, r⟩

theorem cells_new (w : World) (cs : List Value) (e : TypeId) : ∀ (j : Nat) (u : Value), cs[j]? = some u → (w.alloc (.cells cs.toArray e)).cell? ((⟨w.heap.size, 0, none⟩ : Addr).add j) = some u := by
  intro j u hu
  rw [Addr.add_lit, Nat.zero_add, cell_of_row _ _ _ cs.toArray e (0, 0) (heap_alloc_new w _)]
  simpa using hu
theorem one_wr (x : Wr) : ∀ (u : Value), u ∈ x.cells → u.oneCell' = true := by
  intro u hu
  simp only [Wr.cells, List.mem_cons, List.not_mem_nil, or_false] at hu
  rcases hu with rfl | rfl | rfl <;> rfl
theorem below_grown_new {w w' : World} {o : Obj} {v : Value} {base n size : Nat} {e : TypeId} {xs : List Value} (h : w.ownsRow base e size v n xs) (hg : (w.alloc o).grownBy w' v.ownBlock) (hb : base ≤ w.heap.size) : Below base w w' :=
  ((Below.refl _ _).alloc hb o).grown hg (by simp; omega) (fun k hk => (h.lt k hk).1)
end Go.Proofs.Ytdcnaieieggclaa

namespace Go.Proofs.Ytdcnaieieggclaa
open Go.RowKit
set_option linter.unusedVariables false
set_option linter.unusedSimpArgs false

theorem below_two {w wr : World} {o p : Obj} (h : Below (w.heap.size + 2) ((w.alloc o).alloc p) wr) : Below w.heap.size w wr :=
  (((Below.refl _ _).alloc (Nat.le_refl _) _).alloc (by simp) _).trans (h.mono (by omega))
end Go.Proofs.Ytdcnaieieggclaa

namespace Go.Proofs.Ytdcnaieieggclaa
open Go.RowKit
set_option linter.unusedVariables false
set_option linter.unusedSimpArgs false


def spW : Wr := ⟨⟨#[115, 112, 97, 114, 101]⟩, ⟨#[]⟩, false⟩
theorem take_snoc_flat {α : Type} {cells : α → List Value} {l : List α} {k : Nat} {x : α} (h : l[k]? = some x) : (l.take (k + 1)).flatMap cells = (l.take k).flatMap cells ++ cells x := by
  rw [List.take_add_one, h]; simp
theorem blk_of_own {w : World} {base g n size : Nat} {e : TypeId} {xs : List Value} (h : w.ownsRow base e size (.slice (some ⟨g, 0, none⟩) n n) n xs) : w.heap[g]? = some (.cells xs.toArray e (0, 0)) := by
  obtain ⟨h1, h2 | ⟨g', cap, cur, hv, hg, hh, hn, hc, hsz, ht⟩⟩ := h
  · simp at h2
  · simp at hv
    obtain ⟨rfl, rfl⟩ := hv
    rw [hh]
    have : cur.toList = xs := by rw [← ht, List.take_of_length_le (by rw [Array.length_toList, hsz]; exact Nat.le_refl _)]
    rw [← this]

/-- A row of one element more, that lies in one block. -/
theorem row_of_blk {α : Type} {cells : α → List Value} {size : Nat} {w : World} {g B : Nat} {e : TypeId} {xs : List α} {sp : α} (hs : ∀ x ∈ xs ++ [sp], (cells x).length = size) (h : w.heap[g]? = some (.cells ((xs ++ [sp]).flatMap cells).toArray e (0, 0))) (hB : g < B) :
    RowAt cells size w B (some ⟨g, 0, none⟩) (xs.length + 1) (xs ++ [sp]) := by
  have := rowAt_block (B := B) (xs ++ [sp]) hs h hB (fun j u hu => by simpa using hu)
  simpa using this

set_option maxHeartbeats 1000000 in
theorem twinW_any (A : Option Addr) (len cap : Nat) (xs : List Wr) (w : World) (hw : RowAt Wr.cells 3 w w.heap.size A len xs) (hreach : len * 40 ≤ 140737488351232) :
    Calls Try.prog 68 #[.slice A len cap] w fun e w' => e = .returned (.slice (some ⟨w.heap.size, 0, none⟩) len (len + 1)) ∧ w'.heap[w.heap.size]? = some (.cells ((xs ++ [spW]).flatMap Wr.cells).toArray 39 (0, 0)) ∧ Below w.heap.size w w' := by
  have hlen := Lib.hid hw.len
  obtain ⟨i0, hi, hz0, hz1, hz2⟩ := info_parts info_wr
  go_enter Try.func68, Try.ntmps68
  go_wp2_with (at_make; refine wpList_make_own _ rfl _ _ 35 rfl w.heap.size 39 i0 _ 3 Try.underlying35 hi hz0 hz1 _ _ _ (len + 1) rfl rfl (by omega) (by rw [hz2]; omega) (by simp only [maxLen]; omega) (Nat.le_refl _) ?_; intro w1 hown1 hgrow1)
  have hs1 : w.heap.size < w1.heap.size := (hown1.lt _ rfl).2
  have hbw1 : Below w.heap.size w w1 := (Below.refl _ _).grown hgrow1 (Nat.le_refl _) (fun k hk => by cases hk)
  go_wp2_with fail
  go_loopw [3, 4] (fun v i wr => ∃ k : Nat, k ≤ len ∧ i = .int .i64 k ∧ v = .slice (some ⟨w.heap.size, 0, none⟩) k (len + 1) ∧ wr.ownsRow w.heap.size 39 3 (.slice (some ⟨w.heap.size, 0, none⟩) k (len + 1)) k ((xs.take k).flatMap Wr.cells) ∧ Below w.heap.size w wr) (fun _ i _ => len - (RowKit.intOf i).toNat)
  case atStart => exact ⟨0, Nat.zero_le _, rfl, rfl, hown1, hbw1⟩
  case round =>
    obtain ⟨k, hk, rfl, rfl, hown, hb⟩ := hrel
    have hr := hw.below hb
    have Hb := Lib.hid hb
    have hs := hb.size
    have hgl := (hown.lt _ rfl).2
    clear hb hown1 hgrow1 hbw1
    by_cases hlt : k < len
    · obtain ⟨b, off, x, rfl, hbl, hx, hxc⟩ := hr.at_ hlt
      have x0 := hxc 0 _ rfl
      have x1 := hxc 1 _ rfl
      have x2 := hxc 2 _ rfl
      simp only [Nat.add_zero] at x0
      have Hx := Lib.hid hx
      clear hx hxc
      go_wp2_with (at_builtin; refine wpList_append_fits _ rfl _ _ 35 rfl w.heap.size 39 i0 3 Try.underlying35 hi hz1 w.heap.size k (len + 1) _ rfl (hown.alloc _) ⟨wr.heap.size, 0, none⟩ 1 1 (Wr.cells x) rfl rfl (cells_new _ _ _) (one_wr x) (by omega) ?_; intro w2 hown2 hg2)
      have hbl2 := below_grown_new hown hg2 (by omega)
      refine ⟨⟨k + 1, by omega, by go_num, rfl, ?_, Hb.out.trans hbl2⟩, by simp [RowKit.intOf]; omega⟩
      rw [take_snoc_flat Hx.out]; exact hown2
    · have hkl : k = len := by omega
      subst hkl
      have htk : xs.take k = xs := List.take_of_length_le (by have := hlen.out; omega)
      rw [htk] at hown
      go_wp2_with (at_builtin; refine wpList_append_fits _ rfl _ _ 35 rfl w.heap.size 39 i0 3 Try.underlying35 hi hz1 w.heap.size k (k + 1) _ rfl (hown.alloc _) ⟨wr.heap.size, 0, none⟩ 1 1 (Wr.cells spW) rfl rfl (cells_new _ _ _) (one_wr spW) (by omega) ?_; intro w2 hown2 hg2)
      have hbl2 := below_grown_new hown hg2 (by omega)
      go_wp2_with fail
      go_ret
      exact ⟨rfl, by simpa using blk_of_own hown2, Hb.out.trans hbl2⟩

set_option maxHeartbeats 1000000 in
theorem leftW_any (g : Nat) (A : Option Addr) (len cap : Nat) (xs : List Wr) (w : World) (hg : w.heap[g]? = some (.cells ((xs ++ [spW]).flatMap Wr.cells).toArray 39 (0, 0))) (hw : RowAt Wr.cells 3 w w.heap.size A len xs) (hreach : len * 40 ≤ 140737488351232) :
    Calls Try.prog 71 #[.slice (some ⟨g, 0, none⟩) len (len + 1), .slice A len cap] w fun e w' => e = .returned (.bool true) ∧ Below w.heap.size w w' := by
  have hlen := Lib.hid hw.len
  have hgl : g < w.heap.size := (Array.getElem?_eq_some_iff.1 hg).1
  have hrow := row_of_blk (len_wr _) hg hgl
  rw [hw.len] at hrow
  have hb0 := beq_self_eq_true (len : Int)
  go_enter Try.func71, Try.ntmps71
  go_wp2_with fail
  go_loopw [5] (fun i wr => ∃ k : Nat, k ≤ len ∧ i = .int .i64 k ∧ Below w.heap.size w wr) (fun i _ => len - (RowKit.intOf i).toNat)
  case atStart => exact ⟨0, Nat.zero_le _, rfl, Below.refl _ _⟩
  case round =>
    obtain ⟨k, hk, rfl, hb⟩ := hrel
    have hr := hw.below hb
    have ht := hrow.below hb
    have Hb := Lib.hid hb
    have hs := hb.size
    clear hb
    by_cases hlt : k < len
    · obtain ⟨b, off, x, rfl, hbl, hx, hxc⟩ := hr.at_ hlt
      have x0 := hxc 0 _ rfl
      have x1 := hxc 1 _ rfl
      have x2 := hxc 2 _ rfl
      simp only [Nat.add_zero] at x0
      obtain ⟨b', off', y, he, hbl', hy, hyc⟩ := ht.at_ (show k < len + 1 by omega)
      have y0 := hyc 0 _ rfl
      have y1 := hyc 1 _ rfl
      have y2 := hyc 2 _ rfl
      simp only [Nat.add_zero] at y0
      simp only [Option.some.injEq, Addr.mk.injEq, and_true] at he
      obtain ⟨rfl, rfl⟩ := he
      have hyx : y = x := by
        rw [List.getElem?_append_left (by have := hlen.out; omega), hx] at hy
        exact (Option.some.inj hy).symm
      subst hyx
      clear hx hy hxc hyc
      simp only [Nat.zero_add] at y0 y1 y2
      go_wp2_with fail
      go_quiet (fail)
      go_wp2_with fail
      exact ⟨⟨k + 1, by omega, by go_num, below_drewN Hb.out _⟩, by simp [RowKit.intOf]; omega⟩
    · have hkl : k = len := by omega
      subst hkl
      obtain ⟨b', off', y, he, hbl', hy, hyc⟩ := ht.at_ (show k < k + 1 by omega)
      have y0 := hyc 0 _ rfl
      have y1 := hyc 1 _ rfl
      have y2 := hyc 2 _ rfl
      simp only [Nat.add_zero] at y0
      simp only [Option.some.injEq, Addr.mk.injEq, and_true] at he
      obtain ⟨rfl, rfl⟩ := he
      have hyx : y = spW := by
        rw [List.getElem?_append_right (by have := hlen.out; omega), hlen.out] at hy
        simpa using hy.symm
      subst hyx
      clear hy hyc
      simp only [Nat.zero_add, spW] at y0 y1 y2
      have hk1 : (k : Int) < (k : Int) + 1 := by omega
      go_wp2_with fail
      go_ret
      exact ⟨rfl, by first | exact Hb.out.alloc (by omega) _ | exact Hb.out⟩
end Go.Proofs.Ytdcnaieieggclaa


namespace Go.Proofs.Ytdcnaieieggclaa
open Go.RowKit
set_option linter.unusedVariables false
set_option linter.unusedSimpArgs false

def Icell (x : Int) : List Value := [.int .i64 x]
def spI : Int := 7777
theorem len_int (xs : List Int) : ∀ x ∈ xs, (Icell x).length = 1 := fun _ _ => rfl
theorem one_int (x : Int) : ∀ (u : Value), u ∈ Icell x → u.oneCell' = true := by
  intro u hu; simp only [Icell, List.mem_cons, List.not_mem_nil, or_false] at hu; rw [hu]; rfl
theorem info_int : (Try.prog.info? 3).map (fun i => (i.zero, i.size, i.bytes)) = some (some (.int .i64 0), 1, 8) := by kernel_rfl
end Go.Proofs.Ytdcnaieieggclaa

namespace Go.Proofs.Ytdcnaieieggclaa
open Go.RowKit
set_option linter.unusedVariables false
set_option linter.unusedSimpArgs false

/-- A transaction as a slice's element: its number, and its slice of writes; and these writes. -/
structure RTx where
  number : Int
  A : Option Addr
  len : Nat
  cap : Nat
  ws : List Wr
def RTx.cells (r : RTx) : List Value := [.int .i64 r.number, .slice r.A r.len r.cap]
def RTx.v (r : RTx) : Value := .agg #[.int .i64 r.number, .slice r.A r.len r.cap]
theorem len_tx (rs : List RTx) : ∀ x ∈ rs, (RTx.cells x).length = 2 := fun _ _ => rfl
theorem one_tx (x : RTx) : ∀ (u : Value), u ∈ x.cells → u.oneCell' = true := by
  intro u hu; simp only [RTx.cells, List.mem_cons, List.not_mem_nil, or_false] at hu; rcases hu with rfl | rfl <;> rfl
/-- Its writes' slice is a twin's: one more cell behind, a block of its own. -/
def RTx.twin (r : RTx) (w : World) (b : Nat) : Prop := r.A = some ⟨b, 0, none⟩ ∧ r.cap = r.len + 1 ∧ w.heap[b]? = some (.cells ((r.ws ++ [spW]).flatMap Wr.cells).toArray 39 (0, 0)) ∧ r.ws.length = r.len

set_option maxHeartbeats 1000000 in
theorem twintx_any (n : Int) (A : Option Addr) (len cap : Nat) (xs : List Wr) (w : World) (hw : WsAt w w.heap.size A len xs) (hreach : len * 40 ≤ 140737488351232) :
    Calls Try.prog 40 #[.agg #[.int .i64 n, .slice A len cap]] w fun e w' => ∃ b, w.heap.size < b ∧ b < w'.heap.size ∧ e = .returned (.agg #[.int .i64 n, .slice (some ⟨b, 0, none⟩) len (len + 1)]) ∧ w'.heap[b]? = some (.cells ((xs ++ [spW]).flatMap Wr.cells).toArray 39 (0, 0)) ∧ Below w.heap.size w w' := by
  obtain ⟨W2, hW2⟩ : ∃ W2 : World, W2 = (w.alloc (.cells #[.int .i64 n, .slice A len cap] 37)).alloc (.cells #[.int .i64 0, .slice none 0 0] 37) := ⟨_, rfl⟩
  have hz : W2.heap.size = w.heap.size + 2 := by rw [hW2]; simp
  have hB : Below w.heap.size w W2 := by rw [hW2]; exact ((Below.refl _ _).alloc (Nat.le_refl _) _).alloc (by simp) _
  have c0 : W2.cell? ⟨w.heap.size, 0, none⟩ = some (.int .i64 n) := by rw [hW2]; simp [go_sem]
  have c1 : W2.cell? ⟨w.heap.size, 1, none⟩ = some (.slice A len cap) := by rw [hW2]; simp [go_sem]
  have d0 : W2.cell? ⟨w.heap.size + 1, 0, none⟩ = some (.int .i64 0) := by rw [hW2]; simp [go_sem]
  have d1 : W2.cell? ⟨w.heap.size + 1, 1, none⟩ = some (.slice none 0 0) := by rw [hW2]; simp [go_sem]
  have f0 : W2.frozen? ⟨w.heap.size + 1, 0, none⟩ = false := by rw [hW2]; simp [go_sem]
  have f1 : W2.frozen? ⟨w.heap.size + 1, 1, none⟩ = false := by rw [hW2]; simp [go_sem]
  have hw2 := (hw.below hB).more hB.size
  go_enter Try.func40, Try.ntmps40
  go_wp2_with fail
  rw [← hW2]
  have HW2 := Lib.hid hW2
  have hw2d : WsAt W2.drew W2.drew.heap.size A len xs := hw2
  have Hz := Lib.hid hz
  have hlt : w.heap.size + 1 < W2.heap.size := by omega
  clear hW2 hz
  have hne : w.heap.size ≠ w.heap.size + 1 := by omega
  go_region_held3 (fun w' => w'.cell? ⟨w.heap.size, 0, none⟩ = some (.int .i64 n) ∧ w'.cell? ⟨w.heap.size, 1, none⟩ = some (.slice A len cap))
    (first | exact ⟨c0, c1⟩ | exact ⟨g0, g1⟩ | (refine ⟨?_, ?_⟩ <;> (rw [World.cell?_setCell_other _ _ _ _ (by simp), World.cell?_setCell_other _ _ _ _ (by simp)]; assumption)))
    (first
      | (go_at_call 68; refine (twinW_any A len cap xs _ hw2d hreach).mono ?_; rintro e w1 ⟨rfl, hblk, hb1⟩; have hbx : Below W2.heap.size W2 w1 := (Below.refl _ _).drew.trans hb1; have Hblk := Lib.hid hblk; have Hbx := Lib.hid hbx; have g0 := (hbx.cell (p := ⟨w.heap.size, 0, none⟩) (by show w.heap.size < _; omega)).trans c0; have g1 := (hbx.cell (p := ⟨w.heap.size, 1, none⟩) (by show w.heap.size < _; omega)).trans c1; have g2 := (hbx.cell (p := ⟨w.heap.size + 1, 0, none⟩) hlt).trans d0; have g3 := (hbx.cell (p := ⟨w.heap.size + 1, 1, none⟩) hlt).trans d1; have g4 := (hbx.frozen (p := ⟨w.heap.size + 1, 0, none⟩) hlt).trans f0; have g5 := (hbx.frozen (p := ⟨w.heap.size + 1, 1, none⟩) hlt).trans f1; clear hblk hb1 hbx))
  go_wp2_with fail
  have r0 : ((w1.setCell ⟨w.heap.size + 1, 0, none⟩ (.int .i64 n)).setCell ⟨w.heap.size + 1, 1, none⟩ (.slice (some ⟨W2.heap.size, 0, none⟩) len (len + 1))).cell? ⟨w.heap.size + 1, 0, none⟩ = some (.int .i64 n) := by
    rw [World.cell?_setCell_other _ _ _ _ (by simp)]; exact World.cell?_setCell_same _ _ _ g2
  have r1 : ((w1.setCell ⟨w.heap.size + 1, 0, none⟩ (.int .i64 n)).setCell ⟨w.heap.size + 1, 1, none⟩ (.slice (some ⟨W2.heap.size, 0, none⟩) len (len + 1))).cell? ⟨w.heap.size + 1, 1, none⟩ = some (.slice (some ⟨W2.heap.size, 0, none⟩) len (len + 1)) :=
    World.cell?_setCell_same _ _ _ (by rw [World.cell?_setCell_other _ _ _ _ (by simp)]; exact g3)
  have hz2 := Hz.out
  have hsz := Hbx.out.size
  have hs1 : W2.heap.size < w1.heap.size := by
    have := Hblk.out
    exact (Array.getElem?_eq_some_iff.1 this).1
  have hB2 : Below w.heap.size w w1 := hB.trans (Hbx.out.mono (by omega))
  refine bodyPost_ret (v := .agg #[.int .i64 n, .slice (some ⟨W2.heap.size, 0, none⟩) len (len + 1)]) (by simp [results, Try.results40, go_sem, r0, r1]) rfl ⟨W2.heap.size, by omega, by simp [World.setCell]; omega, rfl, ?_, (hB2.setCell (by simp) _).setCell (by simp) _⟩
  rw [Below.heap_setCell _ _ _ _ (by simp; omega), Below.heap_setCell _ _ _ _ (by simp; omega)]
  exact Hblk.out
end Go.Proofs.Ytdcnaieieggclaa


namespace Go.Proofs.Ytdcnaieieggclaa
open Go.RowKit
set_option linter.unusedVariables false
set_option linter.unusedSimpArgs false

/-- A slice of transactions that came in: its elements, and the writes of each. -/
def TxsAt (w : World) (B : Nat) (A : Option Addr) (n : Nat) (rs : List RTx) : Prop := RowAt RTx.cells 2 w B A n rs ∧ ∀ r ∈ rs, WsAt w B r.A r.len r.ws ∧ r.len * 40 ≤ 140737488351232
theorem TxsAt.below {w w' : World} {B n : Nat} {A : Option Addr} {rs : List RTx} (h : TxsAt w B A n rs) (hb : Below B w w') : TxsAt w' B A n rs := ⟨h.1.below hb, fun r hr => ⟨(h.2 r hr).1.below hb, (h.2 r hr).2⟩⟩
theorem TxsAt.more {w : World} {B B' n : Nat} {A : Option Addr} {rs : List RTx} (h : TxsAt w B A n rs) (hB : B ≤ B') : TxsAt w B' A n rs := ⟨h.1.more hB, fun r hr => ⟨(h.2 r hr).1.more hB, (h.2 r hr).2⟩⟩
theorem TxsAt.cell2 {w : World} {B n i : Nat} {A : Option Addr} {rs : List RTx} (h : TxsAt w B A n rs) (hi : i < n) :
    ∃ b off r, A = some ⟨b, off, none⟩ ∧ b < B ∧ rs[i]? = some r ∧ w.cell? ⟨b, off + i * 2, none⟩ = some (.int .i64 r.number) ∧ w.cell? ⟨b, off + i * 2 + 1, none⟩ = some (.slice r.A r.len r.cap) ∧ WsAt w B r.A r.len r.ws ∧ r.len * 40 ≤ 140737488351232 := by
  obtain ⟨b, off, r, e, hb, hx, hc⟩ := h.1.at_ hi
  obtain ⟨h1, h2⟩ := h.2 r (List.mem_of_getElem? hx)
  exact ⟨b, off, r, e, hb, hx, hc 0 _ rfl, hc 1 _ rfl, h1, h2⟩

/-- r' is r's twin in w, its writes in a block above g. -/
def TwOk (w : World) (g : Nat) (r r' : RTx) : Prop := r'.number = r.number ∧ r'.ws = r.ws ∧ r'.len = r.len ∧ ∃ b, g < b ∧ b < w.heap.size ∧ r'.twin w b
theorem TwOk.keep {w w' : World} {g : Nat} {r r' : RTx} (h : TwOk w g r r') (hz : w.heap.size ≤ w'.heap.size) (hk : ∀ b, g < b → b < w.heap.size → w'.heap[b]? = w.heap[b]?) : TwOk w' g r r' := by
  obtain ⟨h1, h2, h3, b, h4, h5, h6, h7, h8, h9⟩ := h
  exact ⟨h1, h2, h3, b, h4, by omega, h6, h7, (hk b h4 h5).trans h8, h9⟩
def TwAll (w : World) (g : Nat) (rs rs' : List RTx) : Prop := ∀ (i : Nat) (r r' : RTx), rs[i]? = some r → rs'[i]? = some r' → TwOk w g r r'
theorem TwAll.keep {w w' : World} {g : Nat} {rs rs' : List RTx} (h : TwAll w g rs rs') (hz : w.heap.size ≤ w'.heap.size) (hk : ∀ b, g < b → b < w.heap.size → w'.heap[b]? = w.heap[b]?) : TwAll w' g rs rs' :=
  fun i r r' hr hr' => (h i r r' hr hr').keep hz hk
theorem TwAll.snoc {w : World} {g : Nat} {rs rs' : List RTx} {r r' : RTx} (h : TwAll w g rs rs') (hr : rs[rs'.length]? = some r) (hok : TwOk w g r r') : TwAll w g rs (rs' ++ [r']) := by
  intro i a b ha hb
  rw [List.getElem?_append] at hb
  split at hb
  · exact h i a b ha hb
  · rename_i hi
    have hlt := (List.getElem?_eq_some_iff.1 hb).1
    simp at hlt
    have : i = rs'.length := by omega
    subst this
    rw [hr] at ha
    simp at hb ha
    subst ha hb
    exact hok
def spT : RTx := ⟨7777, none, 0, 0, []⟩
theorem info_tx : (Try.prog.info? 37).map (fun i => (i.zero, i.size, i.bytes)) = some (some (.agg #[.int .i64 0, .slice none 0 0]), 2, 32) := by kernel_rfl

set_option maxHeartbeats 1000000 in
theorem twins_any (A : Option Addr) (len cap : Nat) (rs : List RTx) (w : World) (hw : TxsAt w w.heap.size A len rs) (hreach : len * 32 ≤ 140737488351232) :
    Calls Try.prog 14 #[.slice A len cap] w fun e w' => ∃ rs', rs'.length = len ∧ e = .returned (.slice (some ⟨w.heap.size, 0, none⟩) len (len + 1)) ∧ w'.heap[w.heap.size]? = some (.cells ((rs' ++ [spT]).flatMap RTx.cells).toArray 37 (0, 0)) ∧ TwAll w' w.heap.size rs rs' ∧ Below w.heap.size w w' := by
  have hlen := Lib.hid hw.1.len
  obtain ⟨i0, hi, hz0, hz1, hz2⟩ := info_parts info_tx
  go_enter Try.func14, Try.ntmps14
  go_wp2_with (at_make; refine wpList_make_own _ rfl _ _ 22 rfl w.heap.size 37 i0 _ 2 Try.underlying22 hi hz0 hz1 _ _ _ (len + 1) rfl rfl (by omega) (by rw [hz2]; omega) (by simp only [maxLen]; omega) (Nat.le_refl _) ?_; intro w1 hown1 hgrow1)
  have hs1 : w.heap.size < w1.heap.size := (hown1.lt _ rfl).2
  have hbw1 : Below w.heap.size w w1 := (Below.refl _ _).grown hgrow1 (Nat.le_refl _) (fun k hk => by cases hk)
  go_wp2_with fail
  go_loopw [3, 4] (fun v i wr => ∃ (k : Nat) (rs' : List RTx), k ≤ len ∧ i = .int .i64 k ∧ v = .slice (some ⟨w.heap.size, 0, none⟩) k (len + 1) ∧ rs'.length = k ∧ wr.ownsRow w.heap.size 37 2 (.slice (some ⟨w.heap.size, 0, none⟩) k (len + 1)) k (rs'.flatMap RTx.cells) ∧ TwAll wr w.heap.size rs rs' ∧ Below w.heap.size w wr) (fun _ i _ => len - (RowKit.intOf i).toNat)
  case atStart => exact ⟨0, [], Nat.zero_le _, rfl, rfl, rfl, hown1, fun i r r' _ h => by simp at h, hbw1⟩
  case round =>
    obtain ⟨k, rs', hk, rfl, rfl, hl', hown, htw, hb⟩ := hrel
    have hr := hw.below hb
    have Hb := Lib.hid hb
    have Hl' := Lib.hid hl'
    have hs := hb.size
    have hgl := (hown.lt _ rfl).2
    clear hb hown1 hgrow1 hbw1 hl'
    by_cases hlt : k < len
    · obtain ⟨b, off, r, rfl, hbl, hx, x0, x1, hws, hrl⟩ := hr.cell2 hlt
      have Hx := Lib.hid hx
      have hws' := hws.more hs
      clear hx
      go_wp2_with fail
      refine (twintx_any r.number r.A r.len r.cap r.ws _ hws' hrl).mono ?_
      rintro e w2 ⟨b2, hb21, hb22, rfl, hblk, hb2⟩
      have Hblk := Lib.hid hblk
      have hown2 := ownsRow_below hown hb2
      have htw2 := htw.keep hb2.size (fun b _ hbl => hb2.block b hbl)
      have Hb2 := Lib.hid hb2
      have hs2 := hb2.size
      clear hblk hb2
      go_wp2_with (at_builtin; refine wpList_append_fits _ rfl _ _ 22 rfl w.heap.size 37 i0 2 Try.underlying22 hi hz1 w.heap.size k (len + 1) _ rfl (hown2.alloc _) ⟨w2.heap.size, 0, none⟩ 1 1 (RTx.cells ⟨r.number, some ⟨b2, 0, none⟩, r.len, r.len + 1, r.ws⟩) rfl rfl (cells_new _ _ _) (one_tx _) (by omega) ?_; intro w3 hown3 hg3)
      have hbl3 := below_grown_new hown2 hg3 (by omega)
      have hk3 : ∀ b, w.heap.size < b → b < w2.heap.size → w3.heap[b]? = w2.heap[b]? := fun b h1 h2 => (hg3.block b (by simp; omega) (by simp; omega)).trans (Below.heap_alloc _ _ _ h2)
      have hz3 : w2.heap.size ≤ w3.heap.size := by have := hg3.size; simp at this; omega
      have hws3 := (hws.len)
      refine ⟨⟨k + 1, rs' ++ [⟨r.number, some ⟨b2, 0, none⟩, r.len, r.len + 1, r.ws⟩], by omega, by go_num, rfl, by simp [Hl'.out], ?_, ?_, (Hb.out.trans (Hb2.out.mono (by omega))).trans hbl3⟩, by simp [RowKit.intOf]; omega⟩
      · rw [List.flatMap_append]; simpa using hown3
      · refine (htw2.keep hz3 hk3).snoc (r := r) (by rw [Hl'.out]; exact Hx.out) ⟨rfl, rfl, rfl, b2, by omega, by omega, rfl, rfl, ?_, hws3⟩
        rw [hk3 b2 (by omega) hb22]; exact Hblk.out
    · have hkl : k = len := by omega
      subst hkl
      go_wp2_with (at_builtin; refine wpList_append_fits _ rfl _ _ 22 rfl w.heap.size 37 i0 2 Try.underlying22 hi hz1 w.heap.size k (k + 1) _ rfl (hown.alloc _) ⟨wr.heap.size, 0, none⟩ 1 1 spT.cells rfl rfl (cells_new _ _ _) (one_tx _) (by omega) ?_; intro w2 hown2 hg2)
      have hbl2 := below_grown_new hown hg2 (by omega)
      have hk3 : ∀ b, w.heap.size < b → b < wr.heap.size → w2.heap[b]? = wr.heap[b]? := fun b h1 h2 => (hg2.block b (by simp; omega) (by simp; omega)).trans (Below.heap_alloc _ _ _ h2)
      have hz3 : wr.heap.size ≤ w2.heap.size := by have := hg2.size; simp at this; omega
      have htw3 := htw.keep hz3 hk3
      clear hk3 htw hown
      go_wp2_with fail
      go_ret
      exact ⟨rs', Hl'.out, rfl, by simpa using blk_of_own hown2, htw3, Hb.out.trans hbl2⟩

set_option maxHeartbeats 1000000 in
theorem lefttx_any (n : Int) (b : Nat) (A : Option Addr) (len cap : Nat) (xs : List Wr) (w : World) (hg : w.heap[b]? = some (.cells ((xs ++ [spW]).flatMap Wr.cells).toArray 39 (0, 0))) (hw : WsAt w w.heap.size A len xs) (hreach : len * 40 ≤ 140737488351232) :
    Calls Try.prog 47 #[.agg #[.int .i64 n, .slice (some ⟨b, 0, none⟩) len (len + 1)], .agg #[.int .i64 n, .slice A len cap]] w fun e w' => e = .returned (.bool true) ∧ Below w.heap.size w w' := by
  have hgl : b < w.heap.size := (Array.getElem?_eq_some_iff.1 hg).1
  have hg2 : ∀ o p, ((w.alloc o).alloc p).heap[b]? = some (.cells ((xs ++ [spW]).flatMap Wr.cells).toArray 39 (0, 0)) := fun o p => (Below.heap_alloc _ _ _ (by simp; omega)).trans ((Below.heap_alloc _ _ _ hgl).trans hg)
  have hw2 : ∀ o p, WsAt ((w.alloc o).alloc p) ((w.alloc o).alloc p).heap.size A len xs := fun o p => (hw.below (((Below.refl _ _).alloc (Nat.le_refl _) _).alloc (by simp) _)).more (by simp; omega)
  have Hg2 := Lib.hid hg2
  clear hg hg2
  go_enter Try.func47, Try.ntmps47
  go_wp2_with fail
  refine (leftW_any b A len cap xs _ (Hg2.out _ _) (hw2 _ _) hreach).mono ?_
  rintro e w2 ⟨rfl, hb2⟩
  go_wp2_with fail
  go_ret
  exact ⟨rfl, below_two (hb2.mono (by simp))⟩

set_option maxHeartbeats 1000000 in
theorem lefts_any (g : Nat) (A : Option Addr) (len cap : Nat) (rs rs' : List RTx) (w : World) (hl' : rs'.length = len) (hg : w.heap[g]? = some (.cells ((rs' ++ [spT]).flatMap RTx.cells).toArray 37 (0, 0))) (htw : TwAll w g rs rs') (hw : TxsAt w w.heap.size A len rs) (hreach : len * 32 ≤ 140737488351232) :
    Calls Try.prog 17 #[.slice (some ⟨g, 0, none⟩) len (len + 1), .slice A len cap] w fun e w' => e = .returned (.bool true) ∧ Below w.heap.size w w' := by
  have hgl : g < w.heap.size := (Array.getElem?_eq_some_iff.1 hg).1
  have hrow := row_of_blk (len_tx _) hg hgl
  rw [hl'] at hrow
  have hb0 := beq_self_eq_true (len : Int)
  have Hl' := Lib.hid hl'
  have Htw := Lib.hid htw
  clear hl' htw hg
  go_enter Try.func17, Try.ntmps17
  go_wp2_with fail
  go_loopw [5] (fun i wr => ∃ k : Nat, k ≤ len ∧ i = .int .i64 k ∧ Below w.heap.size w wr) (fun i _ => len - (RowKit.intOf i).toNat)
  case atStart => exact ⟨0, Nat.zero_le _, rfl, Below.refl _ _⟩
  case round =>
    obtain ⟨k, hk, rfl, hb⟩ := hrel
    have hr := hw.below hb
    have ht := hrow.below hb
    have Hb := Lib.hid hb
    have hs := hb.size
    clear hb
    by_cases hlt : k < len
    · obtain ⟨b, off, r, rfl, hbl, hx, x0, x1, hws, hrl⟩ := hr.cell2 hlt
      obtain ⟨b', off', r', he, hbl', hy, hyc⟩ := ht.at_ (show k < len + 1 by omega)
      simp only [Option.some.injEq, Addr.mk.injEq, and_true] at he
      obtain ⟨rfl, rfl⟩ := he
      rw [List.getElem?_append_left (by have := Hl'.out; omega)] at hy
      obtain ⟨e1, e2, e3, bb, h4, h5, h6, h7, h8, h9⟩ := Htw.out k r r' hx hy
      have y0 := hyc 0 _ rfl
      have y1 := hyc 1 _ rfl
      rw [e1] at y0
      rw [h6, e3, h7, e3] at y1
      rw [e2] at h8
      simp only [Nat.zero_add, Nat.add_zero] at y0 y1
      have hblk : wr.drew.heap[bb]? = _ := (Hb.out.block bb h5).trans h8
      have hwsd : WsAt wr.drew wr.drew.heap.size r.A r.len r.ws := hws.more hs
      have Hblk := Lib.hid hblk
      clear hx hy e1 e2 e3 h6 h7 h8 h9 hyc hblk
      go_wp2_with fail
      go_region_held3 (fun w' => w'.cell? ⟨b, off + k * 2, none⟩ = some (.int .i64 r.number) ∧ w'.cell? ⟨b, off + k * 2 + 1, none⟩ = some (.slice r.A r.len r.cap) ∧ w'.cell? ⟨g, k * 2, none⟩ = some (.int .i64 r.number) ∧ w'.cell? ⟨g, k * 2 + 1, none⟩ = some (.slice (some ⟨bb, 0, none⟩) r.len (r.len + 1)))
        (first | exact ⟨x0, x1, y0, y1⟩ | exact ⟨(hbx.cell (p := ⟨b, off + k * 2, none⟩) (by show b < _; omega)).trans x0, (hbx.cell (p := ⟨b, off + k * 2 + 1, none⟩) (by show b < _; omega)).trans x1, (hbx.cell (p := ⟨g, k * 2, none⟩) (by show g < _; omega)).trans y0, (hbx.cell (p := ⟨g, k * 2 + 1, none⟩) (by show g < _; omega)).trans y1⟩)
        (first | (go_at_call 47; refine (lefttx_any r.number bb r.A r.len r.cap r.ws wr.drew Hblk.out hwsd hrl).mono ?_; rintro e w1 ⟨rfl, hb1⟩; have hbx : Below wr.heap.size wr w1 := (Below.refl _ _).drew.trans hb1; have Hbx := Lib.hid hbx; clear hb1))
      go_wp2_with fail
      exact ⟨⟨k + 1, by omega, by go_num, Hb.out.trans (Hbx.out.mono hs)⟩, by simp [RowKit.intOf]; omega⟩
    · have hkl : k = len := by omega
      subst hkl
      obtain ⟨b', off', r', he, hbl', hy, hyc⟩ := ht.at_ (show k < k + 1 by omega)
      simp only [Option.some.injEq, Addr.mk.injEq, and_true] at he
      obtain ⟨rfl, rfl⟩ := he
      have hyx : r' = spT := by
        rw [List.getElem?_append_right (by have := Hl'.out; omega), Hl'.out] at hy
        simpa using hy.symm
      subst hyx
      have y0 := hyc 0 _ rfl
      have y1 := hyc 1 _ rfl
      clear hy hyc
      simp only [Nat.zero_add, Nat.add_zero, spT] at y0 y1
      have hk1 : (k : Int) < (k : Int) + 1 := by omega
      go_wp2_with fail
      go_ret
      exact ⟨rfl, Hb.out.alloc (by omega) _⟩
end Go.Proofs.Ytdcnaieieggclaa

/- Maps that the code makes and keeps: a map's block as a list of keys with their values, in the model's own order. Plain theorems over any program. -/
namespace Go.Proofs.Ytdcnaieieggclaa
open Go.RowKit
set_option linter.unusedVariables false
set_option linter.unusedSimpArgs false

open Go.MapKept
set_option linter.unusedSectionVars false
variable {K V : Type} [DecidableEq K]

def mfind (k : K) : List (K × Value) → Nat → Option (Nat × Value)
  | [], _ => none
  | (a, v) :: r, i => if a = k then some (i, v) else mfind k r (i + 1)
def mget : List (K × V) → K → Option V
  | [], _ => none
  | (a, v) :: r, k => if a = k then some v else mget r k
def mput : List (K × V) → K → V → List (K × V)
  | [], k, v => [(k, v)]
  | (a, u) :: r, k, v => if a = k then (k, v) :: r else (a, u) :: mput r k v
def mdel : List (K × V) → K → List (K × V)
  | [], _ => []
  | (a, u) :: r, k => if a = k then r else (a, u) :: mdel r k

theorem mget_mput (m : List (K × V)) (k j : K) (v : V) : mget (mput m k v) j = if k = j then some v else mget m j := by
  induction m with
  | nil => simp [mput, mget]
  | cons p r ih => obtain ⟨a, u⟩ := p; simp only [mput]; split <;> simp only [mget] <;> grind
theorem mem_keys_mput (m : List (K × V)) (k j : K) (v : V) : j ∈ (mput m k v).map (·.1) ↔ j = k ∨ j ∈ m.map (·.1) := by
  induction m with
  | nil => simp [mput]
  | cons p r ih => obtain ⟨a, u⟩ := p; simp only [mput]; split <;> simp_all <;> grind
theorem nodup_mput {m : List (K × V)} (k : K) (v : V) (h : (m.map (·.1)).Nodup) : ((mput m k v).map (·.1)).Nodup := by
  induction m with
  | nil => simp [mput]
  | cons p r ih =>
    obtain ⟨a, u⟩ := p
    simp only [List.map_cons, List.nodup_cons] at h
    simp only [mput]; split
    · subst_vars; simpa using h
    · simp only [List.map_cons, List.nodup_cons, mem_keys_mput]; exact ⟨by grind, ih h.2⟩
theorem mget_none_iff (m : List (K × V)) (k : K) : mget m k = none ↔ k ∉ m.map (·.1) := by
  induction m with
  | nil => simp [mget]
  | cons p r ih => obtain ⟨a, u⟩ := p; simp only [mget]; split <;> simp_all <;> grind
theorem mget_some_mem {m : List (K × V)} {k : K} {v : V} (h : mget m k = some v) : (k, v) ∈ m := by
  induction m with
  | nil => simp [mget] at h
  | cons p r ih => obtain ⟨a, u⟩ := p; simp only [mget] at h; split at h <;> simp_all
theorem mget_of_mem {m : List (K × V)} {k : K} {v : V} (hn : (m.map (·.1)).Nodup) (h : (k, v) ∈ m) : mget m k = some v := by
  induction m with
  | nil => simp at h
  | cons p r ih =>
    obtain ⟨a, u⟩ := p
    simp only [List.map_cons, List.nodup_cons] at hn
    simp only [mget]
    rcases List.mem_cons.1 h with h | h
    · injection h with h1 h2; subst h1 h2; simp
    · have : a ≠ k := by rintro rfl; exact hn.1 (List.mem_map.2 ⟨_, h, rfl⟩)
      rw [if_neg this]; exact ih hn.2 h
theorem mget_mdel {m : List (K × V)} (hn : (m.map (·.1)).Nodup) (k j : K) : mget (mdel m k) j = if k = j then none else mget m j := by
  induction m with
  | nil => simp [mdel, mget]
  | cons p r ih =>
    obtain ⟨a, u⟩ := p
    simp only [List.map_cons, List.nodup_cons] at hn
    simp only [mdel]; split
    · subst_vars
      by_cases h : a = j
      · subst h; rw [if_pos rfl]; exact (mget_none_iff _ _).2 hn.1
      · simp [mget, h]
    · simp only [mget, ih hn.2]; grind
theorem sub_mdel (m : List (K × V)) (k : K) : (mdel m k).Sublist m := by
  induction m with
  | nil => exact List.Sublist.slnil
  | cons p r ih => obtain ⟨a, u⟩ := p; simp only [mdel]; split; · exact List.sublist_cons_self _ _
                   · exact ih.cons_cons _
theorem nodup_mdel {m : List (K × V)} (k : K) (h : (m.map (·.1)).Nodup) : ((mdel m k).map (·.1)).Nodup := h.sublist ((sub_mdel m k).map _)
theorem length_mput (m : List (K × V)) (k : K) (v : V) : (mput m k v).length = m.length + if k ∈ m.map (·.1) then 0 else 1 := by
  induction m with
  | nil => simp [mput]
  | cons p r ih => obtain ⟨a, u⟩ := p; simp only [mput]; split <;> simp_all <;> grind
theorem length_mput_le (m : List (K × V)) (k : K) (v : V) : (mput m k v).length ≤ m.length + 1 := by rw [length_mput]; split <;> omega

theorem mfind_some {ν : V → Value} : ∀ (m : List (K × V)) {k : K} {i j : Nat} {u : Value}, mfind k (m.map fun p => (p.1, ν p.2)) i = some (j, u) →
    ∃ (t : Nat) (v : V), j = i + t ∧ u = ν v ∧ t < m.length ∧ mget m k = some v ∧ m[t]? = some (k, v) ∧ (∀ x, mput m k x = m.set t (k, x)) ∧ mdel m k = m.eraseIdx t
  | [], _, _, _, _, h => by simp [mfind] at h
  | (a, v) :: r, k, i, j, u, h => by
    simp only [List.map_cons, mfind] at h
    by_cases ha : a = k
    · rw [if_pos ha] at h
      simp only [Option.some.injEq, Prod.mk.injEq] at h
      obtain ⟨rfl, rfl⟩ := h
      subst ha
      exact ⟨0, v, rfl, rfl, by simp, by simp [mget], by simp, by simp [mput], by simp [mdel]⟩
    · rw [if_neg ha] at h
      obtain ⟨t, v', rfl, rfl, h1, h2, h3, h4, h5⟩ := mfind_some r h
      exact ⟨t + 1, v', by omega, rfl, by simpa using h1, by simp [mget, ha, h2], by simpa using h3, fun x => by simp [mput, ha, h4], by simp [mdel, ha, h5]⟩
theorem mfind_none {ν : V → Value} : ∀ (m : List (K × V)) {k : K} {i : Nat}, mfind k (m.map fun p => (p.1, ν p.2)) i = none →
    mget m k = none ∧ (∀ x, mput m k x = m ++ [(k, x)]) ∧ mdel m k = m ∧ k ∉ m.map (·.1)
  | [], _, _, _ => ⟨rfl, fun _ => rfl, rfl, by simp⟩
  | (a, v) :: r, k, i, h => by
    simp only [List.map_cons, mfind] at h
    by_cases ha : a = k
    · rw [if_pos ha] at h; cases h
    · rw [if_neg ha] at h
      obtain ⟨h1, h2, h3, h4⟩ := mfind_none r h
      exact ⟨by simp [mget, ha, h1], fun x => by simp [mput, ha, h2], by simp [mdel, ha, h3], by simp at h4 ⊢; exact ⟨fun e => ha e.symm, h4⟩⟩

/-- How a key's type behaves: κ lays keys as values, no two alike; the model finds them. -/
structure Keying (P : Program) (kt : TypeId) (κ : K → Value) : Prop where
  inj : ∀ a b, κ a = κ b → a = b
  check : ∀ e w a, (Instr.checkKey e 10000 kt (κ a)).run P w = .ok () w
  find : ∀ w k (l : List MapEntry) (m : List (K × Value)), l.map (fun e => (e.key, e.val)) = m.map (fun p => (κ p.1, p.2)) → (m.map (·.1)).Nodup → (Instr.findKey kt (κ k) l).run P w = .ok (mfind k m 0) w
  stays : ∀ w a, (Instr.keyThatStays (κ a) (κ a)).run P w = .ok (κ a) w

theorem findNow_mfind {d : TypeDesc} {κ : K → Value} (hk : ∀ a, IsKey d (κ a)) (hi : ∀ a b, κ a = κ b → a = b) (k : K) : ∀ (l : List MapEntry) (m : List (K × Value)) (i : Nat),
    l.map (fun e => (e.key, e.val)) = m.map (fun p => (κ p.1, p.2)) → Instr.findNow d (κ k) l i = some (mfind k m i)
  | [], [], _, _ => rfl
  | [], _ :: _, _, h => by simp at h
  | _ :: _, [], _, h => by simp at h
  | e :: l, (a, v) :: m, i, h => by
    simp only [List.map_cons, List.cons.injEq, Prod.mk.injEq] at h
    obtain ⟨⟨h1, h2⟩, h3⟩ := h
    obtain ⟨r, hr, hiff⟩ := sameNow_of_keys (hk k) (h1 ▸ hk a)
    cases r with
    | true =>
      have : k = a := hi _ _ ((hiff.1 rfl).trans h1)
      subst this
      simp [Instr.findNow, hr, mfind, h2]
    | false =>
      have : a ≠ k := by rintro rfl; have := hiff.2 h1.symm; cases this
      simp only [Instr.findNow, hr, mfind, if_neg this]
      exact findNow_mfind hk hi k l m (i + 1) h3
theorem keying_of {P : Program} {kt : TypeId} {d : TypeDesc} {κ : K → Value} (hd : P.underlying kt = some d) (hk : ∀ a, IsKey d (κ a)) (hi : ∀ a b, κ a = κ b → a = b) : Keying P kt κ :=
  ⟨hi, fun e w a => run_checkKey hd (hk a) e 9999, fun w k l m h _ => run_findKey hd (findNow_mfind hk hi k l m 0 h), fun w a => run_keyThatStays (hk a)⟩
theorem mfind_absent : ∀ (m : List (K × Value)) {k : K} {i : Nat}, k ∉ m.map (·.1) → mfind k m i = none
  | [], _, _, _ => rfl
  | (a, v) :: r, k, i, h => by
    simp only [List.map_cons, List.mem_cons, not_or] at h
    rw [mfind, if_neg (fun e => h.1 e.symm)]
    exact mfind_absent r h.2
theorem mfind_of_get : ∀ (m : List (K × Value)) {k : K} {i j : Nat} {v : Value}, (m.map (·.1)).Nodup → m[j]? = some (k, v) → mfind k m i = some (i + j, v)
  | [], _, _, _, _, _, h => by simp at h
  | (a, u) :: r, k, i, 0, v, _, h => by simp at h; obtain ⟨rfl, rfl⟩ := h; simp [mfind]
  | (a, u) :: r, k, i, j + 1, v, hn, h => by
    simp only [List.map_cons, List.nodup_cons] at hn
    have h' : r[j]? = some (k, v) := by simpa using h
    have hm : k ∈ r.map (·.1) := List.mem_map.2 ⟨_, List.mem_of_getElem? h', rfl⟩
    rw [mfind, if_neg (fun e : a = k => hn.1 (by rw [e]; exact hm)), mfind_of_get r hn.2 h']
    congr 2; omega
/-- .. for keys of whatever type that the model's own bundle knows. -/
theorem keying_keyed {P : Program} {kt : TypeId} {κ : K → Value} (Q : Go.Maps.Keyed P kt) (hk : ∀ a, ∃ l, keyOf P kt (κ a) = some l) (hi : ∀ a b, κ a = κ b → a = b) : Keying P kt κ :=
  ⟨hi, fun e w a => by obtain ⟨l, hl⟩ := hk a; exact Q.check w e hl, fun w k l m h hn => by
    obtain ⟨lk, hlk⟩ := hk k
    have hmem : ∀ (j : Nat) (e : MapEntry), l[j]? = some e → ∃ p : K × Value, m[j]? = some p ∧ e.key = κ p.1 ∧ e.val = p.2 := fun j e he => by
      have h1 := congrArg (fun x => x[j]?) h
      simp only [List.getElem?_map, he, Option.map_some] at h1
      cases hj : m[j]? with
      | none => rw [hj] at h1; cases h1
      | some p => rw [hj] at h1; simp only [Option.map_some, Option.some.injEq, Prod.mk.injEq] at h1; exact ⟨p, rfl, h1.1, h1.2⟩
    rcases Q.find w hlk l (fun e he => by
      obtain ⟨j, hj⟩ := List.getElem?_of_mem he
      obtain ⟨p, -, h1, -⟩ := hmem j e hj
      obtain ⟨la, hla⟩ := hk p.1
      exact ⟨la, by rw [h1]; exact hla⟩) with ⟨hr, hne⟩ | ⟨j, e, hr, hj, he⟩
    · rw [hr, mfind_absent m]
      intro hkm
      obtain ⟨p, hp, rfl⟩ := List.mem_map.1 hkm
      obtain ⟨j, hj⟩ := List.getElem?_of_mem hp
      have h1 := congrArg (fun x => x[j]?) h
      simp only [List.getElem?_map, hj, Option.map_some] at h1
      cases hlj : l[j]? with
      | none => rw [hlj] at h1; cases h1
      | some e => rw [hlj] at h1; simp only [Option.map_some, Option.some.injEq, Prod.mk.injEq] at h1; exact hne e (List.mem_of_getElem? hlj) h1.1
    · obtain ⟨p, hp, h1, h2⟩ := hmem j e hj
      have : p = (k, e.val) := Prod.ext (hi _ _ (h1.symm.trans he)) h2.symm
      rw [hr, mfind_of_get m hn (this ▸ hp), Nat.zero_add], fun w a => by obtain ⟨l, hl⟩ := hk a; exact Q.stays w hl⟩
theorem keying_string {P : Program} {kt : TypeId} (hd : P.underlying kt = some .string) : Keying P kt Value.string := keying_of hd (fun _ => trivial) (fun _ _ h => by injection h)
theorem keying_int {P : Program} {kt : TypeId} {q : IntKind} (hd : P.underlying kt = some (.int q)) : Keying P kt (Value.int q) := keying_of hd (fun _ => rfl) (fun _ _ h => by injection h)

/-- Block b of w is a map whose entries are m, in the model's order. -/
def OwnM (κ : K → Value) (ν : V → Value) (w : World) (b : Nat) (m : List (K × V)) : Prop :=
  ∃ es clock, w.heap[b]? = some (.map es clock) ∧ Stamped es clock ∧ es.toList.map (fun e => (e.key, e.val)) = m.map (fun p => (κ p.1, ν p.2))

section
variable {κ : K → Value} {ν : V → Value} {w w' : World} {b : Nat} {m : List (K × V)} {P : Program} {kt vt t : TypeId}
theorem OwnM.made (w : World) (κ : K → Value) (ν : V → Value) : OwnM κ ν (w.alloc (.map #[] 0)) w.heap.size [] := ⟨#[], 0, (MapKept.heap_alloc w _).1, stamped_empty 0, rfl⟩
theorem OwnM.lt (h : OwnM κ ν w b m) : b < w.heap.size := by obtain ⟨es, clock, hb, _⟩ := h; exact (Array.getElem?_eq_some_iff.1 hb).1
theorem OwnM.of_block (h : OwnM κ ν w b m) (hb : w'.heap[b]? = w.heap[b]?) : OwnM κ ν w' b m := by obtain ⟨es, clock, h1, h2⟩ := h; exact ⟨es, clock, hb.trans h1, h2⟩
theorem OwnM.below {B : Nat} (h : OwnM κ ν w b m) (hb : Below B w w') (hB : b < B) : OwnM κ ν w' b m := h.of_block (hb.block b hB)
theorem OwnM.grown {row : Option Nat} (h : OwnM κ ν w b m) (hg : w.grownBy w' row) (hne : some b ≠ row) : OwnM κ ν w' b m := h.of_block (hg.block b h.lt hne)
theorem OwnM.alloc (h : OwnM κ ν w b m) (o : Obj) : OwnM κ ν (w.alloc o) b m := h.of_block (Below.heap_alloc w o b h.lt)
theorem OwnM.drew (h : OwnM κ ν w b m) : OwnM κ ν w.drew b m := h
theorem OwnM.drewN (h : OwnM κ ν w b m) (n : Nat) : OwnM κ ν (w.drewN n) b m := h
theorem OwnM.setCell (h : OwnM κ ν w b m) (p : Addr) (u : Value) (hp : b ≠ p.block) : OwnM κ ν (w.setCell p u) b m := h.of_block (Below.heap_setCell w p u b hp)
theorem OwnM.nodup (h : OwnM κ ν w b m) : (m.map (·.1)).Nodup := by
  obtain ⟨es, clock, _, hs, he⟩ := h
  have h1 := hs.2.2
  have h2 : es.toList.map (·.key) = m.map (fun p => κ p.1) := by
    have := congrArg (List.map (·.1)) he
    simpa [Function.comp_def] using this
  rw [h2] at h1
  rw [show (fun p : K × V => κ p.1) = κ ∘ (fun p => p.1) from rfl, ← List.map_map] at h1
  exact List.Pairwise.of_map κ (fun a b hab e => hab (by rw [e])) h1

theorem OwnM.run_lookup (h : OwnM κ ν w b m) (hK : Keying P kt κ) (ht : P.underlying t = some (.map kt vt)) {z : Value} (hz : (zeroValue vt).run P w = .ok z w) (k : K) (ok : Bool) :
    (Instr.lookup t (.map (some b)) (κ k) ok).run P w = .ok (if ok then .tuple #[((mget m k).map ν).getD z, .bool (mget m k).isSome] else ((mget m k).map ν).getD z) w := by
  have hnd : ((m.map fun p => (p.1, ν p.2)).map (·.1)).Nodup := by rw [List.map_map]; exact h.nodup
  obtain ⟨es, clock, hb, _, he⟩ := h
  have hf := hK.find w k es.toList (m.map fun p => (p.1, ν p.2)) (by rw [he]; simp [Function.comp_def]) hnd
  unfold Instr.lookup
  simp only [Sem.run_bind, run_underlying ht, Result.andThen_ok, MapKept.run_getObj_map hb, Sem.run_pure, hK.check, hf]
  cases hq : mfind k (m.map fun p => (p.1, ν p.2)) 0 with
  | none =>
    obtain ⟨h1, _⟩ := mfind_none m hq
    simp only [hz, Sem.run_bind, Result.andThen_ok, Sem.run_pure, h1]
    cases ok <;> rfl
  | some x =>
    obtain ⟨j, u⟩ := x
    obtain ⟨t', v, -, rfl, -, h2, -⟩ := mfind_some m hq
    simp only [Sem.run_pure, Result.andThen_ok, h2]
    cases ok <;> rfl

theorem OwnM.run_update (h : OwnM κ ν w b m) (hK : Keying P kt κ) (ht : P.underlying t = some (.map kt vt)) (k : K) (v : V) :
    ∃ w', (Instr.mapUpdate t (.map (some b)) (κ k) (ν v)).run P w = .ok () w' ∧ OwnM κ ν w' b (mput m k v) ∧ w.grownBy w' (some b) := by
  have hnd : ((m.map fun p => (p.1, ν p.2)).map (·.1)).Nodup := by rw [List.map_map]; exact h.nodup
  obtain ⟨es, clock, hb, hs, he⟩ := h
  have hf := hK.find w k es.toList (m.map fun p => (p.1, ν p.2)) (by rw [he]; simp [Function.comp_def]) hnd
  have hlen : es.toList.length = m.length := by simpa using congrArg List.length he
  have hset : ∀ o : Obj, w.grownBy { w with heap := w.heap.setIfInBounds b o } (some b) := fun o =>
    ⟨rfl, rfl, rfl, by simp, fun i _ hne => (MapKept.heap_set hb).2 i (fun e => hne (by rw [e]))⟩
  unfold Instr.mapUpdate
  simp only [Sem.run_bind, run_underlying ht, Result.andThen_ok, MapKept.run_getObj_map hb, hK.check, hf]
  cases hq : mfind k (m.map fun p => (p.1, ν p.2)) 0 with
  | none =>
    obtain ⟨h1, h2, h3, h4⟩ := mfind_none m hq
    refine ⟨_, MapKept.run_setObj_map _ hb, ⟨_, _, (MapKept.heap_set hb).1, ?_, ?_⟩, hset _⟩
    · refine stamped_push hs fun x hx hxk => ?_
      have : (x.key, x.val) ∈ m.map (fun p => (κ p.1, ν p.2)) := by rw [← he]; exact List.mem_map.2 ⟨x, hx, rfl⟩
      obtain ⟨p, hp, hpe⟩ := List.mem_map.1 this
      simp only [Prod.mk.injEq] at hpe
      have : p.1 = k := hK.inj _ _ (hpe.1.trans hxk)
      exact h4 (List.mem_map.2 ⟨p, hp, this⟩)
    · rw [h2 v]; simp [he]
  | some x =>
    obtain ⟨j, u⟩ := x
    obtain ⟨t', v', rfl, rfl, hlt, h2, h3, h4, h5⟩ := mfind_some m hq
    simp only [Nat.zero_add]
    have hx : t' < es.size := by rw [← Array.length_toList, hlen]; exact hlt
    have hkey : es[t'].key = κ k := by
      have h6 : (es.toList.map (fun e => (e.key, e.val)))[t']? = some (κ k, ν v') := by rw [he]; simp [h3]
      simp [hx] at h6
      exact h6.1
    have hst := hK.stays w k
    have hgd : ((es[t']?).map (·.key)).getD (κ k) = κ k := by simp [hx, hkey]
    simp only [hgd, Sem.run_bind, hst, Result.andThen_ok]
    refine ⟨_, MapKept.run_setObj_map _ hb, ⟨_, _, (MapKept.heap_set hb).1, ?_, ?_⟩, hset _⟩
    · refine stamped_modify hs t' _ (fun _ _ => rfl) (fun e _ hget => ?_)
      have : e = es[t'] := by simpa [hx] using hget.symm
      rw [this]; exact hkey.symm
    · rw [h4 v]
      apply List.ext_getElem?
      intro i
      have hi : (es.toList.map (fun e => (e.key, e.val)))[i]? = (m.map (fun p => (κ p.1, ν p.2)))[i]? := by rw [he]
      simp only [List.getElem?_map, Array.toList_modify, List.getElem?_modify, List.getElem?_set] at hi ⊢
      by_cases hit : t' = i
      · subst hit
        simp [hx, hlt]
      · simpa [hit] using hi

theorem OwnM.run_delete (h : OwnM κ ν w b m) (hK : Keying P kt κ) (ht : P.underlying t = some (.map kt vt)) (k : K) (ts : Array TypeId) (hts : ts[0]? = some t) (ty : TypeId) :
    ∃ w', (Builtin.delete_ ts ty #[.map (some b), κ k]).run P w = .ok (.tuple #[]) w' ∧ OwnM κ ν w' b (mdel m k) ∧ w.grownBy w' (some b) := by
  have hnd : ((m.map fun p => (p.1, ν p.2)).map (·.1)).Nodup := by rw [List.map_map]; exact h.nodup
  obtain ⟨es, clock, hb, hs, he⟩ := h
  have hf := hK.find w k es.toList (m.map fun p => (p.1, ν p.2)) (by rw [he]; simp [Function.comp_def]) hnd
  have hset : ∀ o : Obj, w.grownBy { w with heap := w.heap.setIfInBounds b o } (some b) := fun o =>
    ⟨rfl, rfl, rfl, by simp, fun i _ hne => (MapKept.heap_set hb).2 i (fun e => hne (by rw [e]))⟩
  unfold Builtin.delete_
  simp only [hts, List.getElem?_toArray, List.getElem?_cons_zero, List.getElem?_cons_succ, Sem.run_bind, run_underlying ht, Result.andThen_ok, MapKept.run_getObj_map hb, hK.check, hf]
  cases hq : mfind k (m.map fun p => (p.1, ν p.2)) 0 with
  | none =>
    obtain ⟨h1, h2, h3, h4⟩ := mfind_none m hq
    refine ⟨_, by simp only [Sem.run_bind, MapKept.run_setObj_map _ hb, Result.andThen_ok, Sem.run_pure], ⟨_, _, (MapKept.heap_set hb).1, hs, by rw [h3]; exact he⟩, hset _⟩
  | some x =>
    obtain ⟨j, u⟩ := x
    obtain ⟨t', v', rfl, rfl, hlt, h2, h3, h4, h5⟩ := mfind_some m hq
    simp only [Nat.zero_add]
    refine ⟨_, by simp only [Sem.run_bind, MapKept.run_setObj_map _ hb, Result.andThen_ok, Sem.run_pure], ⟨_, _, (MapKept.heap_set hb).1, stamped_erase hs t', ?_⟩, hset _⟩
    rw [h5]
    have hlen : es.toList.length = m.length := by simpa using congrArg List.length he
    have hx : t' < es.size := by rw [← Array.length_toList, hlen]; exact hlt
    simp only [Array.eraseIdxIfInBounds, hx, ↓reduceDIte, Array.toList_eraseIdx]
    have e2 : ∀ {α β : Type} (f : α → β) (l : List α) (i : Nat), (l.eraseIdx i).map f = (l.map f).eraseIdx i := by
      intro α β f l
      induction l with
      | nil => intro i; rfl
      | cons x r ih => intro i; cases i <;> simp [ih]
    rw [e2, he, e2]
end

section
variable {κ : K → Value} {ν : V → Value} {w : World} {b : Nat} {m : List (K × V)} {P : Program} {kt vt t : TypeId}
variable {ops : Array Oper} {rest : List Oper} {o : Oper} {a : Act} {Q : Exit → Act → World → Prop}
/-- 'm[k]'. -/
theorem wpList_lookup_M (hgd : o.guard = none) (x y : Operand) (ho : o.op = .lookup t x y false) (hown : OwnM κ ν w b m) (hK : Keying P kt κ) (ht : P.underlying t = some (.map kt vt)) {z : Value} (hz : ∀ w, (zeroValue vt).run P w = .ok z w) (k : K)
    (hx : a.eval x = .map (some b)) (hy : a.eval y = κ k) (h : wpList P ops Q rest (a.put o.dst (((mget m k).map ν).getD z)) w) : wpList P ops Q (o :: rest) a w := by
  refine wpList_plain hgd fun K' hK' => ?_
  have hr := hown.run_lookup hK ht (hz w) k false
  unfold Oper.wp
  simp [execOp, ho, hx, hy, hr, Result.andThen]
  exact hK' _ _ h
/-- 'v, ok := m[k]'. -/
theorem wpList_lookup_ok_M (hgd : o.guard = none) (x y : Operand) (ho : o.op = .lookup t x y true) (hown : OwnM κ ν w b m) (hK : Keying P kt κ) (ht : P.underlying t = some (.map kt vt)) {z : Value} (hz : ∀ w, (zeroValue vt).run P w = .ok z w) (k : K)
    (hx : a.eval x = .map (some b)) (hy : a.eval y = κ k) (h : wpList P ops Q rest (a.put o.dst (.tuple #[((mget m k).map ν).getD z, .bool (mget m k).isSome])) w) : wpList P ops Q (o :: rest) a w := by
  refine wpList_plain hgd fun K' hK' => ?_
  have hr := hown.run_lookup hK ht (hz w) k true
  unfold Oper.wp
  simp [execOp, ho, hx, hy, hr, Result.andThen]
  exact hK' _ _ h
/-- 'm[k] = v'. -/
theorem wpList_update_M (hgd : o.guard = none) (x y v : Operand) (ho : o.op = .mapUpdate t x y v) (hown : OwnM κ ν w b m) (hK : Keying P kt κ) (ht : P.underlying t = some (.map kt vt)) (k : K) (u : V)
    (hx : a.eval x = .map (some b)) (hy : a.eval y = κ k) (hv : a.eval v = ν u) (h : ∀ w', OwnM κ ν w' b (mput m k u) → w.grownBy w' (some b) → wpList P ops Q rest (a.put o.dst undef) w') : wpList P ops Q (o :: rest) a w := by
  refine wpList_plain hgd fun K' hK' => ?_
  obtain ⟨w', hr, h1, h2⟩ := hown.run_update hK ht k u
  unfold Oper.wp
  simp [execOp, ho, hx, hy, hv, hr, Result.andThen]
  exact hK' _ _ (h w' h1 h2)
/-- 'delete(m, k)'. -/
theorem wpList_delete_M (hgd : o.guard = none) (x y : Operand) (kt' : TypeId) (ho : o.op = .call { callee := .builtin .delete, args := #[x, y], argTypes := #[t, kt'] }) (hown : OwnM κ ν w b m) (hK : Keying P kt κ) (ht : P.underlying t = some (.map kt vt)) (k : K)
    (hx : a.eval x = .map (some b)) (hy : a.eval y = κ k) (h : ∀ w', OwnM κ ν w' b (mdel m k) → w.grownBy w' (some b) → wpList P ops Q rest (a.put o.dst (.tuple #[])) w') : wpList P ops Q (o :: rest) a w := by
  refine wpList_plain hgd fun K' hK' => ?_
  obtain ⟨w', hr, h1, h2⟩ := hown.run_delete hK ht k #[t, kt'] rfl o.type
  unfold Oper.wp
  simp [execOp, ho, resolve, invoke, builtin, hx, hy, hr, Result.andThen]
  exact hK' _ _ (h w' h1 h2)
/-- 'len(m)'. -/
theorem wpList_len_M (hgd : o.guard = none) (x : Operand) (ho : o.op = .call { callee := .builtin .len, args := #[x], argTypes := #[t] }) (hown : OwnM κ ν w b m) (ht : P.underlying t = some (.map kt vt))
    (hx : a.eval x = .map (some b)) (h : wpList P ops Q rest (a.put o.dst (.int .i64 m.length)) w) : wpList P ops Q (o :: rest) a w := by
  refine wpList_plain hgd fun K' hK' => ?_
  obtain ⟨es, clock, hb, hs, he⟩ := hown
  have hlen : es.size = m.length := by rw [← Array.length_toList]; simpa using congrArg List.length he
  have hr : (Builtin.len_ #[t] o.type #[.map (some b)]).run P w = .ok (.int .i64 m.length) w := by
    simp [Builtin.len_, run_underlying ht, MapKept.run_getObj_map hb, hlen, Result.andThen, goInt]
  unfold Oper.wp
  simp [execOp, ho, resolve, invoke, builtin, hx, hr, Result.andThen]
  exact hK' _ _ h
end
end Go.Proofs.Ytdcnaieieggclaa


namespace Go.Proofs.Ytdcnaieieggclaa
open Go.RowKit
set_option linter.unusedVariables false
set_option linter.unusedSimpArgs false

theorem blk_set {w : World} {g : Nat} {t : TypeId} {cs : Array Value} (h : w.heap[g]? = some (.cells cs t (0, 0))) (i : Nat) (u : Value) : (w.setCell ⟨g, i, none⟩ u).heap[g]? = some (.cells (cs.setIfInBounds i u) t (0, 0)) := by
  simp [World.setCell, Array.getElem?_modify, h]
theorem blk_cell {w : World} {g : Nat} {t : TypeId} {cs : Array Value} (h : w.heap[g]? = some (.cells cs t (0, 0))) (i : Nat) : w.cell? ⟨g, i, none⟩ = cs[i]? := cell_of_row w g i cs t (0, 0) h
theorem blk_frozen {w : World} {g : Nat} {t : TypeId} {cs : Array Value} (h : w.heap[g]? = some (.cells cs t (0, 0))) (i : Nat) : w.frozen? ⟨g, i, none⟩ = false := by simp [World.frozen?, h]
theorem blk_lt {w : World} {g : Nat} {o : Obj} (h : w.heap[g]? = some o) : g < w.heap.size := (Array.getElem?_eq_some_iff.1 h).1
theorem only_of_below {a w : World} (h : Below a.heap.size a w) (row : Option Nat) : a.grownBy w row := ⟨h.os, h.tape, h.output, h.size, fun i hi _ => h.block i hi⟩
theorem only_setCell {a w : World} {g : Nat} (h : a.grownBy w (some g)) {p : Addr} (hp : p.block = g ∨ a.heap.size ≤ p.block) (u : Value) : a.grownBy (w.setCell p u) (some g) :=
  ⟨h.os, h.tape, h.output, by simpa [World.setCell] using h.size, fun i hi hne => (Below.heap_setCell w p u i (by
    rintro rfl
    rcases hp with hp | hp
    · exact hne (by rw [hp])
    · omega)).trans (h.block i hi hne)⟩

/-- What a log's check answers from some place on, 'next' the number that must come. -/
def logErr : List RTx → Int → Int
  | [], _ => 0
  | r :: rest, next => if txB r.number r.ws then (if r.number = next then logErr rest (next + 1) else 6) else 1
def turnN (n : Int) (ws : List Wr) (nx : Int) : Int := if txB n ws then (if n = nx then 0 else 6) else 1
theorem logErr_drop {rs : List RTx} {k : Nat} {r : RTx} {m : Int} (h : rs[k]? = some r) : (turnN r.number r.ws m = 0 → logErr (rs.drop k) m = logErr (rs.drop (k + 1)) (m + 1)) ∧ (turnN r.number r.ws m ≠ 0 → logErr (rs.drop k) m = turnN r.number r.ws m) := by
  have : rs.drop k = r :: rs.drop (k + 1) := by
    obtain ⟨hk, e⟩ := List.getElem?_eq_some_iff.1 h
    rw [List.drop_eq_getElem_cons hk, e]
  rw [this]
  simp only [logErr, turnN]
  constructor <;> intro h <;> split <;> simp_all
theorem only_alloc {a w : World} {row : Option Nat} (h : a.grownBy w row) (o : Obj) : a.grownBy (w.alloc o) row :=
  ⟨h.os, h.tape, h.output, Nat.le_trans h.size (by simp), fun i hi hne => (Below.heap_alloc w o i (Nat.lt_of_lt_of_le hi h.size)).trans (h.block i hi hne)⟩
theorem only_drewN {a w : World} {row : Option Nat} (h : a.grownBy w row) (n : Nat) : a.grownBy (w.drewN n) row := ⟨h.os, h.tape, h.output, h.size, h.block⟩
theorem only_trans {a b c : World} {row : Option Nat} (h : a.grownBy b row) (k : b.grownBy c row) : a.grownBy c row :=
  ⟨k.os.trans h.os, k.tape.trans h.tape, k.output.trans h.output, Nat.le_trans h.size k.size, fun i hi hne => (k.block i (Nat.lt_of_lt_of_le hi h.size) hne).trans (h.block i hi hne)⟩
theorem blk_set_alloc {w : World} {g : Nat} {t : TypeId} {cs : Array Value} (h : w.heap[g]? = some (.cells cs t (0, 0))) (i : Nat) (u : Value) (o : Obj) : ((w.setCell ⟨g, i, none⟩ u).alloc o).heap[g]? = some (.cells (cs.setIfInBounds i u) t (0, 0)) :=
  (Below.heap_alloc _ _ _ (by simpa [World.setCell] using blk_lt h)).trans (blk_set h i u)
/-- All blocks but those of X are as they were; new ones may have come. -/
structure Kept (w w' : World) (X : Nat → Prop) : Prop where
  os : w'.os = w.os
  tape : w'.tape = w.tape
  output : w'.output = w.output
  size : w.heap.size ≤ w'.heap.size
  block : ∀ k, k < w.heap.size → ¬ X k → w'.heap[k]? = w.heap[k]?
section
variable {a b c w w' : World} {X Y : Nat → Prop}
theorem Kept.refl (w : World) (X : Nat → Prop) : Kept w w X := ⟨rfl, rfl, rfl, Nat.le_refl _, fun _ _ _ => rfl⟩
theorem Kept.trans (h : Kept a b X) (k : Kept b c X) : Kept a c X :=
  ⟨k.os.trans h.os, k.tape.trans h.tape, k.output.trans h.output, Nat.le_trans h.size k.size, fun i hi hx => (k.block i (Nat.lt_of_lt_of_le hi h.size) hx).trans (h.block i hi hx)⟩
theorem Kept.mono (h : Kept a b X) (hx : ∀ k, X k → Y k) : Kept a b Y := ⟨h.os, h.tape, h.output, h.size, fun i hi hy => h.block i hi (fun hxi => hy (hx i hxi))⟩
theorem Kept.of_only {g : Nat} (h : a.grownBy b (some g)) (hx : X g) : Kept a b X := ⟨h.os, h.tape, h.output, h.size, fun i hi hn => h.block i hi (fun e => by injection e with e; subst e; exact hn hx)⟩
theorem Kept.of_below (h : Below a.heap.size a b) : Kept a b X := ⟨h.os, h.tape, h.output, h.size, fun i hi _ => h.block i hi⟩
theorem Kept.below {B : Nat} (h : Kept a b X) (hB : B ≤ a.heap.size) (hX : ∀ k, X k → B ≤ k) : Below B a b := ⟨h.os, h.tape, h.output, h.size, fun i hi => h.block i (by omega) (fun hx => by have := hX i hx; omega)⟩
theorem Kept.alloc (h : Kept a b X) (o : Obj) : Kept a (b.alloc o) X := h.trans ⟨rfl, rfl, rfl, by simp, fun k hk _ => Below.heap_alloc _ _ _ hk⟩
theorem Kept.setCell (h : Kept a b X) {p : Addr} (hp : X p.block ∨ a.heap.size ≤ p.block) (u : Value) : Kept a (b.setCell p u) X :=
  ⟨h.os, h.tape, h.output, by simpa [World.setCell] using h.size, fun k hk hx => (Below.heap_setCell _ _ _ _ (by rintro rfl; rcases hp with hp | hp; exact hx hp; omega)).trans (h.block k hk hx)⟩
theorem Kept.drewN (h : Kept a b X) (n : Nat) : Kept a (b.drewN n) X := ⟨h.os, h.tape, h.output, h.size, h.block⟩
end
theorem Kept.blk {w w' : World} {X : Nat → Prop} {g : Nat} {o : Option Obj} (h : Kept w w' X) (hg : w.heap[g]? = o) (hl : g < w.heap.size) (hx : ¬ X g) : w'.heap[g]? = o := (h.block g hl hx).trans hg
theorem Kept.cell {w w' : World} {X : Nat → Prop} (h : Kept w w' X) {g i : Nat} (hl : g < w.heap.size) (hx : ¬ X g) : w'.cell? ⟨g, i, none⟩ = w.cell? ⟨g, i, none⟩ := by
  have := h.block g hl hx
  simp only [World.cell?, this]
theorem blk_new (w : World) (o : Obj) : (w.alloc o).heap[w.heap.size]? = some o := by show (w.heap.push o)[w.heap.size]? = _; simp
theorem blk_new2 (w : World) (o p : Obj) : ((w.alloc o).alloc p).heap[w.heap.size + 1]? = some p := by simpa using blk_new (w.alloc o) p
theorem RowAt.cut {α : Type} {cells : α → List Value} {size : Nat} {w : World} {B n k cap : Nat} {A : Option Addr} {xs : List α} (h : RowAt cells size w B A n xs) (hk : k ≤ n) (hc : n ≤ cap) :
    RowAt cells size w B (if cap = k then A else A.map (·.add (k * size))) (n - k) (xs.drop k) := by
  refine ⟨by rw [List.length_drop, h.1], fun hn => ?_⟩
  obtain ⟨b, off, rfl, hb, hcell⟩ := h.2 (by omega)
  rw [if_neg (by omega)]
  refine ⟨b, off + k * size, by simp [Addr.add_lit], hb, fun i x hx j u hu => ?_⟩
  rw [List.getElem?_drop] at hx
  have := hcell _ x hx j u hu
  rw [Nat.add_mul, ← Nat.add_assoc] at this
  exact this
theorem RowAt.take_ {α : Type} {cells : α → List Value} {size : Nat} {w : World} {B n k : Nat} {A : Option Addr} {xs : List α} (h : RowAt cells size w B A n xs) (hk : k ≤ n) : RowAt cells size w B A k (xs.take k) := by
  refine ⟨by rw [List.length_take, h.1]; omega, fun hn => ?_⟩
  obtain ⟨b, off, e, hb, hx⟩ := h.2 (by omega)
  refine ⟨b, off, e, hb, fun i x hi j u hu => hx i x ?_ j u hu⟩
  have hik : i < k := by have := (List.getElem?_eq_some_iff.1 hi).1; simp at this; omega
  rwa [List.getElem?_take_of_lt hik] at hi
theorem bel_alloc {w X : World} (h : Below w.heap.size w X) (o : Obj) : Below w.heap.size w (X.alloc o) := h.alloc h.size o
theorem bel_drew {w X : World} (h : Below w.heap.size w X) : Below w.heap.size w X.drew := h.drew
theorem bel_set {w X : World} (h : Below w.heap.size w X) {b i : Nat} (hb : w.heap.size ≤ b) (u : Value) : Below w.heap.size w (X.setCell ⟨b, i, none⟩ u) := h.setCell hb u
theorem RowAt.prefix_ {α : Type} {cells : α → List Value} {size : Nat} {w : World} {B n : Nat} {A : Option Addr} {xs : List α} {sp : α} (h : RowAt cells size w B A (n + 1) (xs ++ [sp])) : RowAt cells size w B A n xs := by
  have hl : xs.length = n := by have := h.1; simp at this; exact this
  refine ⟨hl, fun hn => ?_⟩
  obtain ⟨b, off, e, hb, hc⟩ := h.2 (by omega)
  exact ⟨b, off, e, hb, fun i x hx j u hu => hc i x (by rw [List.getElem?_append_left (List.getElem?_eq_some_iff.1 hx).1]; exact hx) j u hu⟩
/-- A twin reads as transactions that came in do. -/
theorem txs_of_twin {w : World} {g : Nat} {rs rs' : List RTx} {n : Nat} (hl' : rs'.length = n) (hl : rs.length = n) (hg : w.heap[g]? = some (.cells ((rs' ++ [spT]).flatMap RTx.cells).toArray 37 (0, 0))) (htw : TwAll w g rs rs') (hrl : ∀ r ∈ rs, r.len * 40 ≤ 140737488351232) :
    TxsAt w w.heap.size (some ⟨g, 0, none⟩) n rs' := by
  have hrow := row_of_blk (len_tx _) hg (blk_lt hg)
  rw [hl'] at hrow
  refine ⟨hrow.prefix_, fun r' hr' => ?_⟩
  obtain ⟨i, hi⟩ := List.getElem?_of_mem hr'
  have hil : i < rs.length := by have := (List.getElem?_eq_some_iff.1 hi).1; omega
  obtain ⟨e1, e2, e3, b, h4, h5, h6, h7, h8, h9⟩ := htw i _ r' (List.getElem?_eq_getElem hil) hi
  have hb := row_of_blk (len_wr _) h8 h5
  rw [h9] at hb
  rw [h6]
  exact ⟨hb.prefix_, by rw [e3]; exact hrl _ (List.getElem_mem hil)⟩
theorem int_rem {a b : Nat} (h : 0 < b) : ((a : Int) % (b : Int)) = ((a % b : Nat) : Int) := by simp
theorem logErr_len {rs : List RTx} {k : Nat} {r : RTx} (h1 : logErr rs 1 = logErr (rs.drop k) ((k : Int) + 1)) (h : rs[k]? = some r) (h0 : turnN r.number r.ws ((k : Int) + 1) = 0) : (k : Int) < 65536 := by
  have : txB r.number r.ws = true ∧ r.number = (k : Int) + 1 := by
    simp only [turnN] at h0; split at h0
    · split at h0
      · exact ⟨by assumption, by assumption⟩
      · cases h0
    · cases h0
  have h2 := this.1
  simp only [txB] at h2; grind
theorem logErr_ok : ∀ {rs : List RTx} {m : Int}, logErr rs m = 0 → ∀ {k : Nat} {r : RTx}, rs[k]? = some r → txB r.number r.ws = true ∧ r.number = m + k
  | [], _, _, k, r, h => by simp at h
  | r :: rest, m, he, k, x, h => by
    simp only [logErr] at he
    split at he
    · rename_i ht
      split at he
      · rename_i hn
        cases k with
        | zero => simp at h; subst h; exact ⟨ht, by simpa using hn⟩
        | succ k =>
          have := logErr_ok (m := m + 1) he (k := k) (r := x) (by simpa using h)
          exact ⟨this.1, by rw [this.2]; omega⟩
      · cases he
    · cases he
theorem logErr_le {rs : List RTx} (h : logErr rs 1 = 0) : rs.length ≤ 65536 := by
  rcases Nat.eq_zero_or_pos rs.length with h0 | h0
  · omega
  · have hx : rs[rs.length - 1]? = some (rs[rs.length - 1]'(by omega)) := List.getElem?_eq_getElem _
    have := logErr_ok h hx
    have h1 := this.1
    rw [this.2] at h1
    simp only [txB] at h1; grind

set_option maxHeartbeats 1000000 in
theorem drop_get {α : Type} {l : List α} {k : Nat} {x : α} (h : l[k]? = some x) : l.drop k = x :: l.drop (k + 1) := by
  obtain ⟨hk, e⟩ := List.getElem?_eq_some_iff.1 h
  rw [List.drop_eq_getElem_cons hk, e]
theorem tw_same {w : World} {g : Nat} {rs rs' : List RTx} (h : TwAll w g rs rs') (hl : rs'.length = rs.length) : rs'.map (fun r => (r.number, r.ws)) = rs.map (fun r => (r.number, r.ws)) := by
  apply List.ext_getElem?
  intro i
  simp only [List.getElem?_map]
  rcases Nat.lt_or_ge i rs.length with hi | hi
  · have h1 : rs[i]? = some rs[i] := List.getElem?_eq_getElem hi
    have h2 : rs'[i]? = some (rs'[i]'(by omega)) := List.getElem?_eq_getElem _
    obtain ⟨e1, e2, -⟩ := h i _ _ h1 h2
    rw [h1, h2]; simp [e1, e2]
  · rw [List.getElem?_eq_none hi, List.getElem?_eq_none (by omega)]
end Go.Proofs.Ytdcnaieieggclaa

namespace Go.Proofs.Ytdcnaieieggclaa
open Go.RowKit
set_option linter.unusedVariables false
set_option linter.unusedSimpArgs false

theorem bel_drewN {B : Nat} {w X : World} (h : Below B w X) (n : Nat) : Below B w (X.drewN n) := ⟨h.os, h.tape, h.output, h.size, h.block⟩
theorem wsize_any (A : Option Addr) (len cap : Nat) (ws : List Wr) (w : World) (hw : WsAt w w.heap.size A len ws) (hl : len ≤ 4398046511104) (hs : ∀ x ∈ ws, x.key.size ≤ 140737488351232 ∧ x.val.size ≤ 140737488351232) :
    Calls Try.prog 67 #[.slice A len cap] w fun e w' => ∃ q : Int, e = .returned (.int .i64 q) ∧ 0 ≤ q ∧ q ≤ 1125899906842624 ∧ Below w.heap.size w w' := by
  have Hs := Lib.hid hs
  clear hs
  go_enter Try.func67, Try.ntmps67
  go_wp2_with fail
  go_loopw [3, 4] (fun n i wr => ∃ (j : Nat) (q : Int), j ≤ len ∧ i = .int .i64 j ∧ n = .int .i64 q ∧ 0 ≤ q ∧ q ≤ 1125899906842624 ∧ Below w.heap.size w wr) (fun _ i _ => len - (RowKit.intOf i).toNat)
  case atStart => exact ⟨0, len, by omega, rfl, rfl, by omega, by omega, Below.refl _ _⟩
  case round =>
    obtain ⟨j, q, hj, rfl, rfl, q0, q1, hb⟩ := hrel
    have hr := hw.below hb
    have Hb := Lib.hid hb
    clear hb
    by_cases hlt : j < len
    · obtain ⟨b, off, x, rfl, hbl, hx, x0, x1, x2⟩ := WsAt.cell3 hr hlt
      have hsz := Hs.out x (List.mem_of_getElem? hx)
      obtain ⟨z0, z1⟩ := hsz
      clear hx hr
      by_cases hq : q ≤ 1048576
      · go_wp2_with fail
        go_quiet (fail)
        go_wp2_with fail
        exact ⟨⟨j + 1, _, by omega, by go_num, rfl, by omega, by omega, bel_drewN Hb.out _⟩, by simp [RowKit.intOf]; omega⟩
      · go_wp2_with fail
        go_ret
        exact ⟨q, rfl, q0, q1, Hb.out⟩
    · go_wp2_with fail
      go_ret
      exact ⟨q, rfl, q0, q1, Hb.out⟩

theorem tsize_any (n : Int) (A : Option Addr) (len cap : Nat) (ws : List Wr) (w : World) (hw : WsAt w w.heap.size A len ws) (hl : len ≤ 4398046511104) (hs : ∀ x ∈ ws, x.key.size ≤ 140737488351232 ∧ x.val.size ≤ 140737488351232) :
    Calls Try.prog 39 #[.agg #[.int .i64 n, .slice A len cap]] w fun e w' => ∃ q : Int, e = .returned (.int .i64 q) ∧ 0 ≤ q ∧ q ≤ 1125899906842625 ∧ Below w.heap.size w w' := by
  have hw2 : ∀ o, WsAt (w.alloc o) (w.alloc o).heap.size A len ws := fun o => (hw.below ((Below.refl _ _).alloc (Nat.le_refl _) _)).more (by simp)
  go_enter Try.func39, Try.ntmps39
  go_wp2_with fail
  refine (wsize_any A len cap ws _ (hw2 _) hl hs).mono ?_
  rintro e w1 ⟨q, rfl, q0, q1, hb1⟩
  have Hb1 := Lib.hid (((Below.refl _ _).alloc (Nat.le_refl _) _).trans (hb1.mono (by simp)))
  clear hb1
  go_wp2_with fail
  go_ret
  exact ⟨_, rfl, by omega, by omega, Hb1.out⟩

theorem txsize_any (A : Option Addr) (len cap : Nat) (rs : List RTx) (w : World) (hw : TxsAt w w.heap.size A len rs) (hl : len ≤ 4398046511104) (hs : ∀ r ∈ rs, ∀ x ∈ r.ws, x.key.size ≤ 140737488351232 ∧ x.val.size ≤ 140737488351232) :
    Calls Try.prog 13 #[.slice A len cap] w fun e w' => ∃ q : Int, e = .returned (.int .i64 q) ∧ 0 ≤ q ∧ q ≤ 2251799813685248 ∧ Below w.heap.size w w' := by
  have Hs := Lib.hid hs
  clear hs
  go_enter Try.func13, Try.ntmps13
  go_wp2_with fail
  go_loopw [3, 4] (fun n i wr => ∃ (j : Nat) (q : Int), j ≤ len ∧ i = .int .i64 j ∧ n = .int .i64 q ∧ 0 ≤ q ∧ q ≤ 2251799813685248 ∧ Below w.heap.size w wr) (fun _ i _ => len - (RowKit.intOf i).toNat)
  case atStart => exact ⟨0, len, by omega, rfl, rfl, by omega, by omega, Below.refl _ _⟩
  case round =>
    obtain ⟨j, q, hj, rfl, rfl, q0, q1, hb⟩ := hrel
    have hr := hw.below hb
    have hsz := hb.size
    have Hb := Lib.hid hb
    clear hb
    by_cases hlt : j < len
    · obtain ⟨b, off, r, rfl, hbl, hx, x0, x1, hws, hrl⟩ := hr.cell2 hlt
      have hws2 := hws.more hsz
      have hsr := Hs.out r (List.mem_of_getElem? hx)
      have Hsr := Lib.hid hsr
      clear hx hr hsr
      by_cases hq : q ≤ 1048576
      · go_wp2_with fail
        refine (tsize_any r.number r.A r.len r.cap r.ws _ hws2 (by omega) Hsr.out).mono ?_
        rintro e w1 ⟨p, rfl, p0, p1, hb1⟩
        have Hb1 := Lib.hid (Hb.out.trans (hb1.mono hsz))
        clear hb1
        go_wp2_with fail
        exact ⟨⟨j + 1, _, by omega, by go_num, rfl, by omega, by omega, Hb1.out⟩, by simp [RowKit.intOf]; omega⟩
      · go_wp2_with fail
        go_ret
        exact ⟨q, rfl, q0, q1, Hb.out⟩
    · go_wp2_with fail
      go_ret
      exact ⟨q, rfl, q0, q1, Hb.out⟩

theorem beyond_any (A : Option Addr) (len cap : Nat) (l : List Int) (w : World) (hi : RowAt Icell 1 w w.heap.size A len l) (hl : len ≤ 1000) (hb : ∀ x ∈ l, 0 ≤ x ∧ x ≤ 2251799813685248) :
    Calls Try.prog 12 #[.slice A len cap] w fun e w' => ∃ b : Bool, e = .returned (.bool b) ∧ Below w.heap.size w w' := by
  have Hs := Lib.hid hb
  clear hb
  go_enter Try.func12, Try.ntmps12
  go_wp2_with fail
  go_loopw [3, 4] (fun n i wr => ∃ (j : Nat) (q : Int), j ≤ len ∧ i = .int .i64 j ∧ n = .int .i64 q ∧ 0 ≤ q ∧ q ≤ 1048576 ∧ Below w.heap.size w wr) (fun _ i _ => len - (RowKit.intOf i).toNat)
  case atStart => exact ⟨0, 0, by omega, rfl, rfl, by omega, by omega, Below.refl _ _⟩
  case round =>
    obtain ⟨j, q, hj, rfl, rfl, q0, q1, hb⟩ := hrel
    have hr := hi.below hb
    have Hb := Lib.hid hb
    clear hb
    by_cases hlt : j < len
    · obtain ⟨b, off, x, rfl, hbl, hx, hc⟩ := hr.at_ hlt
      have x0 := hc 0 _ rfl
      simp only [Nat.mul_one, Nat.add_zero] at x0
      obtain ⟨z0, z1⟩ := Hs.out x (List.mem_of_getElem? hx)
      clear hx hr hc
      by_cases hq : 1048576 < q + x
      · go_wp2_with fail
        go_ret
        exact ⟨_, rfl, Hb.out⟩
      · go_wp2_with fail
        exact ⟨⟨j + 1, _, by omega, by go_num, rfl, by omega, by omega, Hb.out⟩, by simp [RowKit.intOf]; omega⟩
    · go_wp2_with fail
      go_ret
      exact ⟨_, rfl, Hb.out⟩
end Go.Proofs.Ytdcnaieieggclaa

/- Arguments that came in, opened to the lists that they read as. Over any program. -/
namespace Go.Proofs.Ytdcnaieieggclaa
open Go.RowKit
set_option linter.unusedVariables false
set_option linter.unusedSimpArgs false

open Go.ChangeShapes Go.WideShapes Go.Deep

theorem list_of {α : Type} {Q : Nat → α → Prop} : ∀ n, (∀ i, i < n → ∃ x, Q i x) → ∃ l : List α, l.length = n ∧ ∀ i x, l[i]? = some x → Q i x
  | 0, _ => ⟨[], rfl, by simp⟩
  | n + 1, h => by
    obtain ⟨l, hl, hQ⟩ := list_of n fun i hi => h i (by omega)
    obtain ⟨x, hx⟩ := h n (by omega)
    refine ⟨l ++ [x], by simp [hl], fun i y hy => ?_⟩
    rw [List.getElem?_append] at hy
    split at hy
    · exact hQ i y hy
    · rename_i hi
      have : i = n := by
        have := (List.getElem?_eq_some_iff.1 hy).1
        simp at this; omega
      subst this
      simp [hl] at hy
      exact hy ▸ hx

theorem spot_add {a : Addr} (h : (a.add 0).spot = none) : ∃ b off, a = ⟨b, off, none⟩ := by
  obtain ⟨b, off, s⟩ := a
  have : s = none := by simpa [Addr.add] using h
  exact ⟨b, off, by rw [this]⟩

section
variable {H : Type} {enc : TypeId × Value → H} {P : Program} {w : World} {base : Nat} {spare : Nat → Bool} {held : Bool}
theorem open_slice_fields {t e : TypeId} {fs : Array Field} {fuel : Nat} {cs : List Value} {x : DataW H × List MemPlace} (ht : P.underlying t = some (.slice e)) (he : P.underlying e = some (.struct fs))
    (hone : oneCellFields P fs = true) (hC : P.cellsOf e = fs.size) (h : DataW.trod enc P w base spare held fuel t cs = some x) :
    (cs = [.slice none 0 0] ∧ x = (.nil, [])) ∨
    ∃ (a : Addr) (len cap m : Nat) (D : Nat → DataW H) (Pl : Nat → List MemPlace), cs = [.slice (some a) len cap] ∧ base ≤ a.block ∧ len ≤ cap ∧ cap ≤ maxLen ∧ m = (if spare a.block then cap else len) ∧
      x = (.slice ((List.range len).map D) ((List.range (m - len)).map fun j => D (len + j)), MemPlace.row a (m * fs.size) ++ (List.range m).flatMap Pl) ∧
      ∀ i, i < m → ∃ (ys : List (DataW H × List MemPlace)) (n : Nat), D i = .agg (ys.map (·.1)) ∧ Pl i = ys.flatMap (·.2) ∧ ys.length = fs.size ∧
        ∀ (j : Nat) (f : Field), fs[j]? = some f → ∃ (v : Value) (y : DataW H × List MemPlace), w.cell? (a.add (i * fs.size + j)) = some v ∧ ys[j]? = some y ∧ DataW.trod enc P w base spare held n f.type [v] = some y := by
  rcases open_slice ht h with h0 | ⟨a, len, cap, m, n, D, Pl, hcs, hb, hl, hm, hmm, hx, hi⟩
  · exact .inl h0
  · refine .inr ⟨a, len, cap, m, D, Pl, hcs, hb, hl, hm, hmm, by rw [hC] at hx; exact hx, fun i him => ?_⟩
    obtain ⟨cs', hc, ht'⟩ := hi i him
    rw [hC] at hc
    obtain ⟨ys, n', hn', hy, hlen, hyl, hf⟩ := DataW.trod_struct he ht'
    obtain ⟨_, hcl, hat⟩ := World.cells?_some hc
    simp only [Prod.mk.injEq] at hy
    refine ⟨ys, n', hy.1, hy.2, hyl, fun j f hj => ?_⟩
    obtain ⟨ho, hk⟩ := hone_of hone j f hj
    have hjl : j < fs.size := (Array.getElem?_eq_some_iff.1 hj).1
    have hcell := hat j hjl
    have hv : cs'[j]? = some (cs'[j]'(by omega)) := List.getElem?_eq_getElem (by omega)
    have h1 := hf j f hj
    rw [ho, hk] at h1
    have hone' : (cs'.drop j).take 1 = [cs'[j]'(by omega)] := by
      rw [List.drop_eq_getElem_cons (by omega)]
      rfl
    rw [hone'] at h1
    have hys : ys[j]? = some (ys[j]'(by omega)) := List.getElem?_eq_getElem (by omega)
    refine ⟨_, _, ?_, hys, h1.trans hys⟩
    rw [← Go.Deep.add_add, hcell, hv]

/-- What is asked of a slice of structs: each element's fields are cells that read as an x with Q x. -/
theorem open_row {α : Type} {cells : α → List Value} {Q : α → Prop} {t e : TypeId} {fs : Array Field} {fuel : Nat} {A : Option Addr} {len cap : Nat} {x : DataW H × List MemPlace} (ht : P.underlying t = some (.slice e)) (he : P.underlying e = some (.struct fs))
    (hone : oneCellFields P fs = true) (hC : P.cellsOf e = fs.size) (h0 : 0 < fs.size)
    (hel : ∀ (g : Nat → Value) (n : Nat), (∀ (j : Nat) (f : Field), fs[j]? = some f → ∃ y, DataW.trod enc P w base spare held n f.type [g j] = some y) → ∃ x, Q x ∧ (cells x).length = fs.size ∧ ∀ (j : Nat) (u : Value), (cells x)[j]? = some u → g j = u)
    (h : DataW.trod enc P w base spare held fuel t [.slice A len cap] = some x) :
    ∃ xs, RowAt cells fs.size w w.heap.size A len xs ∧ (∀ x ∈ xs, Q x) ∧ len ≤ cap ∧ cap ≤ maxLen ∧ (A = none → cap = 0) := by
  rcases open_slice_fields ht he hone hC h with ⟨hcs, -⟩ | ⟨a, len', cap', m, D, Pl, hcs, hb, hl, hm, hmm, hx, hi⟩
  · simp at hcs
    obtain ⟨rfl, rfl, rfl⟩ := hcs
    exact ⟨[], RowAt.nil_, by simp, Nat.le_refl _, by simp [maxLen], fun _ => rfl⟩
  · simp at hcs
    obtain ⟨rfl, rfl, rfl⟩ := hcs
    have hlm : len ≤ m := by rw [hmm]; split <;> omega
    have hall : ∀ i, i < len → ∃ x, Q x ∧ (cells x).length = fs.size ∧ ∀ (j : Nat) (u : Value), (cells x)[j]? = some u → w.cell? (a.add (i * fs.size + j)) = some u := by
      intro i hil
      obtain ⟨ys, n, -, -, -, hf⟩ := hi i (by omega)
      have hg : ∀ j, ∃ v, ∀ f : Field, fs[j]? = some f → w.cell? (a.add (i * fs.size + j)) = some v ∧ ∃ y, DataW.trod enc P w base spare held n f.type [v] = some y := by
        intro j
        cases hj : fs[j]? with
        | none => exact ⟨default, fun f hf => by cases hf⟩
        | some f =>
          obtain ⟨v, y, h1, -, h2⟩ := hf j f hj
          exact ⟨v, fun f' hf' => by injection hf' with e; subst e; exact ⟨h1, y, h2⟩⟩
      obtain ⟨g, hg⟩ := Classical.axiomOfChoice hg
      obtain ⟨x, hQ, hlen, hx⟩ := hel g n fun j f hj => (hg j f hj).2
      refine ⟨x, hQ, hlen, fun j u hu => ?_⟩
      have hj : j < fs.size := by rw [← hlen]; exact (List.getElem?_eq_some_iff.1 hu).1
      rw [← hx j u hu]
      exact (hg j _ (Array.getElem?_eq_getElem hj)).1
    obtain ⟨xs, hxl, hxs⟩ := list_of (Q := fun i x => Q x ∧ (cells x).length = fs.size ∧ ∀ (j : Nat) (u : Value), (cells x)[j]? = some u → w.cell? (a.add (i * fs.size + j)) = some u) len hall
    refine ⟨xs, ⟨hxl, fun hpos => ?_⟩, fun x hx => ?_, hl, hm, fun h => by cases h⟩
    · have hx0 : xs[0]? = some (xs[0]'(by omega)) := List.getElem?_eq_getElem (by omega)
      obtain ⟨-, hl0, hc0⟩ := hxs 0 _ hx0
      have hu0 := List.getElem?_eq_getElem (l := cells xs[0]) (i := 0) (by omega)
      have hcell0 := hc0 0 _ hu0
      rw [Nat.zero_mul, Nat.zero_add] at hcell0
      obtain ⟨b, off, rfl⟩ := spot_add (World.cell?_spot hcell0)
      refine ⟨b, off, rfl, ?_, fun i x hx j u hu => ?_⟩
      · have := World.block_lt_of_cell? w _ hcell0
        simpa [Addr.add] using this
      · have := (hxs i x hx).2.2 j u hu
        rwa [Addr.add_lit, ← Nat.add_assoc] at this
    · obtain ⟨i, hi⟩ := List.getElem?_of_mem hx
      exact (hxs i x hi).1

theorem shape_slice {t e : TypeId} {fuel : Nat} {v : Value} {x : DataW H × List MemPlace} (ht : P.underlying t = some (.slice e)) (h : DataW.trod enc P w base spare held fuel t [v] = some x) : ∃ A len cap, v = .slice A len cap := by
  rcases open_slice ht h with ⟨hcs, -⟩ | ⟨a, len, cap, m, n, D, Pl, hcs, -⟩
  · simp at hcs; exact ⟨_, _, _, hcs⟩
  · simp at hcs; exact ⟨_, _, _, hcs⟩
theorem open_ws {t e ts tb : TypeId} {fs : Array Field} {fuel : Nat} {A : Option Addr} {len cap : Nat} {x : DataW H × List MemPlace} (ht : P.underlying t = some (.slice e)) (he : P.underlying e = some (.struct fs))
    (hone : oneCellFields P fs = true) (hC : P.cellsOf e = 3) (hfs : fs.toList.map (·.type) = [ts, ts, tb]) (hts : P.underlying ts = some .string) (htb : P.underlying tb = some .bool)
    (h : DataW.trod enc P w base spare held fuel t [.slice A len cap] = some x) : ∃ ws, WsAt w w.heap.size A len ws ∧ len ≤ cap ∧ cap ≤ maxLen ∧ (∀ x ∈ ws, x.key.size ≤ maxLen ∧ x.val.size ≤ maxLen) := by
  have hsz : fs.size = 3 := by rw [← Array.length_toList]; simpa using congrArg List.length hfs
  have hty : ∀ (j : Nat) (f : Field), fs[j]? = some f → [ts, ts, tb][j]? = some f.type := by
    intro j f hj
    rw [← hfs, List.getElem?_map, Array.getElem?_toList, hj]; rfl
  obtain ⟨xs, h1, h2, h3, h4, h5⟩ := open_row (cells := Wr.cells) (Q := fun x : Wr => x.key.size ≤ maxLen ∧ x.val.size ≤ maxLen) ht he hone (by rw [hC, hsz]) (by omega) (fun g n hg => by
    have e0 : fs[0]? = some (fs[0]'(by omega)) := Array.getElem?_eq_getElem _
    have e1 : fs[1]? = some (fs[1]'(by omega)) := Array.getElem?_eq_getElem _
    have e2 : fs[2]? = some (fs[2]'(by omega)) := Array.getElem?_eq_getElem _
    obtain ⟨y0, hy0⟩ := hg 0 _ e0
    obtain ⟨y1, hy1⟩ := hg 1 _ e1
    obtain ⟨y2, hy2⟩ := hg 2 _ e2
    have t0 := hty 0 _ e0
    have t1 := hty 1 _ e1
    have t2 := hty 2 _ e2
    simp at t0 t1 t2
    rw [← t0] at hy0
    rw [← t1] at hy1
    rw [← t2] at hy2
    obtain ⟨k, hk, -, zk⟩ := DataW.trod_string hts hy0
    obtain ⟨v, hv, -, zv⟩ := DataW.trod_string hts hy1
    obtain ⟨d, hd, -⟩ := DataW.trod_bool htb hy2
    simp at hk hv hd
    refine ⟨⟨k, v, d⟩, ⟨zk, zv⟩, hsz.symm, fun j u hu => ?_⟩
    match j, hu with
    | 0, hu => simp [Wr.cells] at hu; rw [hk, hu]
    | 1, hu => simp [Wr.cells] at hu; rw [hv, hu]
    | 2, hu => simp [Wr.cells] at hu; rw [hd, hu]) h
  rw [hsz] at h1
  exact ⟨xs, h1, h3, h4, h2⟩
end
end Go.Proofs.Ytdcnaieieggclaa

/- Arguments that came in, opened with the bounds that the form's own reach gives: slices of structs, and slices within them. Over any program. -/
namespace Go.Proofs.Ytdcnaieieggclaa
open Go.RowKit
set_option linter.unusedVariables false
set_option linter.unusedSimpArgs false

open Go.ChangeShapes Go.WideShapes Go.Deep

theorem weightsAll_mem {H : Type} {P : Program} {e : TypeId} : ∀ {l : List (DataW H)} {d : DataW H}, d ∈ l → ∀ n ∈ d.weights P e, n ∈ DataW.weightsAll P e l
  | d' :: r, d, hd, n, hn => by
    simp only [DataW.weightsAll, List.mem_append]
    rcases List.mem_cons.1 hd with rfl | h
    · exact Or.inl hn
    · exact Or.inr (weightsAll_mem h n hn)
/-- All that a datum weighs is within the reach. -/
def Wt {H : Type} (P : Program) (t : TypeId) (d : DataW H) : Prop := ∀ n ∈ d.weights P t, n ≤ reachBytes
theorem wt_arg {H : Type} {P : Program} {ts : List TypeId} {ds : List (DataW H)} (h : (DataW.weightsEach P ts ds).all (· ≤ reachBytes) = true) {j : Nat} {t : TypeId} {d : DataW H} (ht : ts[j]? = some t) (hd : ds[j]? = some d) : Wt P t d :=
  fun n hn => by simpa using List.all_eq_true.1 h _ (DataW.weights_mem_each ht hd n hn)
theorem wt_field {H : Type} {P : Program} {t : TypeId} {fs : Array Field} {ys : List (DataW H)} (hu : P.underlying t = some (.struct fs)) (h : Wt P t (.agg ys)) {j : Nat} {f : Field} {y : DataW H} (hf : fs[j]? = some f) (hy : ys[j]? = some y) : Wt P f.type y :=
  fun n hn => h n (by
    simp only [DataW.weights, hu]
    exact DataW.weights_mem_each (j := j) (by rw [List.getElem?_map, Array.getElem?_toList, hf]; rfl) hy n hn)
theorem wt_elem {H : Type} {P : Program} {t e : TypeId} {es sp : List (DataW H)} (hu : P.underlying t = some (.slice e)) (h : Wt P t (.slice es sp)) {d : DataW H} (hd : d ∈ es) : Wt P e d :=
  fun n hn => h n (by
    simp only [DataW.weights, hu, List.mem_cons, List.mem_append]
    exact Or.inr (Or.inl (weightsAll_mem hd n hn)))
theorem wt_slice {H : Type} {P : Program} {t e : TypeId} {es sp : List (DataW H)} (hu : P.underlying t = some (.slice e)) (h : Wt P t (.slice es sp)) : (es.length + sp.length) * P.bytesOf e ≤ reachBytes :=
  h _ (by simp [DataW.weights, hu])

section
variable {H : Type} {enc : TypeId × Value → H} {P : Program} {w : World} {base : Nat} {spare : Nat → Bool} {held : Bool}
theorem open_row2 {α : Type} {cells : α → List Value} {Q : α → Prop} {t e : TypeId} {fs : Array Field} {fuel : Nat} {A : Option Addr} {len cap : Nat} {x : DataW H × List MemPlace} (ht : P.underlying t = some (.slice e)) (he : P.underlying e = some (.struct fs))
    (hone : oneCellFields P fs = true) (hC : P.cellsOf e = fs.size) (h0 : 0 < fs.size)
    (hel : ∀ (g : Nat → Value) (n : Nat), (∀ (j : Nat) (f : Field), fs[j]? = some f → ∃ y, DataW.trod enc P w base spare held n f.type [g j] = some y ∧ Wt P f.type y.1) → ∃ x, Q x ∧ (cells x).length = fs.size ∧ ∀ (j : Nat) (u : Value), (cells x)[j]? = some u → g j = u)
    (h : DataW.trod enc P w base spare held fuel t [.slice A len cap] = some x) (hwt : Wt P t x.1) :
    ∃ xs, RowAt cells fs.size w w.heap.size A len xs ∧ (∀ x ∈ xs, Q x) ∧ len ≤ cap ∧ cap ≤ maxLen ∧ (A = none → cap = 0) ∧ len * P.bytesOf e ≤ reachBytes := by
  rcases open_slice_fields ht he hone hC h with ⟨hcs, -⟩ | ⟨a, len', cap', m, D, Pl, hcs, hb, hl, hm, hmm, hx, hi⟩
  · simp at hcs
    obtain ⟨rfl, rfl, rfl⟩ := hcs
    exact ⟨[], RowAt.nil_, by simp, Nat.le_refl _, by simp [maxLen], fun _ => rfl, by simp⟩
  · simp at hcs
    obtain ⟨rfl, rfl, rfl⟩ := hcs
    have hlm : len ≤ m := by rw [hmm]; split <;> omega
    rw [hx] at hwt
    have hby : len * P.bytesOf e ≤ reachBytes := by
      have := wt_slice ht hwt
      simp only [List.length_map, List.length_range] at this
      exact Nat.le_trans (Nat.mul_le_mul_right _ (by omega)) this
    have hall : ∀ i, i < len → ∃ x, Q x ∧ (cells x).length = fs.size ∧ ∀ (j : Nat) (u : Value), (cells x)[j]? = some u → w.cell? (a.add (i * fs.size + j)) = some u := by
      intro i hil
      obtain ⟨ys, n, hD, -, -, hf⟩ := hi i (by omega)
      have hwi : Wt P e (D i) := wt_elem ht hwt (List.mem_map.2 ⟨i, List.mem_range.2 hil, rfl⟩)
      rw [hD] at hwi
      have hg : ∀ j, ∃ v, ∀ f : Field, fs[j]? = some f → w.cell? (a.add (i * fs.size + j)) = some v ∧ ∃ y, DataW.trod enc P w base spare held n f.type [v] = some y ∧ Wt P f.type y.1 := by
        intro j
        cases hj : fs[j]? with
        | none => exact ⟨default, fun f hf => by cases hf⟩
        | some f =>
          obtain ⟨v, y, h1, hy, h2⟩ := hf j f hj
          exact ⟨v, fun f' hf' => by injection hf' with e; subst e; exact ⟨h1, y, h2, wt_field he hwi hj (by rw [List.getElem?_map, hy]; rfl)⟩⟩
      obtain ⟨g, hg⟩ := Classical.axiomOfChoice hg
      obtain ⟨x, hQ, hlen, hx⟩ := hel g n fun j f hj => (hg j f hj).2
      refine ⟨x, hQ, hlen, fun j u hu => ?_⟩
      have hj : j < fs.size := by rw [← hlen]; exact (List.getElem?_eq_some_iff.1 hu).1
      rw [← hx j u hu]
      exact (hg j _ (Array.getElem?_eq_getElem hj)).1
    obtain ⟨xs, hxl, hxs⟩ := list_of (Q := fun i x => Q x ∧ (cells x).length = fs.size ∧ ∀ (j : Nat) (u : Value), (cells x)[j]? = some u → w.cell? (a.add (i * fs.size + j)) = some u) len hall
    refine ⟨xs, ⟨hxl, fun hpos => ?_⟩, fun x hx => ?_, hl, hm, (fun h => by cases h), hby⟩
    · have hx0 : xs[0]? = some (xs[0]'(by omega)) := List.getElem?_eq_getElem (by omega)
      obtain ⟨-, hl0, hc0⟩ := hxs 0 _ hx0
      have hu0 := List.getElem?_eq_getElem (l := cells xs[0]) (i := 0) (by omega)
      have hcell0 := hc0 0 _ hu0
      rw [Nat.zero_mul, Nat.zero_add] at hcell0
      obtain ⟨b, off, rfl⟩ := spot_add (World.cell?_spot hcell0)
      refine ⟨b, off, rfl, ?_, fun i x hx j u hu => ?_⟩
      · have := World.block_lt_of_cell? w _ hcell0
        simpa [Addr.add] using this
      · have := (hxs i x hx).2.2 j u hu
        rwa [Addr.add_lit, ← Nat.add_assoc] at this
    · obtain ⟨i, hi⟩ := List.getElem?_of_mem hx
      exact (hxs i x hi).1

theorem fs_types {fs : Array Field} {ts : List TypeId} (hfs : fs.toList.map (·.type) = ts) : fs.size = ts.length ∧ ∀ (j : Nat) (f : Field), fs[j]? = some f → ts[j]? = some f.type := by
  subst hfs
  exact ⟨by simp, fun j f hj => by rw [List.getElem?_map, Array.getElem?_toList, hj]; rfl⟩
theorem fs_at {fs : Array Field} {ts : List TypeId} (hfs : fs.toList.map (·.type) = ts) (j : Nat) {t : TypeId} (ht : ts[j]? = some t) : ∃ f, fs[j]? = some f ∧ f.type = t := by
  obtain ⟨h1, h2⟩ := fs_types hfs
  have hj : j < fs.size := by rw [h1]; exact (List.getElem?_eq_some_iff.1 ht).1
  have e : fs[j]? = some fs[j] := Array.getElem?_eq_getElem hj
  exact ⟨_, e, by have := h2 j _ e; rw [ht] at this; exact (Option.some.inj this).symm⟩

theorem wt_string {t : TypeId} {s : ByteArray} (h : Wt P t (.lit (.string s.data.toList) : DataW H)) : s.size ≤ 140737488351232 := by
  have := h s.data.toList.length (by simp [DataW.weights])
  simp [reachBytes] at this
  exact this
theorem open_ws2 {t e ts tb : TypeId} {fs : Array Field} {fuel : Nat} {A : Option Addr} {len cap : Nat} {x : DataW H × List MemPlace} (ht : P.underlying t = some (.slice e)) (he : P.underlying e = some (.struct fs))
    (hone : oneCellFields P fs = true) (hC : P.cellsOf e = 3) (hB : P.bytesOf e = 40) (hfs : fs.toList.map (·.type) = [ts, ts, tb]) (hts : P.underlying ts = some .string) (htb : P.underlying tb = some .bool)
    (h : DataW.trod enc P w base spare held fuel t [.slice A len cap] = some x) (hwt : Wt P t x.1) : ∃ ws, WsAt w w.heap.size A len ws ∧ len ≤ cap ∧ len * 40 ≤ 140737488351232 ∧ (∀ x ∈ ws, x.key.size ≤ 140737488351232 ∧ x.val.size ≤ 140737488351232) := by
  have hsz : fs.size = 3 := (fs_types hfs).1
  obtain ⟨f0, e0, g0⟩ := fs_at hfs 0 rfl
  obtain ⟨f1, e1, g1⟩ := fs_at hfs 1 rfl
  obtain ⟨f2, e2, g2⟩ := fs_at hfs 2 rfl
  obtain ⟨xs, h1, h2, h3, h4, h5, h6⟩ := open_row2 (cells := Wr.cells) (Q := fun x : Wr => x.key.size ≤ 140737488351232 ∧ x.val.size ≤ 140737488351232) ht he hone (by rw [hC, hsz]) (by omega) (fun g n hg => by
    obtain ⟨y0, hy0, w0⟩ := hg 0 _ e0
    obtain ⟨y1, hy1, w1⟩ := hg 1 _ e1
    obtain ⟨y2, hy2, -⟩ := hg 2 _ e2
    rw [g0] at hy0 w0
    rw [g1] at hy1 w1
    rw [g2] at hy2
    obtain ⟨k, hk, ek, -⟩ := DataW.trod_string hts hy0
    obtain ⟨v, hv, ev, -⟩ := DataW.trod_string hts hy1
    rw [ek] at w0
    rw [ev] at w1
    have zk := wt_string w0
    have zv := wt_string w1
    obtain ⟨d, hd, -⟩ := DataW.trod_bool htb hy2
    simp at hk hv hd
    refine ⟨⟨k, v, d⟩, ⟨zk, zv⟩, hsz.symm, fun j u hu => ?_⟩
    match j, hu with
    | 0, hu => simp [Wr.cells] at hu; rw [hk, hu]
    | 1, hu => simp [Wr.cells] at hu; rw [hv, hu]
    | 2, hu => simp [Wr.cells] at hu; rw [hd, hu]) h hwt
  rw [hsz] at h1
  rw [hB] at h6
  exact ⟨xs, h1, h3, h6, h2⟩

/-- A slice of transactions that came in. -/
theorem open_txs {t e ti tw ew ts tb : TypeId} {fs fw : Array Field} {fuel : Nat} {A : Option Addr} {len cap : Nat} {x : DataW H × List MemPlace} (ht : P.underlying t = some (.slice e)) (he : P.underlying e = some (.struct fs))
    (hone : oneCellFields P fs = true) (hC : P.cellsOf e = 2) (hB : P.bytesOf e = 32) (hfs : fs.toList.map (·.type) = [ti, tw]) (hti : P.underlying ti = some (.int .i64)) (htw : P.underlying tw = some (.slice ew)) (hew : P.underlying ew = some (.struct fw))
    (honew : oneCellFields P fw = true) (hCw : P.cellsOf ew = 3) (hBw : P.bytesOf ew = 40) (hfw : fw.toList.map (·.type) = [ts, ts, tb]) (hts : P.underlying ts = some .string) (htb : P.underlying tb = some .bool)
    (h : DataW.trod enc P w base spare held fuel t [.slice A len cap] = some x) (hwt : Wt P t x.1) : ∃ rs, TxsAt w w.heap.size A len rs ∧ len ≤ cap ∧ len * 32 ≤ 140737488351232 ∧ (∀ r ∈ rs, ((Lit.int .i64 r.number).wf = true ∧ r.len ≤ r.cap) ∧ ∀ x ∈ r.ws, x.key.size ≤ 140737488351232 ∧ x.val.size ≤ 140737488351232) := by
  have hsz : fs.size = 2 := (fs_types hfs).1
  obtain ⟨f0, e0, g0⟩ := fs_at hfs 0 rfl
  obtain ⟨f1, e1, g1⟩ := fs_at hfs 1 rfl
  obtain ⟨xs, h1, h2, h3, h4, h5, h6⟩ := open_row2 (cells := RTx.cells) (Q := fun r : RTx => (WsAt w w.heap.size r.A r.len r.ws ∧ r.len * 40 ≤ 140737488351232) ∧ ((Lit.int .i64 r.number).wf = true ∧ r.len ≤ r.cap) ∧ ∀ x ∈ r.ws, x.key.size ≤ 140737488351232 ∧ x.val.size ≤ 140737488351232) ht he hone (by rw [hC, hsz]) (by omega) (fun g n hg => by
    obtain ⟨y0, hy0, -⟩ := hg 0 _ e0
    obtain ⟨y1, hy1, w1⟩ := hg 1 _ e1
    rw [g0] at hy0
    rw [g1] at hy1 w1
    obtain ⟨k, hk, -, wk⟩ := DataW.trod_int hti hy0
    obtain ⟨A', len', cap', hv⟩ := shape_slice htw hy1
    rw [hv] at hy1
    obtain ⟨ws, hws, hlc, hl40, hwz⟩ := open_ws2 htw hew honew hCw hBw hfw hts htb hy1 w1
    simp at hk
    refine ⟨⟨k, A', len', cap', ws⟩, ⟨⟨hws, hl40⟩, ⟨wk, hlc⟩, hwz⟩, hsz.symm, fun j u hu => ?_⟩
    match j, hu with
    | 0, hu => simp [RTx.cells] at hu; rw [hk, hu]
    | 1, hu => simp [RTx.cells] at hu; rw [hv, hu]) h hwt
  rw [hsz] at h1
  rw [hB] at h6
  exact ⟨xs, ⟨h1, fun r hr => (h2 r hr).1⟩, h3, h6, fun r hr => (h2 r hr).2⟩

/-- A slice of ints that came in. -/
theorem open_is {t e : TypeId} {fuel : Nat} {A : Option Addr} {len cap : Nat} {x : DataW H × List MemPlace} (ht : P.underlying t = some (.slice e)) (he : P.underlying e = some (.int .i64)) (hC : P.cellsOf e = 1) (hB : P.bytesOf e = 8)
    (h : DataW.trod enc P w base spare held fuel t [.slice A len cap] = some x) (hwt : Wt P t x.1) : ∃ l : List Int, RowAt Icell 1 w w.heap.size A len l ∧ len ≤ cap ∧ len * 8 ≤ 140737488351232 ∧ (∀ n ∈ l, (Lit.int .i64 n).wf = true) := by
  rcases open_ints ht he hC h with ⟨hcs, hx⟩ | ⟨a, len', cap', zs, hcs, hb, hl, hm, hz, hx, hcell, hwz⟩
  · simp at hcs
    obtain ⟨rfl, rfl, rfl⟩ := hcs
    exact ⟨[], RowAt.nil_, Nat.le_refl _, by simp, by simp⟩
  · simp at hcs
    obtain ⟨rfl, rfl, rfl⟩ := hcs
    have hby : len * 8 ≤ 140737488351232 := by
      rw [hx] at hwt
      have := wt_slice ht hwt
      rw [hB] at this
      simp only [lits, List.length_map, List.length_take, List.length_drop, reachBytes] at this
      split at hz <;> omega
    have hlz : len ≤ zs.length := by rw [hz]; split <;> omega
    refine ⟨zs.take len, ⟨by simp; omega, fun hpos => ?_⟩, hl, hby, fun n hn => hwz n (List.mem_of_mem_take hn)⟩
    have h0 := hcell 0 (by omega)
    obtain ⟨b, off, rfl⟩ := spot_add (World.cell?_spot h0)
    refine ⟨b, off, rfl, by simpa [Addr.add] using World.block_lt_of_cell? w _ h0, fun i x hx j u hu => ?_⟩
    have hi : i < len := by have := (List.getElem?_eq_some_iff.1 hx).1; simp at this; omega
    have h1 := hcell i (by omega)
    rw [List.getElem?_take_of_lt hi] at hx
    match j, hu with
    | 0, hu =>
      simp [Icell] at hu
      rw [Addr.add_lit] at h1
      simp only [Nat.mul_one, Nat.add_zero]
      rw [h1, ← hu]
      simp [List.getD, hx]
end
end Go.Proofs.Ytdcnaieieggclaa


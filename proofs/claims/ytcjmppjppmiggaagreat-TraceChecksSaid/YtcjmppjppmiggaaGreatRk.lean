/- XRk: out of XT1 XT2 XT3 XT4b (pick.py). -/
import Derived.Test.YtcjmppjppmiggaaGreatM1
import Derived.Test.YtcjmppjppmiggaaGreatRows
namespace Go.Proofs.YtcjmppjppmiggaaGreat
open Go.RowKit
set_option linter.unusedVariables false
set_option linter.unusedSimpArgs false

section
open Go.RowKit
set_option linter.unusedVariables false
set_option linter.unusedSimpArgs false

set_option maxHeartbeats 400000 in
theorem wrong_any (x : Wr) (w : World) :
    Calls Tryz.prog 74 #[x.v] w fun e w' => e = .returned (.bool (!wrB x)) ∧ Below w.heap.size w w' := by
  obtain ⟨k, v, d⟩ := x
  have hfin : ∀ (b : Bool) (w' : World), b = (!wrB ⟨k, v, d⟩) → Below w.heap.size w w' → (Ending.returned (.bool b) = .returned (.bool (!wrB ⟨k, v, d⟩)) ∧ Below w.heap.size w w') := fun b w' h h' => ⟨by rw [h], h'⟩
  have Hf := Lib.hid hfin
  clear hfin
  unfold Wr.v
  go_enter Tryz.func74, Tryz.ntmps74
  go_wp2
  all_goals go_ret
  all_goals refine Hf.out _ _ ?_ ((Below.refl _ _).alloc (Nat.le_refl _) _)
  all_goals (have nk := toList_nil k; have nv := toList_nil v; clear Hf)
  all_goals (simp only [wrB, keyB, valB, List.isEmpty_iff]; grind)

end
def wrongB (x : Wr) : Bool := !wrB x
theorem any_wrong (ws : List Wr) : ws.any wrongB = !ws.all wrB := by induction ws <;> simp_all [wrongB]
set_option maxHeartbeats 400000 in
theorem index_wrong (A : Option Addr) (len cap : Nat) (ws : List Wr) (w : World) (hw : WsAt w w.heap.size A len ws) (hl : len ≤ 9223372036854775807) :
    Calls Tryz.prog 91 #[.slice A len cap, .func (.func 74) #[] #[]] w (IdxEnd w (ws.any wrongB)) := by
  have hlen := Lib.hid hw.len
  go_enter Tryz.func91, Tryz.ntmps91
  go_wp2_with fail
  go_loopw [8] (fun i wr => ∃ k : Nat, k ≤ len ∧ i = .int .i64 k ∧ (ws.take k).any wrongB = false ∧ Below w.heap.size w wr) (fun i _ => len - (RowKit.intOf i).toNat)
  case atStart => exact ⟨0, Nat.zero_le _, rfl, rfl, Below.refl _ _⟩
  case round =>
    obtain ⟨k, hk, rfl, hany, hb⟩ := hrel
    have Hany := Lib.hid hany
    clear hany
    have hr := hw.below hb
    have Hb := Lib.hid hb
    have hs := hb.size
    clear hb
    by_cases hlt : k < len
    · obtain ⟨b, off, x, rfl, hbl, hx, x0, x1, x2⟩ := WsAt.cell3 hr hlt
      have Hx := Lib.hid hx
      clear hx
      go_wp2_with (go_at_call 74; refine (wrong_any x _).mono ?_; rintro e w' ⟨rfl, hb'⟩)
      · go_ret
        refine ⟨k, rfl, by omega, ?_, Hb.out.trans (hb'.mono (by omega))⟩
        rw [any_of (p := wrongB) Hx.out (by simpa [wrongB] using ‹(!wrB x) = true›)]
        simp
      · go_roundw
        case rel => exact ⟨k + 1, by omega, by go_num, by rw [any_take_succ Hx.out, Hany.out]; simpa [wrongB] using ‹(!wrB x) = false›, Hb.out.trans (hb'.mono (by omega))⟩
        case measure => simp [RowKit.intOf]; omega
    · have hkl : k = len := by omega
      go_wp2
      go_ret
      have h2 := Hany.out
      have h3 := hlen.out
      rw [List.take_of_length_le (by omega)] at h2
      exact ⟨-1, rfl, by omega, by rw [h2]; simp, Hb.out⟩

set_option maxHeartbeats 400000 in
theorem contains_wrong (A : Option Addr) (len cap : Nat) (ws : List Wr) (w : World) (hw : WsAt w w.heap.size A len ws) (hl : len ≤ 9223372036854775807) :
    Calls Tryz.prog 75 #[.slice A len cap, .func (.func 74) #[] #[]] w fun e w' => e = .returned (.bool (ws.any wrongB)) ∧ Below w.heap.size w w' := by
  have hfin : ∀ (b : Bool) (w' : World), b = ws.any wrongB → Below w.heap.size w w' → (Ending.returned (.bool b) = .returned (.bool (ws.any wrongB)) ∧ Below w.heap.size w w') := fun b w' h h' => ⟨by rw [h], h'⟩
  have Hf := Lib.hid hfin
  clear hfin
  go_enter Tryz.func75, Tryz.ntmps75
  go_wp2_with (go_at_call 91; refine (index_wrong _ _ _ ws _ hw hl).mono ?_; rintro e w' ⟨r, rfl, hr1, hr2, hb'⟩; have Hr2 := Lib.hid hr2; clear hr2)
  go_ret
  exact Hf.out _ _ (by have := Hr2.out; simpa using this) hb'

set_option maxHeartbeats 400000 in
theorem check_any (n : Int) (A : Option Addr) (len cap : Nat) (ws : List Wr) (w : World) (hw : WsAt w w.heap.size A len ws) (hl : len ≤ 9223372036854775807) :
    Calls Tryz.prog 58 #[.agg #[.int .i64 n, .slice A len cap]] w fun e w' => e = .returned (.int .i64 (errOf (txB n ws))) ∧ Below w.heap.size w w' := by
  have hfin : ∀ (b : Bool) (w' : World), b = txB n ws → Below w.heap.size w w' → (Ending.returned (.int .i64 (errOf b)) = .returned (.int .i64 (errOf (txB n ws))) ∧ Below w.heap.size w w') := fun b w' h h' => ⟨by rw [h], h'⟩
  have Hf := Lib.hid hfin
  have hlen := Lib.hid hw.len
  clear hfin
  have hw2 : ∀ o, WsAt (w.alloc o) (w.alloc o).heap.size A len ws := fun o => (hw.below ((Below.refl _ _).alloc (Nat.le_refl _) _)).more (by simp)
  go_enter Tryz.func58, Tryz.ntmps58
  go_wp2_with (go_at_call 75; refine (contains_wrong _ _ _ ws _ (hw2 _) hl).mono ?_; rintro e w' ⟨rfl, hb'⟩)
  all_goals go_ret
  · refine Hf.out false _ ?_ (((Below.refl _ _).alloc (Nat.le_refl _) _).trans (hb'.mono (by simp)))
    have := hlen.out; have e := any_wrong ws; clear hw hw2 Hf hb'
    simp only [txB]; grind
  · refine Hf.out true _ ?_ (((Below.refl _ _).alloc (Nat.le_refl _) _).trans (hb'.mono (by simp)))
    have := hlen.out; have e := any_wrong ws; clear hw hw2 Hf hb'
    simp only [txB]; grind
  all_goals
    refine Hf.out false _ ?_ ((Below.refl _ _).alloc (Nat.le_refl _) _)
    have := hlen.out; clear hw hw2 Hf
    simp only [txB]; grind

end Go.Proofs.YtcjmppjppmiggaaGreat

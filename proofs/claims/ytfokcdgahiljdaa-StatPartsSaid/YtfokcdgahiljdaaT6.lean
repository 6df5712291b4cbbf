/- Lemmas and contracts of functions that a statement of this seat stands on; each holds under the premises typed in its head. -/
import Derived.Test.YtfokcdgahiljdaaT5
import Derived.Test.YtfokcdgahiljdaaRow
namespace Go.Proofs.Ytfokcdgahiljdaa
open Go.RowKit
set_option linter.unusedVariables false
set_option linter.unusedSimpArgs false


theorem reftxn_bad (n : Int) (A : Option Addr) (len cap : Nat) (ws : List Wr) (sk : Bool) (w : World) (hw : WsAt w w.heap.size A len ws) (hbad : txB n ws = false) :
    Calls Try.prog 9 #[.agg #[.int .i64 n, .slice A len cap], .bool sk] w fun e w' => e = .returned (.tuple #[.int .i64 0, .int .i64 1]) ∧ Below w.heap.size w w' := by
  have hw2 : ∀ o, WsAt (w.alloc o) (w.alloc o).heap.size A len ws := fun o => (hw.below ((Below.refl _ _).alloc (Nat.le_refl _) _)).more (by simp)
  have Hbad := Lib.hid hbad
  clear hbad
  go_enter Try.func9, Try.ntmps9
  go_wp2_with fail
  refine (refcheck_any n _ _ _ ws _ (hw2 _)).mono ?_
  rintro e w' ⟨rfl, hb'⟩
  rw [Hbad.out, show errOf false = 1 from rfl]
  go_wp2_with fail
  go_ret2
  exact ⟨rfl, ((Below.refl _ _).alloc (Nat.le_refl _) _).trans (hb'.mono (by simp))⟩

set_option maxHeartbeats 1000000 in
theorem reftxn_good (n : Int) (A : Option Addr) (len cap : Nat) (ws : List Wr) (sk : Bool) (w : World) (hw : WsAt w w.heap.size A len ws) (hgood : txB n ws = true) :
    Calls Try.prog 9 #[.agg #[.int .i64 n, .slice A len cap], .bool sk] w fun e w' => e = .returned (.tuple #[.int .i64 (txnN ws sk), .int .i64 0]) ∧ Below w.heap.size w w' := by
  have hw2 : ∀ o, WsAt (w.alloc o) (w.alloc o).heap.size A len ws := fun o => (hw.below ((Below.refl _ _).alloc (Nat.le_refl _) _)).more (by simp)
  have hlen := Lib.hid hw.len
  have hl32 : len ≤ 32 := by have := txB_len hgood; have := hlen.out; omega
  have Hgood := Lib.hid hgood
  clear hgood
  go_enter Try.func9, Try.ntmps9
  go_wp2_with fail
  refine (refcheck_any n _ _ _ ws _ (hw2 _)).mono ?_
  rintro e w1 ⟨rfl, hb1⟩
  rw [Hgood.out, show errOf true = 0 from rfl]
  have hs1 := size_box (hb1.mono (by simp))
  have c0 := cell_box (hb1.mono (by simp)) 0 rfl
  have c1 := cell_box (hb1.mono (by simp)) 1 rfl
  have hw1 := (hw.below (below_box (hb1.mono (by simp)))).more (Nat.le_of_lt hs1)
  have Hb1 := Lib.hid (below_box (hb1.mono (by simp)))
  clear hb1
  cases sk
  · go_wp2_with fail
    refine (counting_any n _ _ _ ws _ hw1 hl32).mono ?_
    rintro e w2 ⟨v, rfl, hown, hb2⟩
    obtain ⟨A', cap', rfl⟩ : ∃ A' cap', v = .slice A' (countingL ws).length cap' := by
      rcases hown.2 with ⟨rfl, h0⟩ | ⟨g, cap', cur, rfl, _⟩
      · exact ⟨none, 0, by rw [h0]⟩
      · exact ⟨_, _, rfl⟩
    have hle := countingL_le ws
    have hl2 := hlen.out
    have hc32 : (countingL ws).length ≤ 32 := by omega
    clear hl2
    go_wp2_with fail
    go_ret2
    exact ⟨rfl, Hb1.out.trans (hb2.mono (by omega))⟩
  · go_wp2_with fail
    go_ret2
    exact ⟨rfl, Hb1.out⟩

/-! ### lives -/
def liveWs : List Wr := [⟨⟨#[97]⟩, ⟨#[51]⟩, false⟩, ⟨⟨#[98]⟩, ⟨#[]⟩, true⟩, ⟨⟨#[97]⟩, ⟨#[]⟩, false⟩]
theorem live_txB : txB 3 liveWs = true := by decide +kernel
theorem live_txnN : txnN liveWs false = 9 := by decide +kernel
theorem live_txnN2 : txnN liveWs true = 2 := rfl

set_option maxHeartbeats 1000000 in
theorem lives_any (w : World) : Calls Try.prog 10 #[] w fun e w' => e = .returned (.bool true) ∧ Below w.heap.size w w' := by
  go_enter Try.func10, Try.ntmps10
  go_wp2_with fail
  have hw0 : ∀ (o : Obj) (cs : Array Value), cs = (liveWs.flatMap Wr.cells).toArray → WsAt ((w.alloc (.cells cs 56)).alloc o) ((w.alloc (.cells cs 56)).alloc o).heap.size (some ⟨w.heap.size, 0, none⟩) 3 liveWs := fun o cs hcs =>
    rowAt_block (t := 56) (fr := (0, 0)) (cs := cs) liveWs (len_wr _) ((Below.heap_alloc _ _ _ (by simp)).trans (heap_alloc_new w _)) (by simp; omega) (fun j u hu => by rw [hcs]; simpa using hu)
  have hw1 := hw0 (.cells #[.int .i64 3, .slice (some ⟨w.heap.size, 0, none⟩) 3 3] 24) _ rfl
  clear hw0
  refine (txn_good 3 _ _ _ liveWs false _ hw1 (by omega) live_txB).mono ?_
  rintro e w2 ⟨rfl, hb2⟩
  rw [live_txnN]
  have hs2 : w.heap.size + 1 < w2.heap.size := by have := hb2.size; simp at this; omega
  have c0 : w2.cell? ⟨w.heap.size + 1, 0, none⟩ = some (.int .i64 3) := (hb2.cell (p := ⟨w.heap.size + 1, 0, none⟩) (by simp)).trans (by simp [go_sem])
  have c1 : w2.cell? ⟨w.heap.size + 1, 1, none⟩ = some (.slice (some ⟨w.heap.size, 0, none⟩) 3 3) := (hb2.cell (p := ⟨w.heap.size + 1, 1, none⟩) (by simp)).trans (by simp [go_sem])
  have hw2 := (hw1.below hb2).more hb2.size
  have Hb2 := Lib.hid (((Below.refl w.heap.size w).alloc (Nat.le_refl _) _).trans ((Below.refl w.heap.size _).alloc (by simp) _) |>.trans (hb2.mono (by simp; omega)))
  clear hb2 hw1
  go_wp2_with fail
  refine (txn_good 3 _ _ _ liveWs true _ hw2 (by omega) live_txB).mono ?_
  rintro e w3 ⟨rfl, hb3⟩
  rw [live_txnN2]
  go_wp2_with fail
  go_ret
  exact ⟨rfl, Hb2.out.trans (hb3.mono (by omega))⟩

/-! ### the law -/
set_option maxHeartbeats 1000000 in
theorem law_any (n : Int) (A : Option Addr) (len cap : Nat) (ws : List Wr) (sk : Bool) (w : World) (hw : WsAt w w.heap.size A len ws) (hl : len ≤ 9223372036854775807) :
    Calls Try.prog 3 #[.agg #[.int .i64 n, .slice A len cap], .bool sk] w fun e w' => e = .returned (.bool true) ∧ Below w.heap.size w w' := by
  have hw2 : ∀ o, WsAt (w.alloc o) (w.alloc o).heap.size A len ws := fun o => (hw.below ((Below.refl _ _).alloc (Nat.le_refl _) _)).more (by simp)
  have hex : ∃ a b : Int, (∀ W : World, WsAt W W.heap.size A len ws → Calls Try.prog 8 #[.agg #[.int .i64 n, .slice A len cap], .bool sk] W fun e w' => e = .returned (.tuple #[.int .i64 a, .int .i64 b]) ∧ Below W.heap.size W w') ∧
      (∀ W : World, WsAt W W.heap.size A len ws → Calls Try.prog 9 #[.agg #[.int .i64 n, .slice A len cap], .bool sk] W fun e w' => e = .returned (.tuple #[.int .i64 a, .int .i64 b]) ∧ Below W.heap.size W w') := by
    cases h : txB n ws
    · exact ⟨0, 1, fun W hW => txn_bad n A len cap ws sk W hW hl h, fun W hW => reftxn_bad n A len cap ws sk W hW h⟩
    · exact ⟨txnN ws sk, 0, fun W hW => txn_good n A len cap ws sk W hW hl h, fun W hW => reftxn_good n A len cap ws sk W hW h⟩
  obtain ⟨a, b, h1, h2⟩ := hex
  have H1 := Lib.hid h1
  have H2 := Lib.hid h2
  clear h1 h2
  go_enter Try.func3, Try.ntmps3
  go_wp2_with fail
  refine (H1.out _ (hw2 _)).mono ?_
  rintro e w1 ⟨rfl, hb1⟩
  have hs1 := size_box (hb1.mono (by simp))
  have c0 := cell_box (hb1.mono (by simp)) 0 rfl
  have c1 := cell_box (hb1.mono (by simp)) 1 rfl
  have hw1 := (hw.below (below_box (hb1.mono (by simp)))).more (Nat.le_of_lt hs1)
  have Hb1 := Lib.hid (below_box (hb1.mono (by simp)))
  clear hb1
  go_wp2_with fail
  refine (H2.out _ hw1).mono ?_
  rintro e w2 ⟨rfl, hb2⟩
  go_wp2_with fail
  refine (lives_any _).mono ?_
  rintro e w3 ⟨rfl, hb3⟩
  go_wp2_with fail
  go_ret
  exact ⟨rfl, (Hb1.out.trans (hb2.mono (by omega))).trans (hb3.mono (by have := hb2.size; omega))⟩
end Go.Proofs.Ytfokcdgahiljdaa

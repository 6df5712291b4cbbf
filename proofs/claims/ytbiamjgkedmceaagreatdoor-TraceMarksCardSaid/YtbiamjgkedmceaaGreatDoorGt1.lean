/- The gate at memory: its functions. -/
import Derived.Test.YtbiamjgkedmceaaGreatDoorTr0
import Derived.Test.YtbiamjgkedmceaaGreatDoorExt
import Derived.Laws.BitsAllLaws
import Derived.Laws.Tables
import Derived.StillTailTactics
namespace Go.Proofs.YtbiamjgkedmceaaGreatDoor
open Go.RowKit
set_option linter.unusedVariables false
set_option linter.unusedSimpArgs false

def wd (x : Nat) : Value := .int .u64 x
def gcs (mark top : Nat) (W : List Nat) : Array Value := (Value.bool true :: .int .i64 mark :: (W.map wd ++ [.int .i64 top])).toArray
theorem gcs_0 (mark top : Nat) (W : List Nat) : (gcs mark top W)[0]? = some (.bool true) := by simp [gcs]
theorem gcs_1 (mark top : Nat) (W : List Nat) : (gcs mark top W)[1]? = some (.int .i64 mark) := by simp [gcs]
theorem gcs_w {mark top : Nat} {W : List Nat} {i x : Nat} (h : W[i]? = some x) : (gcs mark top W)[2 + i]? = some (.int .u64 x) := by
  have hi : i < W.length := (List.getElem?_eq_some_iff.1 h).1
  rw [show 2 + i = i + 2 by omega]
  simp only [gcs, List.getElem?_toArray, List.getElem?_cons_succ]
  rw [List.getElem?_append_left (by simpa using hi), List.getElem?_map, h]
  rfl
theorem gcs_t {mark top : Nat} {W : List Nat} (h : W.length = 1025) : (gcs mark top W)[1027]? = some (.int .i64 top) := by
  simp only [gcs, List.getElem?_toArray, List.getElem?_cons_succ]
  rw [List.getElem?_append_right (by simp [h]), List.length_map, h]
  rfl
theorem gcs_set1 (mark top m : Nat) (W : List Nat) : (gcs mark top W).setIfInBounds 1 (.int .i64 m) = gcs m top W := by simp [gcs]
theorem gcs_setw (mark top x i : Nat) (W : List Nat) (hi : i < W.length) : (gcs mark top W).setIfInBounds (2 + i) (.int .u64 x) = gcs mark top (W.set i x) := by
  rw [show 2 + i = i + 2 by omega]
  simp only [gcs, List.setIfInBounds_toArray, List.set_cons_succ]
  rw [List.set_append_left _ _ (by simpa using hi), List.map_set]
  rfl
theorem gcs_sett (mark top t : Nat) (W : List Nat) (h : W.length = 1025) : (gcs mark top W).setIfInBounds 1027 (.int .i64 t) = gcs mark t W := by
  simp only [gcs, List.setIfInBounds_toArray, List.set_cons_succ]
  rw [List.set_append_right _ _ (by simp [h]), List.length_map, h]
  rfl
def GC (w : World) (g mark top : Nat) (W : List Nat) : Prop := w.heap[g]? = some (.cells (gcs mark top W) 143 (0, 0))
theorem bit_val {x j : Nat} (hx : x < 18446744073709551616) : (bits BinOp.and IntKind.u64 ((x : Int) / 2 ^ j) 1 == 1) = x.testBit j := by
  have e : ((x : Int) / 2 ^ j) = ((x / 2 ^ j : Nat) : Int) := by simp
  rw [e, show (1 : Int) = ((1 : Nat) : Int) from rfl, u64_and_nat _ 1 (Nat.lt_of_le_of_lt (Nat.div_le_self _ _) hx) (by omega), bit_is]
  cases x.testBit j <;> rfl
theorem is_any (g mark top n : Nat) (W : List Nat) (S : Nat → Bool) (w : World) (h : GC w g mark top W) (hb : BitsOf W S) (hn : n ≤ 4294967296) :
    Calls Tryz.prog 104 #[.pointer (some ⟨g, 0, none⟩), .int .i64 n] w fun e w' => e = .returned (.bool (decide (n ≤ 65536) && S n)) ∧ w = w' := by
  by_cases hle : n ≤ 65536
  · obtain ⟨x, hx, hx2, hx3⟩ := hb.at_ (n := n) (by omega)
    have c := (blk_cell h (2 + n / 64)).trans (gcs_w hx)
    have e1 : ((n : Int) / 64).toNat = n / 64 := by omega
    have e2 : ((n : Int) % 64).toNat = n % 64 := by omega
    go_enter Tryz.func104, Tryz.ntmps104
    go_wp2_with fail
    go_ret
    exact ⟨by rw [bit_val hx2, hx3, decide_eq_true hle]; rfl, rfl⟩
  · have hle2 : ¬ ((n : Int) ≤ 65536) := by omega
    go_enter Tryz.func104, Tryz.ntmps104
    go_wp2_with fail
    go_ret
    exact ⟨by simp [hle], rfl⟩
set_option maxRecDepth 100000 in
theorem gset_any (g mark top n : Nat) (W : List Nat) (S : Nat → Bool) (w : World) (h : GC w g mark top W) (hb : BitsOf W S) (hn : n ≤ 65536) (ht : top ≤ 65536) :
    Calls Tryz.prog 77 #[.pointer (some ⟨g, 0, none⟩), .int .i64 n] w fun e w' => e = .returned (.tuple #[]) ∧ (∃ W', GC w' g mark (max top n) W' ∧ BitsOf W' (fun k => decide (k = n) || S k)) ∧ w.grownBy w' (some g) := by
  obtain ⟨x, hx, hx2, hx3⟩ := hb.at_ (n := n) (by omega)
  have c := (blk_cell h (2 + n / 64)).trans (gcs_w hx)
  have ct := (blk_cell h 1027).trans (gcs_t hb.len)
  have e1 : ((n : Int) / 64).toNat = n / 64 := by omega
  have e2 : ((n : Int) % 64).toNat = n % 64 := by omega
  have e3 : IntKind.i64.wrap ((n : Int) / 64) = (n : Int) / 64 := by rw [IntKind.wrap_i64]; omega
  have e4 : (0 : Int) ≤ (n : Int) / 64 := by omega
  have e5 : (n : Int) / 64 < 1025 := by omega
  have e6 : Int.tmod (n : Int) 64 = ((n % 64 : Nat) : Int) := by rw [Int.tmod_eq_emod_of_nonneg (by omega)]; omega
  have e7 : (0 : Int) ≤ ((n % 64 : Nat) : Int) := by omega
  have e8 : ((n % 64 : Nat) : Int) ≤ 64 := by omega
  have e9 : ((n % 64 : Nat) : Int).toNat = n % 64 := by omega
  have hp : 2 ^ (n % 64) < 18446744073709551616 := Nat.pow_lt_pow_right (a := 2) (m := n % 64) (n := 64) (by omega) (by omega)
  go_enter Tryz.func77, Tryz.ntmps77
  go_wp2_with fail
  go_still_tail 14, (by kernel_rfl)
  have h1 : w.drew.heap[g]? = some (.cells (gcs mark top W) 143 (0, 0)) := h
  have c1 : w.drew.cell? ⟨g, 2 + n / 64, none⟩ = some (.int .u64 x) := c
  have ct1 : w.drew.cell? ⟨g, 1027, none⟩ = some (.int .i64 top) := ct
  have hg0 : w.grownBy w.drew (some g) := ⟨rfl, rfl, rfl, Nat.le_refl _, fun _ _ _ => rfl⟩
  change wpList _ _ _ _ _ w.drew
  generalize w.drew = w1 at h1 c1 ct1 hg0 ⊢
  clear c ct
  have hf1 : w1.frozen? ⟨g, 2 + n / 64, none⟩ = false := by simp [World.frozen?, h1]
  have hf2 : w1.frozen? ⟨g, 1027, none⟩ = false := by simp [World.frozen?, h1]
  have hq : ∀ q : Nat, q < 18446744073709551616 → ((q : Int) % 18446744073709551616) = q := fun q hq => by omega
  have hor : bits BinOp.or IntKind.u64 (x : Int) (IntKind.u64.wrap (2 ^ (n % 64))) = ((x ||| 2 ^ (n % 64) : Nat) : Int) := by
    rw [show ((2 : Int) ^ (n % 64)) = ((2 ^ (n % 64) : Nat) : Int) by simp, IntKind.wrap_u64, hq _ hp, u64_or_nat x (2 ^ (n % 64)) hx2 hp]
  go_wp2_with fail
  rw [hor, show max (top : Int) (n : Int) = ((max top n : Nat) : Int) by omega]
  obtain ⟨b1, b2⟩ := bit_or (j := n % 64) hx2 (Nat.mod_lt _ (by omega))
  refine bodyPost_end (results_none rfl _ _ _) rfl ⟨rfl, ⟨W.set (n / 64) (x ||| 2 ^ (n % 64)), ?_, ?_⟩, ?_⟩
  · unfold GC
    rw [blk_set (blk_set h1 _ _) _ _, gcs_setw _ _ _ _ _ (by rw [hb.len]; omega), gcs_sett _ _ _ _ (by rw [List.length_set]; exact hb.len)]
  · refine hb.put (by omega) hx b1 (fun j hj => ?_) (fun k hk => by simp [hk])
    rw [b2 j hj]
    split <;> simp
  · exact only_setCell (only_setCell hg0 (Or.inl rfl) _) (Or.inl rfl) _
end Go.Proofs.YtbiamjgkedmceaaGreatDoor

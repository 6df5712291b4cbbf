/- slices.Sorted(maps.Keys(m)) of a map that the walk keeps: the library's contracts, laid at this seat, in the words of this seat's maps. -/
import Derived.Test.YtafghiekpgjniaaGreatDoorLay
import Derived.Test.YtafghiekpgjniaaGreatDoorSort
namespace Go.Proofs.YtafghiekpgjniaaGreatDoor
open Go.RowKit
set_option linter.unusedVariables false
set_option linter.unusedSimpArgs false

open Go.Maps Go.Sort Go.Shelf
theorem enc_str (l : List UInt8) : encStr l = Value.string ⟨l.toArray⟩ := rfl
theorem sortsS_ (m : Nat) : AnyZ.SortsIn Tryz.prog layS_string_ren Fence.wide m :=
  ⟨fun blk off cap ss W hH hblk hsz => callsIn_wide.2 (AnyM.slices_Sort_string layT_string blk off cap ss W hH hblk hsz),
   fun p cap W => callsIn_wide.2 (AnyM.slices_Sort_string_none layT_string p cap W)⟩
theorem keysS_any (mb : Option Nat) (W : World) : Calls Tryz.prog 135 #[.map mb] W fun e w' => e = .returned (.func (.func 203) #[] #[.pointer (some ⟨W.heap.size, 0, none⟩)]) ∧ w' = W.alloc (.cells #[.map mb] 170) :=
  (callsIn_wide (n := 5)).1 (AnyZ.keys_in layKS Fence.wide 5 trivial rfl mb W)
set_option maxHeartbeats 1000000 in
theorem sortedS_any {V : Type} {ν : V → Value} (b : Nat) (m : List (ByteArray × V)) (w : World) (hown : OwnM Value.string ν w b m) (hn : m.length ≤ 8796093022207) (hs : ∀ p ∈ m, p.1.size ≤ maxLen) :
    Calls Tryz.prog 134 #[.func (.func 203) #[] #[.pointer (some ⟨w.heap.size, 0, none⟩)]] (w.alloc (.cells #[.map (some b)] 170)) fun e w' => ∃ v, e = .returned v ∧
      w'.ownsRow w.heap.size 9 1 v m.length ((sortedK m).map Value.string) ∧ Below w.heap.size w w' := by
  obtain ⟨D, hD, hperm, hsize⟩ := ownM_strs (P := Tryz.prog) (kt := 9) Tryz.underlying9 hown (by simp only [maxLen]; omega) hs
  have hbl := hD.lt
  have hseq : SeqGives Fence.wide 2 Tryz.prog 203 #[.pointer (some ⟨w.heap.size, 0, none⟩)] encStr (fun ss => ss.Perm (strKeys D)) (Maps.size D) (w.alloc (.cells #[.map (some b)] 170)) :=
    AnyZ.keys_gives (ρ := layKS_ren) { layKS with } Fence.wide _ trivial rfl (by omega) w.heap.size b m.length D _ (by simp) (by simp) (by
      obtain ⟨es, clock, hb, Ft, hs, hD⟩ := hD
      exact ⟨es, clock, (Below.heap_alloc _ _ b hbl).trans hb, Ft, hs, hD⟩)
  have hc := AnyZ.sorted_in layS_string Fence.wide 5 trivial trivial trivial trivial rfl (by omega) (sortsS_ _) (enters_of Tryz.func202 (by kernel_rfl) rfl) 203 #[.pointer (some ⟨w.heap.size, 0, none⟩)] trivial (enters_of Tryz.func203 (by kernel_rfl) rfl) _ _ (by rw [hsize]; simp only [maxLen]; omega) (by rw [hsize]; omega) _ hseq
  refine ((callsIn_wide (n := 5)).1 hc).mono ?_
  rintro e w' ⟨v, ss, rfl, hS, hrow, -, hb⟩
  have hS2 : ss.Perm (m.map fun p => p.1.data.toList) := hS.trans hperm
  have hl : ss.length = m.length := by rw [hS2.length_eq, List.length_map]
  refine ⟨v, rfl, ?_, ((Below.refl _ w).alloc (Nat.le_refl _) _).trans (hb.mono (by simp))⟩
  rw [← sortedK_perm hS2, List.map_map, ← hl]
  exact ownsRow_base_a hrow (by simp)
/-! ### keys that are numbers -/
theorem sortsI_ (m : Nat) : AnyZI.SortsIn Tryz.prog layS_int_ren Fence.wide m :=
  ⟨fun blk off cap ss W hH hblk hsz => callsIn_wide.2 (AnyM.slices_Sort_int layT_int blk off cap ss W hH hblk hsz),
   fun p cap W => callsIn_wide.2 (AnyM.slices_Sort_int_none layT_int p cap W)⟩
def sortI (l : List Int) : List Int := l.mergeSort fun x y => decide (x ≤ y)
theorem keysI_any (mb : Option Nat) (W : World) : Calls Tryz.prog 171 #[.map mb] W fun e w' => e = .returned (.func (.func 212) #[] #[.pointer (some ⟨W.heap.size, 0, none⟩)]) ∧ w' = W.alloc (.cells #[.map mb] 56) :=
  (callsIn_wide (n := 5)).1 (AnyZI.keys_in layKI Fence.wide 5 trivial rfl mb W)
theorem sortI_perm {l l' : List Int} (h : l.Perm l') : sortI l = sortI l' := by
  have tr : ∀ a b c : Int, decide (a ≤ b) = true → decide (b ≤ c) = true → decide (a ≤ c) = true := fun a b c h1 h2 => by simp only [decide_eq_true_eq] at *; omega
  have to : ∀ a b : Int, (decide (a ≤ b) || decide (b ≤ a)) = true := fun a b => by simp only [Bool.or_eq_true, decide_eq_true_eq]; omega
  refine List.Perm.eq_of_pairwise (le := fun a b => decide (a ≤ b) = true) (fun a b _ _ h1 h2 => by simp only [decide_eq_true_eq] at *; omega) (List.pairwise_mergeSort tr to l) (List.pairwise_mergeSort tr to l') ?_
  exact (List.mergeSort_perm _ _).trans (h.trans (List.mergeSort_perm _ _).symm)
set_option maxHeartbeats 1000000 in
theorem sortedI_any {V : Type} {ν : V → Value} (b : Nat) (m : List (Int × V)) (w : World) (hown : OwnM (Value.int .i64) ν w b m) (hn : m.length ≤ 8796093022207) (hs : ∀ p ∈ m, (Lit.int .i64 p.1).wf = true) :
    Calls Tryz.prog 170 #[.func (.func 212) #[] #[.pointer (some ⟨w.heap.size, 0, none⟩)]] (w.alloc (.cells #[.map (some b)] 56)) fun e w' => ∃ v, e = .returned v ∧
      w'.ownsRow w.heap.size 3 1 v m.length ((sortI (m.map (·.1))).map (Value.int .i64)) ∧ Below w.heap.size w w' := by
  obtain ⟨D, hD, hperm, hsize⟩ := ownM_ints (P := Tryz.prog) (kt := 3) Tryz.underlying3 hown (by simp only [maxLen]; omega) hs
  have hbl := hD.lt
  have hseq : SeqGives Fence.wide 2 Tryz.prog 212 #[.pointer (some ⟨w.heap.size, 0, none⟩)] encZ (fun ss => ss.Perm (intKeys D)) (Maps.size D) (w.alloc (.cells #[.map (some b)] 56)) :=
    AnyZI.keys_gives (ρ := layKI_ren) { layKI with } Fence.wide _ trivial rfl (by omega) w.heap.size b m.length D _ (by simp) (by simp) (by
      obtain ⟨es, clock, hb, Ft, hs, hD⟩ := hD
      exact ⟨es, clock, (Below.heap_alloc _ _ b hbl).trans hb, Ft, hs, hD⟩)
  have hc := AnyZI.sorted_in layS_int Fence.wide 5 trivial trivial trivial trivial rfl (by omega) (sortsI_ _) (enters_of Tryz.func166 (by kernel_rfl) rfl) 212 #[.pointer (some ⟨w.heap.size, 0, none⟩)] trivial (enters_of Tryz.func212 (by kernel_rfl) rfl) _ _ (by rw [hsize]; simp only [maxLen]; omega) (by rw [hsize]; omega) _ hseq
  refine ((callsIn_wide (n := 5)).1 hc).mono ?_
  rintro e w' ⟨v, ss, rfl, hS, hrow, -, hb⟩
  have hS2 : ss.Perm (m.map fun p => p.1) := hS.trans hperm
  have hl : ss.length = m.length := by rw [hS2.length_eq, List.length_map]
  refine ⟨v, rfl, ?_, ((Below.refl _ w).alloc (Nat.le_refl _) _).trans (hb.mono (by simp))⟩
  rw [← sortI_perm hS2, ← hl]
  exact ownsRow_base_a hrow (by simp)
end Go.Proofs.YtafghiekpgjniaaGreatDoor

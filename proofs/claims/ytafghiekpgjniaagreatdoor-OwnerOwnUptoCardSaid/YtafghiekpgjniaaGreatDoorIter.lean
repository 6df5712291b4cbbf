/- slices.Sorted(maps.Keys(m)) of a map that the walk keeps: the library's contracts, laid at this seat, in the words of this seat's maps. -/
import Derived.Test.YtafghiekpgjniaaGreatDoorLay
import Derived.Test.YtafghiekpgjniaaGreatDoorPA
namespace Go.Proofs.YtafghiekpgjniaaGreatDoor
open Go.RowKit
set_option linter.unusedVariables false
set_option linter.unusedSimpArgs false

open Go.Maps Go.Sort Go.Shelf
theorem enc_str (l : List UInt8) : encStr l = Value.string ⟨l.toArray⟩ := rfl
theorem sortsS_ (m : Nat) : AnyZ.SortsIn Tryz.prog layS_string_ren Fence.wide m :=
  ⟨fun blk off cap ss W hH hblk hsz => callsIn_wide.2 (AnyM.slices_Sort_string layT_string blk off cap ss W hH hblk hsz),
   fun p cap W => callsIn_wide.2 (AnyM.slices_Sort_string_none layT_string p cap W)⟩
theorem keysS_any (mb : Option Nat) (W : World) : Calls Tryz.prog 217 #[.map mb] W fun e w' => e = .returned (.func (.func 242) #[] #[.pointer (some ⟨W.heap.size, 0, none⟩)]) ∧ w' = W.alloc (.cells #[.map mb] 80) :=
  (callsIn_wide (n := 5)).1 (AnyZ.keys_in layKV Fence.wide 5 trivial rfl mb W)
set_option maxHeartbeats 1000000 in
theorem sortedS_any {V : Type} {ν : V → Value} (b : Nat) (m : List (ByteArray × V)) (w : World) (hown : OwnM Value.string ν w b m) (hn : m.length ≤ 8796093022207) (hs : ∀ p ∈ m, p.1.size ≤ maxLen) :
    Calls Tryz.prog 134 #[.func (.func 242) #[] #[.pointer (some ⟨w.heap.size, 0, none⟩)]] (w.alloc (.cells #[.map (some b)] 80)) fun e w' => ∃ v, e = .returned v ∧
      w'.ownsRow w.heap.size 9 1 v m.length ((sortedK m).map Value.string) ∧ Below w.heap.size w w' := by
  obtain ⟨D, hD, hperm, hsize⟩ := ownM_strs (P := Tryz.prog) (kt := 9) Tryz.underlying9 hown (by simp only [maxLen]; omega) hs
  have hbl := hD.lt
  have hseq : SeqGives Fence.wide 2 Tryz.prog 242 #[.pointer (some ⟨w.heap.size, 0, none⟩)] encStr (fun ss => ss.Perm (strKeys D)) (Maps.size D) (w.alloc (.cells #[.map (some b)] 80)) :=
    AnyZ.keys_gives (ρ := layKV_ren) { layKV with } Fence.wide _ trivial rfl (by omega) w.heap.size b m.length D _ (by simp) (by simp) (by
      obtain ⟨es, clock, hb, Ft, hs, hD⟩ := hD
      exact ⟨es, clock, (Below.heap_alloc _ _ b hbl).trans hb, Ft, hs, hD⟩)
  have hc := AnyZ.sorted_in layS_string Fence.wide 5 trivial trivial trivial trivial rfl (by omega) (sortsS_ _) (enters_of Tryz.func202 (by kernel_rfl) rfl) 242 #[.pointer (some ⟨w.heap.size, 0, none⟩)] trivial (enters_of Tryz.func242 (by kernel_rfl) rfl) _ _ (by rw [hsize]; simp only [maxLen]; omega) (by rw [hsize]; omega) _ hseq
  refine ((callsIn_wide (n := 5)).1 hc).mono ?_
  rintro e w' ⟨v, ss, rfl, hS, hrow, -, hb⟩
  have hS2 : ss.Perm (m.map fun p => p.1.data.toList) := hS.trans hperm
  have hl : ss.length = m.length := by rw [hS2.length_eq, List.length_map]
  refine ⟨v, rfl, ?_, ((Below.refl _ w).alloc (Nat.le_refl _) _).trans (hb.mono (by simp))⟩
  rw [← sortedK_perm hS2, List.map_map, ← hl]
  exact ownsRow_base_a hrow (by simp)
end Go.Proofs.YtafghiekpgjniaaGreatDoor

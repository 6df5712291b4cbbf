/- owner: served; Serve. -/
import Derived.Test.YtfpcgfgofemhoaaGreatOwC
namespace Go.Proofs.YtfpcgfgofemhoaaGreat
open Go.RowKit
set_option linter.unusedVariables false
set_option linter.unusedSimpArgs false

set_option maxRecDepth 100000
def tabV (g : Nat) : Array Value := #[.nilFunc, .func (.func 61) #[] #[.pointer (some ⟨g, 0, none⟩)], .func (.func 63) #[] #[.pointer (some ⟨g, 0, none⟩)], .func (.func 65) #[] #[.pointer (some ⟨g, 0, none⟩)], .func (.func 67) #[] #[.pointer (some ⟨g, 0, none⟩)], .func (.func 69) #[] #[.pointer (some ⟨g, 0, none⟩)]]
theorem tab_one (g : Nat) : (tabV g).all (·.oneCell') = true := by simp [tabV, Value.oneCell']
theorem tab_info (g : Nat) : (Tryz.prog.info? 86).map (·.size) = some (tabV g).size := by
  show _ = some 6
  kernel_rfl
set_option maxHeartbeats 2000000 in
theorem served_any (g : Nat) (w : World) :
    Calls Tryz.prog 34 #[.pointer (some ⟨g, 0, none⟩)] w fun e w' => e = .returned (.agg (tabV w.heap.size)) ∧ w'.heap[w.heap.size]? = some (.cells #[.pointer (some ⟨g, 0, none⟩)] 26 (0, 0)) ∧ Below w.heap.size w w' := by
  go_enter Tryz.func34, Tryz.ntmps34
  go_upto_region 1 with fail
  obtain ⟨W, hW⟩ : ∃ W, W = (w.alloc (.cells #[.pointer (some ⟨g, 0, none⟩)] 26)).alloc (.cells #[.nilFunc, .nilFunc, .nilFunc, .nilFunc, .nilFunc, .nilFunc] 86) := ⟨_, rfl⟩
  rw [← hW]
  have hB : Below w.heap.size w W := hW ▸ bel_alloc (bel_alloc (Below.refl _ _) _) _
  have h1 : W.heap[w.heap.size]? = some (.cells #[.pointer (some ⟨g, 0, none⟩)] 26 (0, 0)) := by
    rw [hW]; exact (Below.heap_alloc _ _ _ (by simp)).trans (blk_new _ _)
  have h2 : W.heap[w.heap.size + 1]? = some (.cells #[.nilFunc, .nilFunc, .nilFunc, .nilFunc, .nilFunc, .nilFunc] 86 (0, 0)) := by
    rw [hW]; exact blk_new2 _ _ _
  have HB := Lib.hid hB
  have H1 := Lib.hid h1
  have H2 := Lib.hid h2
  clear hW hB h1 h2
  go_wp2_with (with_reducible refine wpList_store_row rfl 86 _ _ rfl (w.heap.size + 1) (tabV w.heap.size) rfl rfl 86 _ H2.out (tab_info _) rfl (tab_one _) ?_)
  have H3 := setRow_heap W (w.heap.size + 1) _ (tabV w.heap.size) 86 (0, 0) H2.out
  exact bodyPost_ret (results_cell_row rfl _ _ (w.heap.size + 1) _ _ _ _ rfl H3 Tryz.underlying86 rfl (tab_info _)) rfl ⟨rfl, (setRow_other _ _ _ _ (by omega)).trans H1.out, below_setRow HB.out (by omega) _⟩
end Go.Proofs.YtfpcgfgofemhoaaGreat

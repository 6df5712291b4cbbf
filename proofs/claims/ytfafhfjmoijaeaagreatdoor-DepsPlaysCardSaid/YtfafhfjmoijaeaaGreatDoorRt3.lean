/- The document's table of dependencies at memory: place. -/
import Derived.Test.YtfafhfjmoijaeaaGreatDoorRt2
namespace Go.Proofs.YtfafhfjmoijaeaaGreatDoor
open Go.RowKit
set_option linter.unusedVariables false
set_option linter.unusedSimpArgs false

set_option maxRecDepth 100000
def openB (N : Nat) (o : O1) : Bool := decide (o.num = N) && !o.ended
def placeI (L : List O1) (N : Nat) : Option Nat := L.findIdx? (openB N)
theorem placeI_none {L : List O1} {N : Nat} (h : ∀ (i : Nat) (o : O1), L[i]? = some o → openB N o = false) : placeI L N = none := by
  unfold placeI
  rw [List.findIdx?_eq_none_iff]
  intro o ho
  obtain ⟨i, hi⟩ := List.mem_iff_getElem?.1 ho
  exact h i o hi
theorem placeI_some {L : List O1} {N i : Nat} {o : O1} (hi : L[i]? = some o) (ho : openB N o = true) (h : ∀ j, j < i → ∀ o, L[j]? = some o → openB N o = false) : placeI L N = some i := by
  unfold placeI
  obtain ⟨h1, h2⟩ := List.getElem?_eq_some_iff.1 hi
  rw [List.findIdx?_eq_some_iff_getElem]
  refine ⟨h1, by rw [h2]; exact ho, fun j hj => ?_⟩
  rw [h j hj _ (List.getElem?_eq_getElem (by omega))]
  exact Bool.false_ne_true
set_option maxHeartbeats 4000000 in
theorem r11place_any (Bo g : Nat) (A : Option Addr) (n c : Nat) (xs : List O2) (N : Nat) (w : World) (h : RTAt w Bo g A n c xs) (hn : n ≤ 65537) :
    Calls Tryz.prog 68 #[.pointer (some ⟨g, 0, none⟩), .int .i64 N] w fun e w' => e = .returned (.int .i64 (ixV (placeI (xs.map O2.o) N))) ∧ w = w' := by
  have c0 := blk_cell h.st 0
  have H := Lib.hid h
  have hlen := h.tk.len
  have Hlen := Lib.hid hlen
  have hfin : ∀ (r : Option Nat) (w' : World), placeI (xs.map O2.o) N = r → w = w' → (Ending.returned (.int .i64 (ixV r)) = .returned (.int .i64 (ixV (placeI (xs.map O2.o) N))) ∧ w = w') := fun r w' e e2 => by subst e; exact ⟨rfl, e2⟩
  have Hf := Lib.hid hfin
  clear h hlen hfin
  go_enter Tryz.func68, Tryz.ntmps68
  go_wp2_with fail
  go_loopw [5] (fun i wr => ∃ m : Nat, m ≤ n ∧ i = .int .i64 m ∧ w = wr ∧ Hid (∀ j, j < m → ∀ o, (xs.map O2.o)[j]? = some o → openB N o = false)) (fun i _ => n - (RowKit.intOf i).toNat)
  case atStart => exact ⟨0, Nat.zero_le _, rfl, rfl, Lib.hid (fun j hj => by omega)⟩
  case round =>
    obtain ⟨m, hm, rfl, rfl, HL⟩ := hrel
    by_cases hlt : m < n
    · obtain ⟨b, off, x, rfl, hbl, hx, x0, x1, x2, x3⟩ := H.out.cell4 (i := m) hlt
      obtain ⟨⟨xn, xw, xt, xe⟩, ⟨WA, Wn, Wc⟩, ⟨TA, Tn, Tc⟩⟩ := x
      simp only [S3.v] at x0 x1 x2 x3
      have hxo : (xs.map O2.o)[m]? = some ⟨xn, xw, xt, xe⟩ := by rw [List.getElem?_map, hx]; rfl
      have HX := Lib.hid hxo
      have HN : openB N ⟨xn, xw, xt, xe⟩ = false → Hid (∀ j, j < m + 1 → ∀ o, (xs.map O2.o)[j]? = some o → openB N o = false) := fun ho => Lib.hid (fun j hj o hjo => by
        by_cases hjm : j = m
        · subst hjm; rw [hxo] at hjo; injection hjo with hjo; subst hjo; exact ho
        · exact HL.out j (by omega) o hjo)
      have HN2 := Lib.hid HN
      clear hx hxo HN
      by_cases hnn : xn = N
      · have hq : (xn : Int) = N := by omega
        cases xe with
        | true =>
          go_wp2_with fail
          exact ⟨⟨m + 1, by omega, by go_num, by first | exact rfl | trivial, HN2.out (by simp [openB])⟩, by simp [RowKit.intOf]; omega⟩
        | false =>
          go_wp2_with fail
          go_ret
          exact Hf.out (some m) _ (placeI_some HX.out (by simp [openB, hnn]) HL.out) rfl
      · have hq : ¬ (xn : Int) = N := by omega
        go_wp2_with fail
        exact ⟨⟨m + 1, by omega, by go_num, by first | exact rfl | trivial, HN2.out (by simp [openB, hnn])⟩, by simp [RowKit.intOf]; omega⟩
    · obtain rfl : n = m := by omega
      go_wp2_with fail
      go_ret
      refine Hf.out none _ (placeI_none fun i o hi => HL.out i ?_ o hi) rfl
      obtain ⟨h1, -⟩ := List.getElem?_eq_some_iff.1 hi
      rw [List.length_map, Hlen.out] at h1
      exact h1
end Go.Proofs.YtfafhfjmoijaeaaGreatDoor

/- Lemmas and contracts of functions that a statement of this seat stands on; each holds under the premises typed in its head. -/
import Derived.Test.YtafghiekpgjniaaGreatDoorCore
namespace Go.Proofs.YtafghiekpgjniaaGreatDoor
open Go.RowKit
set_option linter.unusedVariables false
set_option linter.unusedSimpArgs false

set_option maxHeartbeats 1000000 in
theorem foldcheck_any (A : Option Addr) (len cap : Nat) (rs : List RTx) (w : World) (hw : TxsAt w w.heap.size A len rs) (hl : len ≤ 4398046511104) :
    Calls Tryz.prog 200 #[.slice A len cap] w fun e w' => e = .returned (.int .i64 (logErr rs 1)) ∧ Below w.heap.size w w' := by
  have hlen := Lib.hid hw.1.len
  have hfin : ∀ (x : Int) (w' : World), logErr rs 1 = x → Below w.heap.size w w' → (Ending.returned (.int .i64 x) = .returned (.int .i64 (logErr rs 1)) ∧ Below w.heap.size w w') := fun x w' h h' => ⟨by rw [h], h'⟩
  have Hf := Lib.hid hfin
  clear hfin
  go_enter Tryz.func200, Tryz.ntmps200
  go_wp2_with fail
  go_loopw [8] (fun i wr => ∃ k : Nat, k ≤ len ∧ i = .int .i64 k ∧ logErr rs 1 = logErr (rs.drop k) ((k : Int) + 1) ∧ Below w.heap.size w wr) (fun i _ => len - (RowKit.intOf i).toNat)
  case atStart => exact ⟨0, Nat.zero_le _, rfl, rfl, Below.refl _ _⟩
  case round =>
    obtain ⟨k, hk, rfl, herr, hb⟩ := hrel
    have hr := hw.below hb
    have Hb := Lib.hid hb
    have Herr := Lib.hid herr
    have hs := hb.size
    clear hb herr
    by_cases hlt : k < len
    · obtain ⟨b, off, r, rfl, hbl, hx, x0, x1, hws, hrl⟩ := hr.cell2 hlt
      have Hx := Lib.hid hx
      have hws2 : ∀ o, WsAt (wr.alloc o) (wr.alloc o).heap.size r.A r.len r.ws := fun o => (hws.below ((Below.refl _ _).alloc hs _)).more (by simp; omega)
      clear hx
      go_wp2_with fail
      refine (check_any r.number r.A r.len r.cap r.ws _ (hws2 _) (by omega)).mono ?_
      rintro e w1 ⟨rfl, hb1⟩
      have c0 : w1.cell? ⟨wr.heap.size, 0, none⟩ = some (.int .i64 r.number) := (hb1.cell (p := ⟨wr.heap.size, 0, none⟩) (by simp)).trans (by simp [go_sem])
      have Hb1 := Lib.hid ((Hb.out.alloc hs _).trans (hb1.mono (by simp; omega)))
      clear hb1 hws2
      cases ht : txB r.number r.ws
      · have Ht := Lib.hid ht
        clear ht
        rw [show errOf false = 1 from rfl]
        go_wp2_with fail
        go_ret
        refine Hf.out _ _ ?_ Hb1.out
        rw [Herr.out, (logErr_drop Hx.out).2 (by simp [turnN, Ht.out])]; simp [turnN, Ht.out]
      · have Ht := Lib.hid ht
        clear ht
        rw [show errOf true = 0 from rfl]
        by_cases hn : r.number = (k : Int) + 1
        · have h0 : turnN r.number r.ws ((k : Int) + 1) = 0 := by unfold turnN; rw [if_pos Ht.out, if_pos hn]
          have h1 := (logErr_drop Hx.out).1 h0
          have H1 := Lib.hid h1
          have hnb : (r.number != (k : Int) + 1) = false := by simp [hn]
          clear hn h0 h1
          go_wp2_with fail
          exact ⟨⟨k + 1, by omega, by go_num, by rw [Herr.out, H1.out]; simp, Hb1.out⟩, by simp [RowKit.intOf]; omega⟩
        · have h0 : turnN r.number r.ws ((k : Int) + 1) = 6 := by unfold turnN; rw [if_pos Ht.out, if_neg hn]
          have h1 := (logErr_drop Hx.out).2 (by rw [h0]; decide)
          rw [h0] at h1
          have H1 := Lib.hid h1
          have hnb : (r.number != (k : Int) + 1) = true := by simpa using hn
          clear hn h0 h1
          go_wp2_with fail
          go_ret
          exact Hf.out _ _ (by rw [Herr.out, H1.out]) Hb1.out
    · have hkl : k = len := by omega
      subst hkl
      go_wp2_with fail
      go_ret
      refine Hf.out _ _ ?_ Hb.out
      rw [Herr.out, List.drop_of_length_le (by have := hlen.out; omega)]; rfl

set_option maxHeartbeats 1000000 in
theorem ref07check_any (A : Option Addr) (len cap : Nat) (rs : List RTx) (w : World) (hw : TxsAt w w.heap.size A len rs) (hl : len ≤ 4398046511104) :
    Calls Tryz.prog 45 #[.slice A len cap] w fun e w' => e = .returned (.int .i64 (logErr rs 1)) ∧ Below w.heap.size w w' := by
  have hlen := Lib.hid hw.1.len
  have hfin : ∀ (x : Int) (w' : World), logErr rs 1 = x → Below w.heap.size w w' → (Ending.returned (.int .i64 x) = .returned (.int .i64 (logErr rs 1)) ∧ Below w.heap.size w w') := fun x w' h h' => ⟨by rw [h], h'⟩
  have Hf := Lib.hid hfin
  clear hfin
  go_enter Tryz.func45, Tryz.ntmps45
  go_wp2_with fail
  go_loopw [3] (fun i wr => ∃ k : Nat, k ≤ len ∧ i = .int .i64 k ∧ logErr rs 1 = logErr (rs.drop k) ((k : Int) + 1) ∧ Below w.heap.size w wr) (fun i _ => len - (RowKit.intOf i).toNat)
  case atStart => exact ⟨0, Nat.zero_le _, rfl, rfl, Below.refl _ _⟩
  case round =>
    obtain ⟨k, hk, rfl, herr, hb⟩ := hrel
    have hr := hw.below hb
    have Hb := Lib.hid hb
    have Herr := Lib.hid herr
    have hs := hb.size
    clear hb herr
    by_cases hlt : k < len
    · obtain ⟨b, off, r, rfl, hbl, hx, x0, x1, hws, hrl⟩ := hr.cell2 hlt
      have Hx := Lib.hid hx
      have hws2 := hws.more hs
      clear hx
      go_wp2_with fail
      refine (refcheck_any r.number r.A r.len r.cap r.ws _ hws2).mono ?_
      rintro e w1 ⟨rfl, hb1⟩
      have hbl1 : b < wr.heap.size := by omega
      have y0 := (hb1.cell (p := ⟨b, off + k * 2, none⟩) hbl1).trans x0
      have Hb1 := Lib.hid (Hb.out.trans (hb1.mono hs))
      clear hb1
      cases ht : txB r.number r.ws
      · have Ht := Lib.hid ht
        clear ht
        rw [show errOf false = 1 from rfl]
        go_wp2_with fail
        go_ret
        refine Hf.out _ _ ?_ Hb1.out
        rw [Herr.out, (logErr_drop Hx.out).2 (by simp [turnN, Ht.out])]; simp [turnN, Ht.out]
      · have Ht := Lib.hid ht
        clear ht
        rw [show errOf true = 0 from rfl]
        by_cases hn : r.number = (k : Int) + 1
        · have h0 : turnN r.number r.ws ((k : Int) + 1) = 0 := by unfold turnN; rw [if_pos Ht.out, if_pos hn]
          have h1 := (logErr_drop Hx.out).1 h0
          have H1 := Lib.hid h1
          have hnb : (r.number != (k : Int) + 1) = false := by simp [hn]
          clear hn h0 h1
          go_wp2_with fail
          exact ⟨⟨k + 1, by omega, by go_num, by rw [Herr.out, H1.out]; simp, Hb1.out⟩, by simp [RowKit.intOf]; omega⟩
        · have h0 : turnN r.number r.ws ((k : Int) + 1) = 6 := by unfold turnN; rw [if_pos Ht.out, if_neg hn]
          have h1 := (logErr_drop Hx.out).2 (by rw [h0]; decide)
          rw [h0] at h1
          have H1 := Lib.hid h1
          have hnb : (r.number != (k : Int) + 1) = true := by simpa using hn
          clear hn h0 h1
          go_wp2_with fail
          go_ret
          exact Hf.out _ _ (by rw [Herr.out, H1.out]) Hb1.out
    · have hkl : k = len := by omega
      subst hkl
      go_wp2_with fail
      go_ret
      refine Hf.out _ _ ?_ Hb.out
      rw [Herr.out, List.drop_of_length_le (by have := hlen.out; omega)]; rfl
end Go.Proofs.YtafghiekpgjniaaGreatDoor

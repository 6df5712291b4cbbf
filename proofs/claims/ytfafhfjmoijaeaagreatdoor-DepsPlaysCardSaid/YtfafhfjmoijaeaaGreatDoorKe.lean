/- DepsPlays: asked; what a table has done, who waits, who is open, who wrote last. (Printed by gen_kd.py.) -/
import Derived.Test.YtfafhfjmoijaeaaGreatDoorKc
import Derived.Deep.QuietTactic
import Derived.BigQuiet
namespace Go.Proofs.YtfafhfjmoijaeaaGreatDoor
open Go.RowKit
set_option linter.unusedVariables false
set_option linter.unusedSimpArgs false

open Go.Maps
set_option maxRecDepth 100000
theorem p0N {w : World} {B n cap k : Nat} {A : Option Addr} {l : List Nat} (h : TkAt nC 1 3 w B A n cap l) (hn : n ≤ 17592186044345) (hk : k ≤ 1152921504606846976) : P0 mkInt 1 3 17592186044345 w B ⟨A, n, cap, k, none, 0, 0⟩ := ⟨h.le, hn, hk, h.empty⟩
theorem outO_le (L : List O1) (n : Nat) : (outO L n).length ≤ L.length := by unfold outO; rw [List.length_map]; exact List.length_filter_le _ _
theorem openO_le (L : List O1) : (openO L).length ≤ L.length := by unfold openO; rw [List.length_map]; exact List.length_filter_le _ _
theorem doneR_le (L : List O1) (z : Int) : (doneR L z).1.length ≤ L.length := by
  unfold doneR
  split
  · simp
  · split
    · exact outO_le _ _
    · simp
theorem waitR_le {m : Nat} {d : DT} {L : List O1} (h : KIn m d L) (z : Int) : (waitR L z).1.length ≤ 65536 := by
  unfold waitR
  cases hz : openZ L z with
  | none => simp
  | some o => simp only; have := h.num o (openZ_some hz).1; have := h.le; omega
theorem DPT.len_ {w : World} {lo gz gr N m n c : Nat} {t : TB} {d : DT} {A : Option Addr} {xs : List O2} (h : DPT w lo t gz gr N m d A n c xs) : (xs.map O2.o).length ≤ N := by rw [List.length_map, h.rr.tk.len]; exact h.nn
set_option maxHeartbeats 4000000 in
theorem asked2_any (lo : Nat) (t : TB) (gz gr gb N : Nat) (n tn : Int) (A : Option Addr) (len cap : Nat) (key : ByteArray) (w : World) (H : DPS w lo t gz gr gb N) (hN : N ≤ 8000) :
    Calls Tryz.prog 7 #[.pointer (some ⟨t.g, 0, none⟩), .pointer (some ⟨gr, 0, none⟩), OpV 2 n tn A len cap key, .pointer (some ⟨gb, 0, none⟩)] w (AskP w lo t gz gr gb (N + 1)) := by
  obtain ⟨m, d, A0, n0, c0, xs, cnt, xI, xW, hD, hB, hcnt, hlI, hlW, hsep⟩ := H
  have hlo := hD.lo_
  obtain ⟨W0, hW0⟩ : ∃ W0, W0 = w.alloc (.cells #[.int .u8 2, .int .i64 n, .int .i64 tn, .slice A len cap, .string key] 52) := ⟨_, rfl⟩
  have hb0 : Below w.heap.size w W0 := hW0 ▸ bel_alloc (Below.refl _ _) _
  have hblk : W0.heap[w.heap.size]? = some (.cells #[.int .u8 2, .int .i64 n, .int .i64 tn, .slice A len cap, .string key] 52 (0, 0)) := by rw [hW0]; exact blk_new _ _
  have x0 : W0.cell? ⟨w.heap.size, 0, none⟩ = some (.int .u8 2) := blk_cell hblk 0
  have x1 : W0.cell? ⟨w.heap.size, 1, none⟩ = some (.int .i64 n) := blk_cell hblk 1
  have Hb0 := Lib.hid hb0
  have HK0 : Hid (Bks W0 [(w.heap.size, #[.int .u8 2, .int .i64 n, .int .i64 tn, .slice A len cap, .string key], 52)]) := Lib.hid (fun p hp => by simp only [List.mem_singleton] at hp; subst hp; exact hblk)
  have HW0 := Lib.hid hW0
  have HD := Lib.hid hD
  have HB := Lib.hid hB
  have Hsep := Lib.hid hsep
  have Hlo := Lib.hid hlo
  have hz0 := hb0.size
  have hz0' : w.heap.size < W0.heap.size := blk_lt hblk
  have HD0 := Lib.hid (hD.below hb0)
  have HQ0 := Lib.hid (hB.kept (X := fun _ => False) (Kept.of_below hb0) (fun _ h => h.elim))
  clear hb0 hblk hsep hlo hW0 hD hB
  unfold OpV
  go_enter Tryz.func7, Tryz.ntmps7
  go_wp2_with fail
  rw [← HW0.out]
  go_wp2_with fail
  refine (tdone_u n _ HD0.out.kk HD0.out.tt).mono ?_
  rintro e w3 ⟨A1, c1, rfl, ht1, hT3, hk3⟩
  have hll := doneR_le (xs.map O2.o) n
  have hll2 := HD.out.len_
  obtain ⟨R, hR⟩ : ∃ R, R = doneR (xs.map O2.o) n := ⟨_, rfl⟩
  rw [← hR] at ht1 hll ⊢
  have HR := Lib.hid hR
  have Ht1 := Lib.hid ht1
  have HT3 := Lib.hid hT3
  have HK3 := Lib.hid (HK0.out.keptT hk3 (fun b hb => HD0.out.tt.typ hb) (by simp))
  have HR3 := Lib.hid (HD0.out.rr.keptT hk3 (fun b hb => HD0.out.tt.typ hb) (by simp))
  have HQ3 := Lib.hid (HQ0.out.keptT hk3 (fun b hb => HD0.out.tt.typ hb) (by simp))
  have HZ3 : Hid (ZeroT w3 gz) := Lib.hid (hk3.blk HD0.out.z (blk_lt HD0.out.z) HD0.out.ne)
  have HB3 : Hid (Below lo w w3) := Lib.hid ((Hb0.out.mono Hlo.out).trans (hk3.below (by have := Hlo.out; omega) HD.out.lot))
  have hz3 : W0.heap.size ≤ w3.heap.size := hk3.size
  have HA1 : Hid (∀ a, A1 = some a → w.heap.size ≤ a.block ∧ a.block < w3.heap.size) := Lib.hid (fun a ea => by have := ht1.lt ea; omega)
  have y1 : w3.cell? ⟨w.heap.size, 1, none⟩ = some (.int .i64 n) := blk_cell HK3.out.g0 1
  clear hT3 hk3 ht1 x0 x1 hR
  go_wp2_with fail
  refine (rdone_u n HD.out.kk HR3.out (by have := Hlo.out; omega) (by have := HD.out.nn; omega)).mono ?_
  rintro e w4 ⟨A2, c2, n2, rfl, ht2, hR4, hk4⟩
  rw [← HR.out] at ht2 ⊢
  have hn2 := ht2.len
  subst hn2
  have Ht2 := Lib.hid ht2
  have HR4 := Lib.hid hR4
  have Ht14 := Lib.hid (Ht1.out.kept hk4 (fun a ea hx => by obtain ⟨cs, hc⟩ := Ht1.out.ty ea; exact (HR3.out.typ2 _ hx).no hc (by simp)))
  have HQ4 := Lib.hid (HQ3.out.keptT hk4 HR3.out.typ2 (by simp))
  have HD4 : Hid (∃ m' d' A' n' c' ys, DPT w4 lo t gz gr (N + 1) m' d' A' n' c' ys ∧ ∀ q, hasL ys q → hasL xs q ∨ w3.heap.size ≤ q) := Lib.hid (by
    obtain ⟨m', d', q1, q2⟩ := HT3.out
    obtain ⟨ys, r1, r2, r3⟩ := hR4
    refine ⟨m', d', A0, n0, c0, ys, ⟨by rw [r1]; exact q1, q2.keptT hk4 fun b hb => ?_, r2, by have := HD.out.nn; omega, by rw [r1]; exact HD.out.w32.done _, hk4.blk HZ3.out (blk_lt HZ3.out) (fun hb => (HR3.out.typ2 _ hb).no HZ3.out (by simp)), HD.out.lot, HD.out.log⟩, r3⟩
    rcases hb with rfl | ⟨a, ea, rfl⟩
    · exact ⟨_, _, HR3.out.st, by decide⟩
    · obtain ⟨cs, hc⟩ := HR3.out.tk.ty ea; exact ⟨cs, _, hc, by decide⟩)
  have HB4 : Hid (Below lo w w4) := Lib.hid (HB3.out.trans (hk4.below (by have := Hlo.out; omega) (fun k hk => by
    rcases hk with rfl | ⟨a, ea, rfl⟩
    · exact HD.out.log
    · exact (HR3.out.tk.lt ea).1)))
  have hz4 : w3.heap.size ≤ w4.heap.size := hk4.size
  have r1 := Ht14.out.row
  have r2 := Ht2.out.row
  have e2 := beq_self_eq_true R.2
  clear hR4 hk4 ht2 y1
  go_wp2_with fail
  refine (sameN_any A1 R.1.length c1 A2 c2 R.1 w4 r1 r2 (by omega)).mono ?_
  rintro e w5 ⟨rfl, hb5⟩
  have HD5 : Hid (∃ m' d' A' n' c' ys, DPT w5 lo t gz gr (N + 1) m' d' A' n' c' ys ∧ ∀ q, hasL ys q → hasL xs q ∨ w3.heap.size ≤ q) := Lib.hid (by
    obtain ⟨m', d', A', n', c', ys, q1, q2⟩ := HD4.out
    exact ⟨m', d', A', n', c', ys, q1.below hb5, q2⟩)
  have HQ5 := Lib.hid (HQ4.out.kept (X := fun _ => False) (Kept.of_below hb5) (fun _ h => h.elim))
  have HB5 : Hid (Below lo w w5) := Lib.hid (HB4.out.trans (hb5.mono (by have := Hlo.out; omega)))
  have HP5 := Lib.hid (p0N (k := cnt + 1) ((Ht14.out.below hb5).more (show lo ≤ W0.heap.size by have := Hlo.out; omega)) (by omega) (by omega))
  clear r1 r2 hb5
  go_wp2_with fail
  refine (intsK_any gb lo cnt xI xW A1 R.1.length c1 w5 HQ5.out HP5.out (fun e he a c ea ec => by
    have h1 := (HB.out.inlt (Or.inl ⟨e, he, a, ea, rfl⟩)).2
    have h2 := HA1.out c ec
    omega) (by omega) (by omega)).mono ?_
  rintro e w6 ⟨rfl, hq6, hk6, hb6⟩
  have HQ6 := Lib.hid hq6
  have HB6 := Lib.hid (HB5.out.trans hb6)
  obtain ⟨m', d', A', n', c', ys, hd5, hy5⟩ := HD5.out
  have HD6 := Lib.hid (hd5.keptT hk6 (fun b hb => HQ5.out.typX b hb) (by decide))
  have Hy6 := Lib.hid hy5
  clear hq6 hk6 hb6 hd5 hy5
  go_wp2_with fail
  go_ret
  refine ⟨rfl, ⟨m', d', A', n', c', ys, cnt + 1, _, xW, HD6.out, HQ6.out, by omega, by simp; omega, by omega, fun q hq hx => ?_⟩, HB6.out⟩
  have hx' : (InE xI q ∨ InE xW q) ∨ ∃ a, A1 = some a ∧ q = a.block := by
    rcases hx with hx | hx
    · rcases hx.snoc with hx | hx
      · exact Or.inl (Or.inl hx)
      · exact Or.inr hx
    · exact Or.inl (Or.inr hx)
  rcases hx' with hx' | ⟨a, ea, rfl⟩
  · have h1 := (HB.out.inlt hx').2
    rcases Hy6.out q hq with h | h
    · exact Hsep.out q h hx'
    · omega
  · have h2 := HA1.out a ea
    rcases Hy6.out _ hq with h | h
    · have := (hasL.lt HD.out.rr h).2; omega
    · omega
set_option maxHeartbeats 4000000 in
theorem asked3_any (lo : Nat) (t : TB) (gz gr gb N : Nat) (n tn : Int) (A : Option Addr) (len cap : Nat) (key : ByteArray) (w : World) (H : DPS w lo t gz gr gb N) (hN : N ≤ 8000) :
    Calls Tryz.prog 7 #[.pointer (some ⟨t.g, 0, none⟩), .pointer (some ⟨gr, 0, none⟩), OpV 3 n tn A len cap key, .pointer (some ⟨gb, 0, none⟩)] w (AskP w lo t gz gr gb (N + 1)) := by
  obtain ⟨m, d, A0, n0, c0, xs, cnt, xI, xW, hD, hB, hcnt, hlI, hlW, hsep⟩ := H
  have hlo := hD.lo_
  obtain ⟨W0, hW0⟩ : ∃ W0, W0 = w.alloc (.cells #[.int .u8 3, .int .i64 n, .int .i64 tn, .slice A len cap, .string key] 52) := ⟨_, rfl⟩
  have hb0 : Below w.heap.size w W0 := hW0 ▸ bel_alloc (Below.refl _ _) _
  have hblk : W0.heap[w.heap.size]? = some (.cells #[.int .u8 3, .int .i64 n, .int .i64 tn, .slice A len cap, .string key] 52 (0, 0)) := by rw [hW0]; exact blk_new _ _
  have x0 : W0.cell? ⟨w.heap.size, 0, none⟩ = some (.int .u8 3) := blk_cell hblk 0
  have x1 : W0.cell? ⟨w.heap.size, 1, none⟩ = some (.int .i64 n) := blk_cell hblk 1
  have Hb0 := Lib.hid hb0
  have HK0 : Hid (Bks W0 [(w.heap.size, #[.int .u8 3, .int .i64 n, .int .i64 tn, .slice A len cap, .string key], 52)]) := Lib.hid (fun p hp => by simp only [List.mem_singleton] at hp; subst hp; exact hblk)
  have HW0 := Lib.hid hW0
  have HD := Lib.hid hD
  have HB := Lib.hid hB
  have Hsep := Lib.hid hsep
  have Hlo := Lib.hid hlo
  have hz0 := hb0.size
  have hz0' : w.heap.size < W0.heap.size := blk_lt hblk
  have HD0 := Lib.hid (hD.below hb0)
  have HQ0 := Lib.hid (hB.kept (X := fun _ => False) (Kept.of_below hb0) (fun _ h => h.elim))
  clear hb0 hblk hsep hlo hW0 hD hB
  unfold OpV
  go_enter Tryz.func7, Tryz.ntmps7
  go_wp2_with fail
  rw [← HW0.out]
  go_wp2_with fail
  refine (twaits_u n _ HD0.out.kk HD0.out.tt).mono ?_
  rintro e w3 ⟨A1, c1, rfl, ht1, hb3⟩
  have hll : (waitR (xs.map O2.o) n).1.length ≤ 65536 := waitR_le HD0.out.kk n
  obtain ⟨R, hR⟩ : ∃ R, R = (waitR (xs.map O2.o) n) := ⟨_, rfl⟩
  rw [← hR] at ht1 hll ⊢
  have HR := Lib.hid hR
  have Ht1 := Lib.hid ht1
  have HK3 := Lib.hid (HK0.out.below hb3)
  have HD3 := Lib.hid (HD0.out.below hb3)
  have HQ3 := Lib.hid (HQ0.out.kept (X := fun _ => False) (Kept.of_below hb3) (fun _ h => h.elim))
  have HB3 : Hid (Below lo w w3) := Lib.hid ((Hb0.out.mono Hlo.out).trans (hb3.mono (by have := Hlo.out; omega)))
  have hz3 : W0.heap.size ≤ w3.heap.size := hb3.size
  have HA1 : Hid (∀ a, A1 = some a → w.heap.size ≤ a.block ∧ a.block < w3.heap.size) := Lib.hid (fun a ea => by have := ht1.lt ea; omega)
  have y1 : w3.cell? ⟨w.heap.size, 1, none⟩ = some (.int .i64 n) := blk_cell HK3.out.g0 1
  clear hb3 ht1 x0 x1 hR
  go_wp2_with fail
  refine (rwaits_u n HD3.out.rr (by have := HD.out.nn; omega)).mono ?_
  rintro e w4 ⟨A2, c2, rfl, r2, rfl⟩
  rw [← HR.out] at r2 ⊢
  have r1 := Ht1.out.row
  have e2 := beq_self_eq_true R.2
  clear y1
  go_wp2_with fail
  refine (sameN_any A1 R.1.length c1 A2 c2 R.1 w3 r1 r2 (by omega)).mono ?_
  rintro e w5 ⟨rfl, hb5⟩
  have hb5' : Below w3.heap.size w3 w5 := hb5
  have HD5 : Hid (∃ m' d' A' n' c' ys, DPT w5 lo t gz gr (N + 1) m' d' A' n' c' ys ∧ ∀ q, hasL ys q → hasL xs q ∨ w3.heap.size ≤ q) := Lib.hid ⟨m, d, A0, n0, c0, xs, (HD3.out.below hb5').up, fun q hq => Or.inl hq⟩
  have HQ5 := Lib.hid (HQ3.out.kept (X := fun _ => False) (Kept.of_below hb5') (fun _ h => h.elim))
  have HB5 : Hid (Below lo w w5) := Lib.hid (HB3.out.trans (hb5'.mono (by have := Hlo.out; omega)))
  have HP5 := Lib.hid (p0N (k := cnt + 1) ((Ht1.out.below hb5').more (show lo ≤ W0.heap.size by have := Hlo.out; omega)) (by omega) (by omega))
  clear r1 r2 hb5 hb5'
  go_wp2_with fail
  refine (intsK_any gb lo cnt xI xW A1 R.1.length c1 w5 HQ5.out HP5.out (fun e he a c ea ec => by
    have h1 := (HB.out.inlt (Or.inl ⟨e, he, a, ea, rfl⟩)).2
    have h2 := HA1.out c ec
    omega) (by omega) (by omega)).mono ?_
  rintro e w6 ⟨rfl, hq6, hk6, hb6⟩
  have HQ6 := Lib.hid hq6
  have HB6 := Lib.hid (HB5.out.trans hb6)
  obtain ⟨m', d', A', n', c', ys, hd5, hy5⟩ := HD5.out
  have HD6 := Lib.hid (hd5.keptT hk6 (fun b hb => HQ5.out.typX b hb) (by decide))
  have Hy6 := Lib.hid hy5
  clear hq6 hk6 hb6 hd5 hy5
  go_wp2_with fail
  go_ret
  refine ⟨rfl, ⟨m', d', A', n', c', ys, cnt + 1, _, xW, HD6.out, HQ6.out, by omega, by simp; omega, by omega, fun q hq hx => ?_⟩, HB6.out⟩
  have hx' : (InE xI q ∨ InE xW q) ∨ ∃ a, A1 = some a ∧ q = a.block := by
    rcases hx with hx | hx
    · rcases hx.snoc with hx | hx
      · exact Or.inl (Or.inl hx)
      · exact Or.inr hx
    · exact Or.inl (Or.inr hx)
  rcases hx' with hx' | ⟨a, ea, rfl⟩
  · have h1 := (HB.out.inlt hx').2
    rcases Hy6.out q hq with h | h
    · exact Hsep.out q h hx'
    · omega
  · have h2 := HA1.out a ea
    rcases Hy6.out _ hq with h | h
    · have := (hasL.lt HD.out.rr h).2; omega
    · omega
set_option maxHeartbeats 4000000 in
theorem asked5_any (lo : Nat) (t : TB) (gz gr gb N : Nat) (n tn : Int) (A : Option Addr) (len cap : Nat) (key : ByteArray) (w : World) (H : DPS w lo t gz gr gb N) (hN : N ≤ 8000) (kd : Int) (h1 : ¬ kd = 1) (h2 : ¬ kd = 2) (h3 : ¬ kd = 3) (h4 : ¬ kd = 4) :
    Calls Tryz.prog 7 #[.pointer (some ⟨t.g, 0, none⟩), .pointer (some ⟨gr, 0, none⟩), OpV kd n tn A len cap key, .pointer (some ⟨gb, 0, none⟩)] w (AskP w lo t gz gr gb (N + 1)) := by
  obtain ⟨m, d, A0, n0, c0, xs, cnt, xI, xW, hD, hB, hcnt, hlI, hlW, hsep⟩ := H
  have hlo := hD.lo_
  obtain ⟨W0, hW0⟩ : ∃ W0, W0 = w.alloc (.cells #[.int .u8 kd, .int .i64 n, .int .i64 tn, .slice A len cap, .string key] 52) := ⟨_, rfl⟩
  have hb0 : Below w.heap.size w W0 := hW0 ▸ bel_alloc (Below.refl _ _) _
  have hblk : W0.heap[w.heap.size]? = some (.cells #[.int .u8 kd, .int .i64 n, .int .i64 tn, .slice A len cap, .string key] 52 (0, 0)) := by rw [hW0]; exact blk_new _ _
  have x0 : W0.cell? ⟨w.heap.size, 0, none⟩ = some (.int .u8 kd) := blk_cell hblk 0
  have x1 : W0.cell? ⟨w.heap.size, 1, none⟩ = some (.int .i64 n) := blk_cell hblk 1
  have Hb0 := Lib.hid hb0
  have HK0 : Hid (Bks W0 [(w.heap.size, #[.int .u8 kd, .int .i64 n, .int .i64 tn, .slice A len cap, .string key], 52)]) := Lib.hid (fun p hp => by simp only [List.mem_singleton] at hp; subst hp; exact hblk)
  have HW0 := Lib.hid hW0
  have HD := Lib.hid hD
  have HB := Lib.hid hB
  have Hsep := Lib.hid hsep
  have Hlo := Lib.hid hlo
  have hz0 := hb0.size
  have hz0' : w.heap.size < W0.heap.size := blk_lt hblk
  have HD0 := Lib.hid (hD.below hb0)
  have HQ0 := Lib.hid (hB.kept (X := fun _ => False) (Kept.of_below hb0) (fun _ h => h.elim))
  clear hb0 hblk hsep hlo hW0 hD hB
  unfold OpV
  go_enter Tryz.func7, Tryz.ntmps7
  go_wp2_with fail
  rw [← HW0.out]
  go_wp2_with fail
  refine (topen_u _ HD0.out.kk HD0.out.tt).mono ?_
  rintro e w3 ⟨A1, c1, rfl, ht1, hb3⟩
  have hll : (openO (xs.map O2.o)).length ≤ 65536 := Nat.le_trans (openO_le _) (by have := HD.out.len_; omega)
  obtain ⟨R, hR⟩ : ∃ R, R = (openO (xs.map O2.o)) := ⟨_, rfl⟩
  rw [← hR] at ht1 hll ⊢
  have HR := Lib.hid hR
  have Ht1 := Lib.hid ht1
  have HK3 := Lib.hid (HK0.out.below hb3)
  have HD3 := Lib.hid (HD0.out.below hb3)
  have HQ3 := Lib.hid (HQ0.out.kept (X := fun _ => False) (Kept.of_below hb3) (fun _ h => h.elim))
  have HB3 : Hid (Below lo w w3) := Lib.hid ((Hb0.out.mono Hlo.out).trans (hb3.mono (by have := Hlo.out; omega)))
  have hz3 : W0.heap.size ≤ w3.heap.size := hb3.size
  have HA1 : Hid (∀ a, A1 = some a → w.heap.size ≤ a.block ∧ a.block < w3.heap.size) := Lib.hid (fun a ea => by have := ht1.lt ea; omega)
  have y1 : w3.cell? ⟨w.heap.size, 1, none⟩ = some (.int .i64 n) := blk_cell HK3.out.g0 1
  clear hb3 ht1 x0 x1 hR
  go_wp2_with fail
  refine (r11open_any lo gr A0 n0 c0 xs w3 HD3.out.rr (by have := HD.out.nn; omega)).mono ?_
  rintro e w4 ⟨A2, n2, c2, rfl, ht2, hb4, -⟩
  rw [← HR.out] at ht2
  have hn2 := ht2.len
  subst hn2
  have r1 := (Ht1.out.below hb4).row
  have r2 := ht2.row
  have Hb4 := Lib.hid hb4
  clear y1 hb4 ht2
  go_wp2_with fail
  refine (sameN_any A1 R.length c1 A2 c2 R w4 r1 r2 (by omega)).mono ?_
  rintro e w5 ⟨rfl, hb5⟩
  have hb5' : Below w3.heap.size w3 w5 := Hb4.out.trans (hb5.mono Hb4.out.size)
  have HD5 : Hid (∃ m' d' A' n' c' ys, DPT w5 lo t gz gr (N + 1) m' d' A' n' c' ys ∧ ∀ q, hasL ys q → hasL xs q ∨ w3.heap.size ≤ q) := Lib.hid ⟨m, d, A0, n0, c0, xs, (HD3.out.below hb5').up, fun q hq => Or.inl hq⟩
  have HQ5 := Lib.hid (HQ3.out.kept (X := fun _ => False) (Kept.of_below hb5') (fun _ h => h.elim))
  have HB5 : Hid (Below lo w w5) := Lib.hid (HB3.out.trans (hb5'.mono (by have := Hlo.out; omega)))
  have HP5 := Lib.hid (p0N (k := cnt + 1) ((Ht1.out.below hb5').more (show lo ≤ W0.heap.size by have := Hlo.out; omega)) (by omega) (by omega))
  clear r1 r2 hb5 hb5'
  go_wp2_with fail
  refine (intsK_any gb lo cnt xI xW A1 R.length c1 w5 HQ5.out HP5.out (fun e he a c ea ec => by
    have h1 := (HB.out.inlt (Or.inl ⟨e, he, a, ea, rfl⟩)).2
    have h2 := HA1.out c ec
    omega) (by omega) (by omega)).mono ?_
  rintro e w6 ⟨rfl, hq6, hk6, hb6⟩
  have HQ6 := Lib.hid hq6
  have HB6 := Lib.hid (HB5.out.trans hb6)
  obtain ⟨m', d', A', n', c', ys, hd5, hy5⟩ := HD5.out
  have HD6 := Lib.hid (hd5.keptT hk6 (fun b hb => HQ5.out.typX b hb) (by decide))
  have Hy6 := Lib.hid hy5
  clear hq6 hk6 hb6 hd5 hy5
  go_wp2_with fail
  go_ret
  refine ⟨rfl, ⟨m', d', A', n', c', ys, cnt + 1, _, xW, HD6.out, HQ6.out, by omega, by simp; omega, by omega, fun q hq hx => ?_⟩, HB6.out⟩
  have hx' : (InE xI q ∨ InE xW q) ∨ ∃ a, A1 = some a ∧ q = a.block := by
    rcases hx with hx | hx
    · rcases hx.snoc with hx | hx
      · exact Or.inl (Or.inl hx)
      · exact Or.inr hx
    · exact Or.inl (Or.inr hx)
  rcases hx' with hx' | ⟨a, ea, rfl⟩
  · have h1 := (HB.out.inlt hx').2
    rcases Hy6.out q hq with h | h
    · exact Hsep.out q h hx'
    · omega
  · have h2 := HA1.out a ea
    rcases Hy6.out _ hq with h | h
    · have := (hasL.lt HD.out.rr h).2; omega
    · omega
set_option maxHeartbeats 4000000 in
theorem asked02_any (lo : Nat) (t : TB) (gz gr gb N : Nat) (n tn : Int) (A : Option Addr) (len cap : Nat) (key : ByteArray) (w : World) (H : DPS w lo t gz gr gb N) (hN : N ≤ 8000) :
    Calls Tryz.prog 7 #[.pointer (some ⟨gz, 0, none⟩), .pointer none, OpV 2 n tn A len cap key, .pointer (some ⟨gb, 0, none⟩)] w (AskP w lo t gz gr gb (N + 1)) := by
  obtain ⟨m, d, A0, n0, c0, xs, cnt, xI, xW, hD, hB, hcnt, hlI, hlW, hsep⟩ := H
  have hlo := hD.lo_
  obtain ⟨W0, hW0⟩ : ∃ W0, W0 = w.alloc (.cells #[.int .u8 2, .int .i64 n, .int .i64 tn, .slice A len cap, .string key] 52) := ⟨_, rfl⟩
  have hb0 : Below w.heap.size w W0 := hW0 ▸ bel_alloc (Below.refl _ _) _
  have hblk : W0.heap[w.heap.size]? = some (.cells #[.int .u8 2, .int .i64 n, .int .i64 tn, .slice A len cap, .string key] 52 (0, 0)) := by rw [hW0]; exact blk_new _ _
  have x0 : W0.cell? ⟨w.heap.size, 0, none⟩ = some (.int .u8 2) := blk_cell hblk 0
  have x1 : W0.cell? ⟨w.heap.size, 1, none⟩ = some (.int .i64 n) := blk_cell hblk 1
  have Hb0 := Lib.hid hb0
  have HK0 : Hid (Bks W0 [(w.heap.size, #[.int .u8 2, .int .i64 n, .int .i64 tn, .slice A len cap, .string key], 52)]) := Lib.hid (fun p hp => by simp only [List.mem_singleton] at hp; subst hp; exact hblk)
  have HW0 := Lib.hid hW0
  have HD := Lib.hid hD
  have HB := Lib.hid hB
  have Hsep := Lib.hid hsep
  have Hlo := Lib.hid hlo
  have hz0 := hb0.size
  have hz0' : w.heap.size < W0.heap.size := blk_lt hblk
  have HD0 := Lib.hid (hD.below hb0)
  have HQ0 := Lib.hid (hB.kept (X := fun _ => False) (Kept.of_below hb0) (fun _ h => h.elim))
  clear hb0 hblk hsep hlo hW0 hD hB
  unfold OpV
  go_enter Tryz.func7, Tryz.ntmps7
  go_wp2_with fail
  rw [← HW0.out]
  go_wp2_with fail
  refine (zdone_any gz W0 HD0.out.z n).mono ?_
  rintro e w3 ⟨rfl, rfl⟩
  go_wp2_with fail
  refine (r11done_nil n W0).mono ?_
  rintro e w4 ⟨rfl, rfl⟩
  have r1 : RowAt nC 1 W0 W0.heap.size none 0 [] := (TkAt.nil (cells := nC) (size := 1) (e := 3) W0 0).row
  clear x0 x1
  go_wp2_with fail
  refine (sameN_any none 0 0 none 0 [] W0 r1 r1 (by omega)).mono ?_
  rintro e w5 ⟨rfl, hb5⟩
  have HD5 : Hid (∃ m' d' A' n' c' ys, DPT w5 lo t gz gr (N + 1) m' d' A' n' c' ys ∧ ∀ q, hasL ys q → hasL xs q ∨ W0.heap.size ≤ q) := Lib.hid ⟨m, d, A0, n0, c0, xs, (HD0.out.below hb5).up, fun q hq => Or.inl hq⟩
  have HQ5 := Lib.hid (HQ0.out.kept (X := fun _ => False) (Kept.of_below hb5) (fun _ h => h.elim))
  have HB5 : Hid (Below lo w w5) := Lib.hid ((Hb0.out.mono Hlo.out).trans (hb5.mono (by have := Hlo.out; omega)))
  have HP5 := Lib.hid (p0N (k := cnt + 1) (TkAt.nil (cells := nC) (size := 1) (e := 3) w5 lo) (by omega) (by omega))
  have HA1 : Hid (∀ a, (none : Option Addr) = some a → w.heap.size ≤ a.block ∧ a.block < W0.heap.size) := Lib.hid (fun a ea => by cases ea)
  clear r1 hb5
  go_wp2_with fail
  refine (intsK_any gb lo cnt xI xW none 0 0 w5 HQ5.out HP5.out (fun e he a c ea ec => by
    have h1 := (HB.out.inlt (Or.inl ⟨e, he, a, ea, rfl⟩)).2
    have h2 := HA1.out c ec
    omega) (by omega) (by omega)).mono ?_
  rintro e w6 ⟨rfl, hq6, hk6, hb6⟩
  have HQ6 := Lib.hid hq6
  have HB6 := Lib.hid (HB5.out.trans hb6)
  obtain ⟨m', d', A', n', c', ys, hd5, hy5⟩ := HD5.out
  have HD6 := Lib.hid (hd5.keptT hk6 (fun b hb => HQ5.out.typX b hb) (by decide))
  have Hy6 := Lib.hid hy5
  clear hq6 hk6 hb6 hd5 hy5
  go_wp2_with fail
  go_ret
  refine ⟨rfl, ⟨m', d', A', n', c', ys, cnt + 1, _, xW, HD6.out, HQ6.out, by omega, by simp; omega, by omega, fun q hq hx => ?_⟩, HB6.out⟩
  have hx' : (InE xI q ∨ InE xW q) ∨ ∃ a, (none : Option Addr) = some a ∧ q = a.block := by
    rcases hx with hx | hx
    · rcases hx.snoc with hx | hx
      · exact Or.inl (Or.inl hx)
      · exact Or.inr hx
    · exact Or.inl (Or.inr hx)
  rcases hx' with hx' | ⟨a, ea, rfl⟩
  · have h1 := (HB.out.inlt hx').2
    rcases Hy6.out q hq with h | h
    · exact Hsep.out q h hx'
    · omega
  · have h2 := HA1.out a ea
    rcases Hy6.out _ hq with h | h
    · have := (hasL.lt HD.out.rr h).2; omega
    · omega
set_option maxHeartbeats 4000000 in
theorem asked03_any (lo : Nat) (t : TB) (gz gr gb N : Nat) (n tn : Int) (A : Option Addr) (len cap : Nat) (key : ByteArray) (w : World) (H : DPS w lo t gz gr gb N) (hN : N ≤ 8000) :
    Calls Tryz.prog 7 #[.pointer (some ⟨gz, 0, none⟩), .pointer none, OpV 3 n tn A len cap key, .pointer (some ⟨gb, 0, none⟩)] w (AskP w lo t gz gr gb (N + 1)) := by
  obtain ⟨m, d, A0, n0, c0, xs, cnt, xI, xW, hD, hB, hcnt, hlI, hlW, hsep⟩ := H
  have hlo := hD.lo_
  obtain ⟨W0, hW0⟩ : ∃ W0, W0 = w.alloc (.cells #[.int .u8 3, .int .i64 n, .int .i64 tn, .slice A len cap, .string key] 52) := ⟨_, rfl⟩
  have hb0 : Below w.heap.size w W0 := hW0 ▸ bel_alloc (Below.refl _ _) _
  have hblk : W0.heap[w.heap.size]? = some (.cells #[.int .u8 3, .int .i64 n, .int .i64 tn, .slice A len cap, .string key] 52 (0, 0)) := by rw [hW0]; exact blk_new _ _
  have x0 : W0.cell? ⟨w.heap.size, 0, none⟩ = some (.int .u8 3) := blk_cell hblk 0
  have x1 : W0.cell? ⟨w.heap.size, 1, none⟩ = some (.int .i64 n) := blk_cell hblk 1
  have Hb0 := Lib.hid hb0
  have HK0 : Hid (Bks W0 [(w.heap.size, #[.int .u8 3, .int .i64 n, .int .i64 tn, .slice A len cap, .string key], 52)]) := Lib.hid (fun p hp => by simp only [List.mem_singleton] at hp; subst hp; exact hblk)
  have HW0 := Lib.hid hW0
  have HD := Lib.hid hD
  have HB := Lib.hid hB
  have Hsep := Lib.hid hsep
  have Hlo := Lib.hid hlo
  have hz0 := hb0.size
  have hz0' : w.heap.size < W0.heap.size := blk_lt hblk
  have HD0 := Lib.hid (hD.below hb0)
  have HQ0 := Lib.hid (hB.kept (X := fun _ => False) (Kept.of_below hb0) (fun _ h => h.elim))
  clear hb0 hblk hsep hlo hW0 hD hB
  unfold OpV
  go_enter Tryz.func7, Tryz.ntmps7
  go_wp2_with fail
  rw [← HW0.out]
  go_wp2_with fail
  refine (zwaits_any gz W0 HD0.out.z n).mono ?_
  rintro e w3 ⟨rfl, rfl⟩
  go_wp2_with fail
  refine (r11waits_nil n W0).mono ?_
  rintro e w4 ⟨rfl, rfl⟩
  have r1 : RowAt nC 1 W0 W0.heap.size none 0 [] := (TkAt.nil (cells := nC) (size := 1) (e := 3) W0 0).row
  clear x0 x1
  go_wp2_with fail
  refine (sameN_any none 0 0 none 0 [] W0 r1 r1 (by omega)).mono ?_
  rintro e w5 ⟨rfl, hb5⟩
  have HD5 : Hid (∃ m' d' A' n' c' ys, DPT w5 lo t gz gr (N + 1) m' d' A' n' c' ys ∧ ∀ q, hasL ys q → hasL xs q ∨ W0.heap.size ≤ q) := Lib.hid ⟨m, d, A0, n0, c0, xs, (HD0.out.below hb5).up, fun q hq => Or.inl hq⟩
  have HQ5 := Lib.hid (HQ0.out.kept (X := fun _ => False) (Kept.of_below hb5) (fun _ h => h.elim))
  have HB5 : Hid (Below lo w w5) := Lib.hid ((Hb0.out.mono Hlo.out).trans (hb5.mono (by have := Hlo.out; omega)))
  have HP5 := Lib.hid (p0N (k := cnt + 1) (TkAt.nil (cells := nC) (size := 1) (e := 3) w5 lo) (by omega) (by omega))
  have HA1 : Hid (∀ a, (none : Option Addr) = some a → w.heap.size ≤ a.block ∧ a.block < W0.heap.size) := Lib.hid (fun a ea => by cases ea)
  clear r1 hb5
  go_wp2_with fail
  refine (intsK_any gb lo cnt xI xW none 0 0 w5 HQ5.out HP5.out (fun e he a c ea ec => by
    have h1 := (HB.out.inlt (Or.inl ⟨e, he, a, ea, rfl⟩)).2
    have h2 := HA1.out c ec
    omega) (by omega) (by omega)).mono ?_
  rintro e w6 ⟨rfl, hq6, hk6, hb6⟩
  have HQ6 := Lib.hid hq6
  have HB6 := Lib.hid (HB5.out.trans hb6)
  obtain ⟨m', d', A', n', c', ys, hd5, hy5⟩ := HD5.out
  have HD6 := Lib.hid (hd5.keptT hk6 (fun b hb => HQ5.out.typX b hb) (by decide))
  have Hy6 := Lib.hid hy5
  clear hq6 hk6 hb6 hd5 hy5
  go_wp2_with fail
  go_ret
  refine ⟨rfl, ⟨m', d', A', n', c', ys, cnt + 1, _, xW, HD6.out, HQ6.out, by omega, by simp; omega, by omega, fun q hq hx => ?_⟩, HB6.out⟩
  have hx' : (InE xI q ∨ InE xW q) ∨ ∃ a, (none : Option Addr) = some a ∧ q = a.block := by
    rcases hx with hx | hx
    · rcases hx.snoc with hx | hx
      · exact Or.inl (Or.inl hx)
      · exact Or.inr hx
    · exact Or.inl (Or.inr hx)
  rcases hx' with hx' | ⟨a, ea, rfl⟩
  · have h1 := (HB.out.inlt hx').2
    rcases Hy6.out q hq with h | h
    · exact Hsep.out q h hx'
    · omega
  · have h2 := HA1.out a ea
    rcases Hy6.out _ hq with h | h
    · have := (hasL.lt HD.out.rr h).2; omega
    · omega
set_option maxHeartbeats 4000000 in
theorem asked05_any (lo : Nat) (t : TB) (gz gr gb N : Nat) (n tn : Int) (A : Option Addr) (len cap : Nat) (key : ByteArray) (w : World) (H : DPS w lo t gz gr gb N) (hN : N ≤ 8000) (kd : Int) (h1 : ¬ kd = 1) (h2 : ¬ kd = 2) (h3 : ¬ kd = 3) (h4 : ¬ kd = 4) :
    Calls Tryz.prog 7 #[.pointer (some ⟨gz, 0, none⟩), .pointer none, OpV kd n tn A len cap key, .pointer (some ⟨gb, 0, none⟩)] w (AskP w lo t gz gr gb (N + 1)) := by
  obtain ⟨m, d, A0, n0, c0, xs, cnt, xI, xW, hD, hB, hcnt, hlI, hlW, hsep⟩ := H
  have hlo := hD.lo_
  obtain ⟨W0, hW0⟩ : ∃ W0, W0 = w.alloc (.cells #[.int .u8 kd, .int .i64 n, .int .i64 tn, .slice A len cap, .string key] 52) := ⟨_, rfl⟩
  have hb0 : Below w.heap.size w W0 := hW0 ▸ bel_alloc (Below.refl _ _) _
  have hblk : W0.heap[w.heap.size]? = some (.cells #[.int .u8 kd, .int .i64 n, .int .i64 tn, .slice A len cap, .string key] 52 (0, 0)) := by rw [hW0]; exact blk_new _ _
  have x0 : W0.cell? ⟨w.heap.size, 0, none⟩ = some (.int .u8 kd) := blk_cell hblk 0
  have x1 : W0.cell? ⟨w.heap.size, 1, none⟩ = some (.int .i64 n) := blk_cell hblk 1
  have Hb0 := Lib.hid hb0
  have HK0 : Hid (Bks W0 [(w.heap.size, #[.int .u8 kd, .int .i64 n, .int .i64 tn, .slice A len cap, .string key], 52)]) := Lib.hid (fun p hp => by simp only [List.mem_singleton] at hp; subst hp; exact hblk)
  have HW0 := Lib.hid hW0
  have HD := Lib.hid hD
  have HB := Lib.hid hB
  have Hsep := Lib.hid hsep
  have Hlo := Lib.hid hlo
  have hz0 := hb0.size
  have hz0' : w.heap.size < W0.heap.size := blk_lt hblk
  have HD0 := Lib.hid (hD.below hb0)
  have HQ0 := Lib.hid (hB.kept (X := fun _ => False) (Kept.of_below hb0) (fun _ h => h.elim))
  clear hb0 hblk hsep hlo hW0 hD hB
  unfold OpV
  go_enter Tryz.func7, Tryz.ntmps7
  go_wp2_with fail
  rw [← HW0.out]
  go_wp2_with fail
  refine (zopen_any gz W0 HD0.out.z).mono ?_
  rintro e w3 ⟨rfl, rfl⟩
  go_wp2_with fail
  refine (r11open_nil W0).mono ?_
  rintro e w4 ⟨rfl, rfl⟩
  have r1 : RowAt nC 1 W0 W0.heap.size none 0 [] := (TkAt.nil (cells := nC) (size := 1) (e := 3) W0 0).row
  clear x0 x1
  go_wp2_with fail
  refine (sameN_any none 0 0 none 0 [] W0 r1 r1 (by omega)).mono ?_
  rintro e w5 ⟨rfl, hb5⟩
  have HD5 : Hid (∃ m' d' A' n' c' ys, DPT w5 lo t gz gr (N + 1) m' d' A' n' c' ys ∧ ∀ q, hasL ys q → hasL xs q ∨ W0.heap.size ≤ q) := Lib.hid ⟨m, d, A0, n0, c0, xs, (HD0.out.below hb5).up, fun q hq => Or.inl hq⟩
  have HQ5 := Lib.hid (HQ0.out.kept (X := fun _ => False) (Kept.of_below hb5) (fun _ h => h.elim))
  have HB5 : Hid (Below lo w w5) := Lib.hid ((Hb0.out.mono Hlo.out).trans (hb5.mono (by have := Hlo.out; omega)))
  have HP5 := Lib.hid (p0N (k := cnt + 1) (TkAt.nil (cells := nC) (size := 1) (e := 3) w5 lo) (by omega) (by omega))
  have HA1 : Hid (∀ a, (none : Option Addr) = some a → w.heap.size ≤ a.block ∧ a.block < W0.heap.size) := Lib.hid (fun a ea => by cases ea)
  clear r1 hb5
  go_wp2_with fail
  refine (intsK_any gb lo cnt xI xW none 0 0 w5 HQ5.out HP5.out (fun e he a c ea ec => by
    have h1 := (HB.out.inlt (Or.inl ⟨e, he, a, ea, rfl⟩)).2
    have h2 := HA1.out c ec
    omega) (by omega) (by omega)).mono ?_
  rintro e w6 ⟨rfl, hq6, hk6, hb6⟩
  have HQ6 := Lib.hid hq6
  have HB6 := Lib.hid (HB5.out.trans hb6)
  obtain ⟨m', d', A', n', c', ys, hd5, hy5⟩ := HD5.out
  have HD6 := Lib.hid (hd5.keptT hk6 (fun b hb => HQ5.out.typX b hb) (by decide))
  have Hy6 := Lib.hid hy5
  clear hq6 hk6 hb6 hd5 hy5
  go_wp2_with fail
  go_ret
  refine ⟨rfl, ⟨m', d', A', n', c', ys, cnt + 1, _, xW, HD6.out, HQ6.out, by omega, by simp; omega, by omega, fun q hq hx => ?_⟩, HB6.out⟩
  have hx' : (InE xI q ∨ InE xW q) ∨ ∃ a, (none : Option Addr) = some a ∧ q = a.block := by
    rcases hx with hx | hx
    · rcases hx.snoc with hx | hx
      · exact Or.inl (Or.inl hx)
      · exact Or.inr hx
    · exact Or.inl (Or.inr hx)
  rcases hx' with hx' | ⟨a, ea, rfl⟩
  · have h1 := (HB.out.inlt hx').2
    rcases Hy6.out q hq with h | h
    · exact Hsep.out q h hx'
    · omega
  · have h2 := HA1.out a ea
    rcases Hy6.out _ hq with h | h
    · have := (hasL.lt HD.out.rr h).2; omega
    · omega
set_option maxHeartbeats 4000000 in
theorem asked4_any (lo : Nat) (t : TB) (gz gr gb N : Nat) (n tn : Int) (A : Option Addr) (len cap : Nat) (key : ByteArray) (w : World) (H : DPS w lo t gz gr gb N) (hN : N ≤ 8000) :
    Calls Tryz.prog 7 #[.pointer (some ⟨t.g, 0, none⟩), .pointer (some ⟨gr, 0, none⟩), OpV 4 n tn A len cap key, .pointer (some ⟨gb, 0, none⟩)] w (AskP w lo t gz gr gb (N + 1)) := by
  obtain ⟨m, d, A0, n0, c0, xs, cnt, xI, xW, hD, hB, hcnt, hlI, hlW, hsep⟩ := H
  have hlo := hD.lo_
  obtain ⟨W0, hW0⟩ : ∃ W0, W0 = w.alloc (.cells #[.int .u8 4, .int .i64 n, .int .i64 tn, .slice A len cap, .string key] 52) := ⟨_, rfl⟩
  have hb0 : Below w.heap.size w W0 := hW0 ▸ bel_alloc (Below.refl _ _) _
  have hblk : W0.heap[w.heap.size]? = some (.cells #[.int .u8 4, .int .i64 n, .int .i64 tn, .slice A len cap, .string key] 52 (0, 0)) := by rw [hW0]; exact blk_new _ _
  have x0 : W0.cell? ⟨w.heap.size, 0, none⟩ = some (.int .u8 4) := blk_cell hblk 0
  have x1 : W0.cell? ⟨w.heap.size, 1, none⟩ = some (.int .i64 n) := blk_cell hblk 1
  have x4 : W0.cell? ⟨w.heap.size, 4, none⟩ = some (.string key) := blk_cell hblk 4
  have Hb0 := Lib.hid hb0
  have HK0 : Hid (Bks W0 [(w.heap.size, #[.int .u8 4, .int .i64 n, .int .i64 tn, .slice A len cap, .string key], 52)]) := Lib.hid (fun p hp => by simp only [List.mem_singleton] at hp; subst hp; exact hblk)
  have HW0 := Lib.hid hW0
  have HD := Lib.hid hD
  have HB := Lib.hid hB
  have Hsep := Lib.hid hsep
  have Hlo := Lib.hid hlo
  have hz0 := hb0.size
  have hz0' : w.heap.size < W0.heap.size := blk_lt hblk
  have HD0 := Lib.hid (hD.below hb0)
  have HQ0 := Lib.hid (hB.kept (X := fun _ => False) (Kept.of_below hb0) (fun _ h => h.elim))
  clear hb0 hblk hsep hlo hW0 hD hB
  unfold OpV
  go_enter Tryz.func7, Tryz.ntmps7
  go_wp2_with fail
  rw [← HW0.out]
  go_wp2_with fail
  have HL1 : Hid (∀ k, Calls Tryz.prog 21 #[.pointer (some ⟨t.g, 0, none⟩), .string key] (W0.drewN k) fun e w' => e = .returned (.int .i64 (lastV (lastO (xs.map O2.o) key))) ∧ w' = W0.drewN k) := Lib.hid (fun k => by
    have h := tlast_any t d key (W0.drewN k) (HD0.out.tt.below (bel_drewN (Below.refl _ _) _))
    have h2 := HD0.out.kk.lastn key
    have h3 : (mget d.last key).getD 0 = lastV (lastO (xs.map O2.o) key) := by rw [h2]; cases lastO (xs.map O2.o) key <;> rfl
    rwa [h3] at h)
  have HL2 : Hid (∀ k, Calls Tryz.prog 22 #[.pointer (some ⟨gr, 0, none⟩), .string key] (W0.drewN k) fun e w' => e = .returned (.int .i64 (lastV (lastO (xs.map O2.o) key))) ∧ w' = W0.drewN k) := Lib.hid (fun k => by
    refine (r11Last_any lo gr A0 n0 c0 xs key (W0.drewN k) (HD0.out.rr.below (bel_drewN (Below.refl _ _) _)) (by have := HD.out.nn; omega) (HD0.out.rr.len32 HD.out.w32)).mono ?_
    rintro e w' ⟨rfl, rfl⟩
    exact ⟨rfl, rfl⟩)
  have hq := beq_self_eq_true (lastV (lastO (xs.map O2.o) key))
  go_quiet (first | (go_at_call 21; exact Calls.quiet_of_same (HL1.out _)) | (go_at_call 22; exact Calls.quiet_of_same (HL2.out _)))
  go_wp2_with fail
  go_ret
  have hbd := bel_drewN (Below.refl W0.heap.size W0)
  refine ⟨by simp, ⟨m, d, A0, n0, c0, xs, cnt, xI, xW, (HD0.out.below (hbd _)).up, HQ0.out.kept (X := fun _ => False) (Kept.of_below (hbd _)) (fun _ h => h.elim), by omega, by omega, by omega, Hsep.out⟩, (Hb0.out.mono Hlo.out).trans ((hbd _).mono (by have := Hlo.out; omega))⟩
set_option maxHeartbeats 4000000 in
theorem asked04_any (lo : Nat) (t : TB) (gz gr gb N : Nat) (n tn : Int) (A : Option Addr) (len cap : Nat) (key : ByteArray) (w : World) (H : DPS w lo t gz gr gb N) (hN : N ≤ 8000) :
    Calls Tryz.prog 7 #[.pointer (some ⟨gz, 0, none⟩), .pointer none, OpV 4 n tn A len cap key, .pointer (some ⟨gb, 0, none⟩)] w (AskP w lo t gz gr gb (N + 1)) := by
  obtain ⟨m, d, A0, n0, c0, xs, cnt, xI, xW, hD, hB, hcnt, hlI, hlW, hsep⟩ := H
  have hlo := hD.lo_
  obtain ⟨W0, hW0⟩ : ∃ W0, W0 = w.alloc (.cells #[.int .u8 4, .int .i64 n, .int .i64 tn, .slice A len cap, .string key] 52) := ⟨_, rfl⟩
  have hb0 : Below w.heap.size w W0 := hW0 ▸ bel_alloc (Below.refl _ _) _
  have hblk : W0.heap[w.heap.size]? = some (.cells #[.int .u8 4, .int .i64 n, .int .i64 tn, .slice A len cap, .string key] 52 (0, 0)) := by rw [hW0]; exact blk_new _ _
  have x0 : W0.cell? ⟨w.heap.size, 0, none⟩ = some (.int .u8 4) := blk_cell hblk 0
  have x1 : W0.cell? ⟨w.heap.size, 1, none⟩ = some (.int .i64 n) := blk_cell hblk 1
  have x4 : W0.cell? ⟨w.heap.size, 4, none⟩ = some (.string key) := blk_cell hblk 4
  have Hb0 := Lib.hid hb0
  have HK0 : Hid (Bks W0 [(w.heap.size, #[.int .u8 4, .int .i64 n, .int .i64 tn, .slice A len cap, .string key], 52)]) := Lib.hid (fun p hp => by simp only [List.mem_singleton] at hp; subst hp; exact hblk)
  have HW0 := Lib.hid hW0
  have HD := Lib.hid hD
  have HB := Lib.hid hB
  have Hsep := Lib.hid hsep
  have Hlo := Lib.hid hlo
  have hz0 := hb0.size
  have hz0' : w.heap.size < W0.heap.size := blk_lt hblk
  have HD0 := Lib.hid (hD.below hb0)
  have HQ0 := Lib.hid (hB.kept (X := fun _ => False) (Kept.of_below hb0) (fun _ h => h.elim))
  clear hb0 hblk hsep hlo hW0 hD hB
  unfold OpV
  go_enter Tryz.func7, Tryz.ntmps7
  go_wp2_with fail
  rw [← HW0.out]
  go_wp2_with fail
  have HL1 : Hid (∀ k, Calls Tryz.prog 21 #[.pointer (some ⟨gz, 0, none⟩), .string key] (W0.drewN k) fun e w' => e = .returned (.int .i64 0) ∧ w' = W0.drewN k) := Lib.hid (fun k => by
    refine (zlast_any gz (W0.drewN k) (show ZeroT _ gz from HD0.out.z) key).mono ?_
    rintro e w' ⟨rfl, rfl⟩
    exact ⟨rfl, rfl⟩)
  have HL2 : Hid (∀ k, Calls Tryz.prog 22 #[.pointer none, .string key] (W0.drewN k) fun e w' => e = .returned (.int .i64 0) ∧ w' = W0.drewN k) := Lib.hid (fun k => by
    refine (r11last_nil key (W0.drewN k)).mono ?_
    rintro e w' ⟨rfl, rfl⟩
    exact ⟨rfl, rfl⟩)
  go_quiet (first | (go_at_call 21; exact Calls.quiet_of_same (HL1.out _)) | (go_at_call 22; exact Calls.quiet_of_same (HL2.out _)))
  go_wp2_with fail
  go_ret
  have hbd := bel_drewN (Below.refl W0.heap.size W0)
  refine ⟨by simp, ⟨m, d, A0, n0, c0, xs, cnt, xI, xW, (HD0.out.below (hbd _)).up, HQ0.out.kept (X := fun _ => False) (Kept.of_below (hbd _)) (fun _ h => h.elim), by omega, by omega, by omega, Hsep.out⟩, (Hb0.out.mono Hlo.out).trans ((hbd _).mono (by have := Hlo.out; omega))⟩
end Go.Proofs.YtfafhfjmoijaeaaGreatDoor

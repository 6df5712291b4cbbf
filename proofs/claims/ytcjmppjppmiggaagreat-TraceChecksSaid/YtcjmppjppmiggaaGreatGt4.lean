/- The gate at memory: New. -/
import Derived.Test.YtcjmppjppmiggaaGreatM9
namespace Go.Proofs.YtcjmppjppmiggaaGreat
open Go.RowKit
set_option linter.unusedVariables false
set_option linter.unusedSimpArgs false

set_option maxRecDepth 100000
def gcs0 (m : Int) : Array Value := (Value.bool true :: .int .i64 m :: ((List.replicate 1025 0).map wd ++ [.int .i64 m])).toArray
theorem gcs0_eq (m : Nat) : gcs0 m = gcs m m (List.replicate 1025 0) := rfl
theorem gbuilt (m : Int) : Tryz.prog.built 98 [(0, .bool true), (1, .int .i64 m), (3, .int .i64 m)] = some (gcs0 m) := by kernel_rfl
theorem gnew_any (mark : Nat) (A : Option Addr) (len cap : Nat) (bs : List Nat) (w : World) (hw : RowAt (fun (x : Nat) => [Value.int .i64 x]) 1 w w.heap.size A len bs) (hl : len ≤ 65536) (ok : (⟨mark, bs⟩ : Gt).Ok) :
    Calls Tryz.prog 19 #[.int .i64 mark, .slice A len cap] w fun e w' => e = .returned (.tuple #[.pointer (some ⟨w.heap.size, 0, none⟩), .int .i64 0]) ∧ GtAt w' w.heap.size ⟨mark, bs⟩ ∧ Below w.heap.size w w' := by
  have hm := ok.mark
  simp only at hm
  have e1 : ¬ (mark : Int) < 0 := by omega
  have e2 : ¬ (65536 : Int) < mark := by omega
  have Hb := Lib.hid (gbuilt mark)
  go_enter Tryz.func19, Tryz.ntmps19
  go_wp2_with (with_reducible refine wpList_build rfl _ _ rfl ?_ ?_)
  · rw [Hb.out]; rfl
  rw [Hb.out, Option.getD_some]
  go_wp2_with fail
  rw [gcs0_eq]
  obtain ⟨W0, hW0⟩ : ∃ W0, W0 = w.alloc (.cells (gcs mark mark (List.replicate 1025 0)) 98) := ⟨_, rfl⟩
  have HB0 : Hid (Below w.heap.size w W0) := Lib.hid (hW0 ▸ (Below.refl _ _).alloc (Nat.le_refl _) _)
  have HG0 : Hid (GC W0 w.heap.size mark mark (List.replicate 1025 0)) := Lib.hid (hW0 ▸ blk_new _ _)
  rw [← hW0]
  clear hW0
  generalize gcs mark mark (List.replicate 1025 0) = GV
  have Hw := Lib.hid hw
  have Hok := Lib.hid ok
  have hlen := Lib.hid hw.len
  clear hw ok Hb
  go_loopw [21] (fun i wr => ∃ (k top : Nat) (W : List Nat), k ≤ len ∧ i = .int .i64 k ∧ Hid (GC wr w.heap.size mark top W) ∧ Hid (BitsOf W (fun n => (bs.take k).contains n)) ∧ Hid (top ≤ 65536 ∧ mark ≤ top ∧ (∀ b ∈ bs.take k, b ≤ top) ∧ (top = mark ∨ top ∈ bs.take k)) ∧ Hid (Below w.heap.size w wr)) (fun i _ => len - (RowKit.intOf i).toNat)
  case atStart => exact ⟨0, mark, _, Nat.zero_le _, rfl, HG0, Lib.hid (by simpa using BitsOf.zero), Lib.hid ⟨hm, Nat.le_refl _, by simp, Or.inl rfl⟩, HB0⟩
  case round =>
    obtain ⟨k, top, W, hk, rfl, HG, HW, HT, HB⟩ := hrel
    have hgl := blk_lt HG0.out
    by_cases hlt : k < len
    · obtain ⟨b, off, x, rfl, hbl, hx, hxc⟩ := (Hw.out.below HB.out).at_ hlt
      have x0 : wr.cell? ⟨b, off + k, none⟩ = some (.int .i64 x) := by simpa using hxc 0 _ rfl
      have ct := (blk_cell HG.out 1027).trans (gcs_t HW.out.len)
      have hxm : x ∈ bs := List.mem_of_getElem? hx
      have hlo := Hok.out.lo x hxm
      have hri := Hok.out.rise
      have htx : top < x := by
        rcases HT.out.2.2.2 with e | e
        · have := hlo.1; simp only at this; omega
        · obtain ⟨j, hj⟩ := List.getElem?_of_mem e
          rw [List.getElem?_take] at hj
          split at hj
          · rename_i hjk
            obtain ⟨hj1, rfl⟩ := List.getElem?_eq_some_iff.1 hj
            obtain ⟨hk1, rfl⟩ := List.getElem?_eq_some_iff.1 hx
            exact List.pairwise_iff_getElem.1 hri j k hj1 hk1 hjk
          · cases hj
      have Hs := Lib.hid (gset_any w.heap.size mark top x W _ wr HG.out HW.out hlo.2 HT.out.1)
      have e3 : ¬ (x : Int) < (mark : Int) + 2 := by have := hlo.1; simp only at this; omega
      have e4 : ¬ (65536 : Int) < x := by have := hlo.2; omega
      have e5 : ¬ (x : Int) ≤ top := by omega
      clear hri hxc
      have Hx := Lib.hid hx
      clear hx
      go_wp2_with fail
      refine Hs.out.mono ?_
      rintro e w2 ⟨rfl, ⟨W', g1, g2⟩, g3⟩
      have hT := HT.out
      have hnew : Hid (Below w.heap.size w w2) := Lib.hid ⟨g3.os.trans HB.out.os, g3.tape.trans HB.out.tape, g3.output.trans HB.out.output, Nat.le_trans HB.out.size g3.size, fun i hi => (g3.block i (Nat.lt_of_lt_of_le hi HB.out.size) (by simp; omega)).trans (HB.out.block i hi)⟩
      have hbk : bs.take (k + 1) = bs.take k ++ [x] := by rw [List.take_add_one, Hx.out]; rfl
      have G1 := Lib.hid g1
      have G2 := Lib.hid g2
      clear g1 g2 g3
      go_wp2_with fail
      refine ⟨⟨k + 1, max top x, W', by omega, by go_num, G1, Lib.hid ?_, Lib.hid ⟨by omega, by omega, fun b hb => ?_, Or.inr ?_⟩, hnew⟩, by simp [RowKit.intOf]; omega⟩
      · have : (fun n => (bs.take (k + 1)).contains n) = (fun n => decide (n = x) || (bs.take k).contains n) := by
          funext n; rw [hbk]; simp [Bool.or_comm]
        rw [this]; exact G2.out
      · rw [hbk] at hb
        rcases List.mem_append.1 hb with hb | hb
        · have := hT.2.2.1 b hb; omega
        · simp at hb; omega
      · rw [hbk, Nat.max_eq_right (by omega)]; simp
    · have hkl : k = len := by omega
      subst hkl
      go_wp2_with fail
      go_ret2
      have hW := HW.out
      have hT := HT.out
      rw [List.take_of_length_le (by rw [hlen.out]; omega)] at hW hT
      exact ⟨rfl, ⟨Hok.out, W, top, HG.out, hW, hT.1, hT.2.1, hT.2.2.1⟩, HB.out⟩
end Go.Proofs.YtcjmppjppmiggaaGreat

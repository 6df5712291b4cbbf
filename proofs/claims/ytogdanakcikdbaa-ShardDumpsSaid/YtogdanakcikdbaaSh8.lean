/- shard: versions, All, Size. -/
import Derived.Test.YtogdanakcikdbaaSh7
namespace Go.Proofs.Ytogdanakcikdbaa
open Go.RowKit
set_option linter.unusedVariables false
set_option linter.unusedSimpArgs false

set_option maxRecDepth 100000
set_option maxHeartbeats 2000000 in
theorem versions_any (t : SB) (L : Hs) (k : ByteArray) (w : World) (h : ShAt w t L) : Calls Try.prog 39 #[.pointer (some ⟨t.g, 0, none⟩), .string k] w (PickEnd w (hget L k)) := by
  have c0 := h.cell
  obtain ⟨sv, hv1, hv2, hv3, hv4, hv5⟩ := h.look k
  obtain ⟨hl1, hl2⟩ := h.look_len hv1 hv2
  have hlk := hv5 w rfl
  have hcl := clone_any sv.A sv.len sv.cap sv.vs w hv2 hv4 (by omega)
  rw [hv1] at hcl
  have Hcl := Lib.hid hcl
  clear hcl hv1 hv2 hv3 hv4 hv5 hl1 hl2 h
  go_enter Try.func39, Try.ntmps39
  go_wp2_with fail
  refine Hcl.out.mono ?_
  rintro e w2 ⟨v, rfl, hown, hb⟩
  have Hown := Lib.hid hown
  have Hb := Lib.hid hb
  clear hown hb hlk
  go_wp2_with fail
  go_ret
  exact ⟨_, rfl, Hown.out, Hb.out⟩
set_option maxHeartbeats 2000000 in
theorem all_any (t : SB) (L : Hs) (w : World) (h : ShAt w t L) (hn : L.length ≤ 2147483648) : Calls Try.prog 15 #[.pointer (some ⟨t.g, 0, none⟩)] w (HeldsEnd w L) := by
  have hg := gone_any t L w h
  have hh := heldsV_any t L w h hn id (fun X k hX => versions_any t L k X (h.below hX))
  rw [pickH_id h.ok] at hh
  have Hg := Lib.hid hg
  have Hh := Lib.hid hh
  clear hg hh h
  go_enter Try.func15, Try.ntmps15
  go_wp2_with fail
  refine Hg.out.mono ?_
  rintro e w0 ⟨rfl, hw0⟩
  obtain rfl := hw0.symm
  go_wp2_with fail
  refine Hh.out.mono ?_
  rintro e w2 ⟨v, hs, rfl, h1, h2, h3⟩
  have H1 := Lib.hid h1
  have H2 := Lib.hid h2
  have H3 := Lib.hid h3
  clear h1 h2 h3
  go_wp2_with fail
  go_ret
  exact ⟨_, hs, rfl, H1.out, H2.out, H3.out⟩
theorem sizeH_take {L : Hs} {n : Nat} {k : ByteArray} {l : List Ver} (h : L[n]? = some (k, l)) : sizeH (L.take (n + 1)) = sizeH (L.take n) + l.length := by
  unfold sizeH
  rw [List.take_add_one, h, List.map_append, List.sum_append]; simp
theorem sizeH_le (L : Hs) (n : Nat) : sizeH (L.take n) ≤ sizeH L := by
  conv => rhs; rw [← List.take_append_drop n L]
  unfold sizeH
  rw [List.map_append, List.sum_append]; omega
theorem len_sizeH {L : Hs} (h : HsOk L) : L.length ≤ sizeH L := by
  have hs := h.some_
  clear h
  induction L with
  | nil => simp
  | cons p r ih =>
    have h1 := List.length_pos_iff.2 (hs p (by simp))
    have h2 := ih (fun q hq => hs q (by simp [hq]))
    simp only [sizeH, List.map_cons, List.sum_cons, List.length_cons] at *; omega
set_option maxHeartbeats 2000000 in
theorem size_any (t : SB) (L : Hs) (w : World) (h : ShAt w t L) (hn : sizeH L ≤ 2147483648) : Calls Try.prog 16 #[.pointer (some ⟨t.g, 0, none⟩)] w fun e w' => e = .returned (.int .i64 (sizeH L : Nat)) ∧ Below w.heap.size w w' := by
  have hl := len_sizeH h.ok
  have hall := all_any t L w h (by omega)
  have Hall := Lib.hid hall
  clear hall h
  go_enter Try.func16, Try.ntmps16
  go_wp2_with fail
  refine Hall.out.mono ?_
  rintro e w1 ⟨v, hs, rfl, h1, h2, h3⟩
  obtain ⟨A, cap, rfl, hrow, hcap, hnil⟩ := h1.hds
  have hlen : hs.length = L.length := by rw [← h2]; simp [plainR]
  rw [hlen] at hrow
  have Hrow := Lib.hid hrow
  have H2 := Lib.hid h2
  have Hb := Lib.hid h3
  rw [hlen]
  clear h1 h2 h3 hrow hcap hnil hlen
  go_wp2_with fail
  go_loopw [3, 9] (fun s i wr => ∃ n : Nat, n ≤ L.length ∧ i = .int .i64 n ∧ s = .int .i64 (sizeH (L.take n) : Nat) ∧ Hid (Below w1.heap.size w1 wr)) (fun _ i _ => L.length - (RowKit.intOf i).toNat)
  case atStart => exact ⟨0, Nat.zero_le _, rfl, rfl, Lib.hid (Below.refl _ _)⟩
  case round =>
    obtain ⟨n, hnl, rfl, rfl, Hbr⟩ := hrel
    by_cases hlt : n < L.length
    · obtain ⟨b, off, x, rfl, hbl, hx, x0, x1, hv, -, -⟩ := (Hrow.out.below Hbr.out).cell2 hlt
      have hLn : L[n]? = some (x.key, x.vs) := by rw [← H2.out]; simp [plainR, hx]
      have hst := sizeH_take hLn
      have hle := sizeH_le L (n + 1)
      have hxl : x.vs.length = x.len := hv.len
      rw [hxl] at hst
      have Hst := Lib.hid hst
      have hle2 : sizeH (L.take n) + x.len ≤ 2147483648 := by omega
      generalize sizeH (L.take n) = sn at hle2 Hst ⊢
      obtain ⟨xk, xA, xlen, xcap, xvs⟩ := x
      simp only at x0 x1 hle2 Hst
      clear hLn hst hle hxl hv hx
      go_wp2_with fail
      exact ⟨⟨n + 1, by omega, by go_num, by rw [Hst.out]; go_num, Lib.hid (bel_alloc Hbr.out _)⟩, by simp [RowKit.intOf]; omega⟩
    · obtain rfl : n = L.length := by omega
      rw [List.take_of_length_le (Nat.le_refl _)]
      go_wp2_with fail
      go_ret
      exact ⟨rfl, Hb.out.trans (Hbr.out.mono Hb.out.size)⟩
end Go.Proofs.Ytogdanakcikdbaa

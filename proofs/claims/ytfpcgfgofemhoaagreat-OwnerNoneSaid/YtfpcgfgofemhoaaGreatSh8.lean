/- shard: versions, All, Size. -/
import Derived.Test.YtfpcgfgofemhoaaGreatSh7
namespace Go.Proofs.YtfpcgfgofemhoaaGreat
open Go.RowKit
set_option linter.unusedVariables false
set_option linter.unusedSimpArgs false

set_option maxRecDepth 100000
set_option maxHeartbeats 2000000 in
theorem versions_any (t : SB) (L : Hs) (k : ByteArray) (w : World) (h : ShAt w t L) : Calls Tryz.prog 87 #[.pointer (some ⟨t.g, 0, none⟩), .string k] w (PickEnd w (hget L k)) := by
  have c0 := h.cell
  obtain ⟨sv, hv1, hv2, hv3, hv4, hv5⟩ := h.look k
  obtain ⟨hl1, hl2⟩ := h.look_len hv1 hv2
  have hlk := hv5 w rfl
  have hcl := clone_any sv.A sv.len sv.cap sv.vs w hv2 hv4 (by omega)
  rw [hv1] at hcl
  have Hcl := Lib.hid hcl
  clear hcl hv1 hv2 hv3 hv4 hv5 hl1 hl2 h
  go_enter Tryz.func87, Tryz.ntmps87
  go_wp2_with fail
  refine Hcl.out.mono ?_
  rintro e w2 ⟨v, rfl, hown, hb⟩
  have Hown := Lib.hid hown
  have Hb := Lib.hid hb
  clear hown hb hlk
  go_wp2_with fail
  go_ret
  exact ⟨_, rfl, Hown.out, Hb.out⟩
set_option maxHeartbeats 2000000 in
theorem all_any (t : SB) (L : Hs) (w : World) (h : ShAt w t L) (hn : L.length ≤ 3518437208832) : Calls Tryz.prog 50 #[.pointer (some ⟨t.g, 0, none⟩)] w (HeldsEnd w L) := by
  have hg := gone_any t L w h
  have hh := heldsV_any t L w h hn id (fun X k hX => versions_any t L k X (h.below hX))
  rw [pickH_id h.ok] at hh
  have Hg := Lib.hid hg
  have Hh := Lib.hid hh
  clear hg hh h
  go_enter Tryz.func50, Tryz.ntmps50
  go_wp2_with fail
  refine Hg.out.mono ?_
  rintro e w0 ⟨rfl, hw0⟩
  obtain rfl := hw0.symm
  go_wp2_with fail
  refine Hh.out.mono ?_
  rintro e w2 ⟨v, hs, rfl, h1, h2, h3⟩
  have H1 := Lib.hid h1
  have H2 := Lib.hid h2
  have H3 := Lib.hid h3
  clear h1 h2 h3
  go_wp2_with fail
  go_ret
  exact ⟨_, hs, rfl, H1.out, H2.out, H3.out⟩
theorem sizeH_take {L : Hs} {n : Nat} {k : ByteArray} {l : List Ver} (h : L[n]? = some (k, l)) : sizeH (L.take (n + 1)) = sizeH (L.take n) + l.length := by
  unfold sizeH
  rw [List.take_add_one, h, List.map_append, List.sum_append]; simp
theorem sizeH_le (L : Hs) (n : Nat) : sizeH (L.take n) ≤ sizeH L := by
  conv => rhs; rw [← List.take_append_drop n L]
  unfold sizeH
  rw [List.map_append, List.sum_append]; omega
theorem len_sizeH {L : Hs} (h : HsOk L) : L.length ≤ sizeH L := by
  have hs := h.some_
  clear h
  induction L with
  | nil => simp
  | cons p r ih =>
    have h1 := List.length_pos_iff.2 (hs p (by simp))
    have h2 := ih (fun q hq => hs q (by simp [hq]))
    simp only [sizeH, List.map_cons, List.sum_cons, List.length_cons] at *; omega
end Go.Proofs.YtfpcgfgofemhoaaGreat

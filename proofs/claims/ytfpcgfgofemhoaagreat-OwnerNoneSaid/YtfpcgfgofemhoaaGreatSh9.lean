/- shard: helds as Dump asks it. -/
import Derived.Test.YtfpcgfgofemhoaaGreatSh7
namespace Go.Proofs.YtfpcgfgofemhoaaGreat
open Go.RowKit
set_option linter.unusedVariables false
set_option linter.unusedSimpArgs false

set_option maxRecDepth 100000
set_option maxHeartbeats 8000000 in
theorem heldsD_any (t : SB) (L : Hs) (w : World) (h : ShAt w t L) (hn : L.length ≤ 3518437208832) (g1 g2 g3 : Nat) (f : List Ver → List Ver)
    (hcall : ∀ X k, Below w.heap.size w X → Calls Tryz.prog 95 #[.string k, .pointer (some ⟨g1, 0, none⟩), .pointer (some ⟨g2, 0, none⟩), .pointer (some ⟨g3, 0, none⟩)] X (PickEnd X (f (hget L k)))) :
    Calls Tryz.prog 86 #[.pointer (some ⟨t.g, 0, none⟩), .func (.func 95) #[] #[.pointer (some ⟨g1, 0, none⟩), .pointer (some ⟨g2, 0, none⟩), .pointer (some ⟨g3, 0, none⟩)]] w (HeldsEnd w (pickH f L)) := by
  have H := Lib.hid h
  have hlt := h.lt
  have hg := gone_any t L w h
  have Hg := Lib.hid hg
  have Hcall := Lib.hid hcall
  obtain ⟨i0, hi, hz0, hz1, hz2⟩ := info_parts info_held
  clear h hg hcall
  go_enter Tryz.func86, Tryz.ntmps86
  go_wp2_with fail
  refine Hg.out.mono ?_
  rintro e w0 ⟨rfl, hw0⟩
  obtain rfl := hw0.symm
  go_wp2_with fail
  refine (rising_any t L _ H.out (by omega)).mono ?_
  rintro e w1 ⟨v1, rfl, hown1, hb1⟩
  obtain ⟨A1, cap1, rfl, hrow1⟩ := rise_row (w := w1) hown1
  have Hrow1 := Lib.hid hrow1
  have Hb1 := Lib.hid hb1
  have hs1 := hb1.size
  clear hown1 hrow1 hb1
  go_wp2_with fail
  go_loopw [5, 16] (fun v i wr => ∃ (n : Nat) (hs : List HR), n ≤ L.length ∧ hs.length ≤ n ∧ i = .int .i64 n ∧ Hid (HRow wr w1.heap.size v hs) ∧ Hid (plainR hs = pickH f (L.take n)) ∧ Hid (Below w1.heap.size w1 wr)) (fun _ i _ => L.length - (RowKit.intOf i).toNat)
  case atStart => exact ⟨0, [], Nat.zero_le _, Nat.le_refl _, rfl, Lib.hid (HRow.nil _ _), Lib.hid rfl, Lib.hid (Below.refl _ _)⟩
  case round =>
    obtain ⟨n, hs, hnl, hhn, rfl, HR0, HP, Hb⟩ := hrel
    have hsr := Hb.out.size
    by_cases hlt2 : n < L.length
    · obtain ⟨b, off, k, rfl, hbl, hk, k0⟩ := row_s (Hrow1.out.below Hb.out) hlt2
      have hLn : L[n]? = some (L[n]) := List.getElem?_eq_getElem hlt2
      obtain ⟨⟨k', l⟩, hkl⟩ : ∃ q, q = L[n] := ⟨_, rfl⟩
      rw [← hkl] at hLn
      have hke : k' = k := by
        rw [List.getElem?_map, hLn] at hk
        simpa using hk
      subst hke
      have HW : Hid (Below w.heap.size w wr) := Lib.hid (Hb1.out.trans (Hb.out.mono hs1))
      have hpick := Hcall.out wr k' HW.out
      rw [hget_mem H.out.ok (List.mem_of_getElem? hLn)] at hpick
      have htk := pickH_take (f := f) hLn
      have Htk := Lib.hid htk
      have Hpick := Lib.hid hpick
      generalize hfl : f l = fl at hpick htk
      have Hfl := Lib.hid hfl
      clear hk hLn hkl hpick htk hfl
      go_wp2_with fail
      refine Hpick.out.mono ?_
      rintro e w3 ⟨v3, rfl, hown3, hb3⟩
      rw [Hfl.out] at hown3
      obtain ⟨A3, cap3, rfl, hrow3, hcap3, hnil3⟩ := own_bound hown3
      have HOwn3 := Lib.hid hown3
      have Hb3 := Lib.hid (Hb.out.trans (hb3.mono hsr))
      have HR3 := Lib.hid (HR0.out.below hb3)
      have hs3 : wr.heap.size ≤ w3.heap.size := hb3.size
      clear hb3 k0 hown3 hrow3 hcap3 hnil3
      by_cases hfe : fl = []
      · subst hfe
        go_wp2_with fail
        exact ⟨⟨n + 1, hs, by omega, by omega, by go_num, HR3, Lib.hid (by rw [HP.out, Htk.out, Hfl.out]; simp), Hb3⟩, by simp [RowKit.intOf]; omega⟩
      · have hpos : 0 < fl.length := List.length_pos_iff.2 hfe
        have hpos2 : (0 : Int) < (fl.length : Int) := by omega
        have HMa : Hid (∀ o, HRow (w3.alloc o) w1.heap.size u5 hs) := Lib.hid fun o => HR3.out.below (bel_alloc (Below.refl _ _) o)
        have Hfe := Lib.hid hfe
        clear hfe
        go_wp2_with (at_builtin; refine wpList_append_lies _ rfl (.tmp 26) (.tmp 30) 22 rfl w1.heap.size 70 i0 _ 2 40 Tryz.underlying22 hi hz0 hz1 hz2 rfl (by decide) u5 hs.length (hs.flatMap HR.cells) rfl (HMa.out _).1 ⟨w3.heap.size, 0, none⟩ 1 1 (HR.cells ⟨k', A3, fl.length, cap3, fl⟩) rfl rfl (cells_new w3 _ _) (one_hr _) (by omega) (by unfold maxLen; omega) (by omega) (by simp; omega) _ rfl ?_; intro g4 cap4 w4 hown4 hg4 hat4 hlt4)
        have HB4 : Hid (Below w1.heap.size w1 w4) := Lib.hid (Hb3.out.trans (((Below.refl w1.heap.size w3).alloc (by omega) _).grown hg4 (by simp; omega) (fun q hq => ((HMa.out (.cells #[] 0)).1.lt q hq).1)))
        have hadd := HRow.add (r := ⟨k', A3, fl.length, cap3, fl⟩) (HMa.out _) ((ownsRow_base_a HOwn3.out (by omega)).alloc _) rfl (fun b hb hv => by
          have h1 := (HOwn3.out.lt b hb).1
          have h2 := (HR0.out.1.lt b hv).2
          omega) hown4 hg4 hat4 (by simp)
        have Hadd := Lib.hid hadd
        clear hadd hown4 hg4 hat4
        go_wp2_with fail
        exact ⟨⟨n + 1, hs ++ [⟨k', A3, fl.length, cap3, fl⟩], by omega, by simp; omega, by go_num, Hadd, Lib.hid (by rw [Htk.out, Hfl.out, if_pos Hfe.out, ← HP.out]; simp [plainR]), HB4⟩, by simp [RowKit.intOf]; omega⟩
    · obtain rfl : n = L.length := by omega
      have hP := HP.out
      rw [List.take_of_length_le (Nat.le_refl _)] at hP
      have HP2 := Lib.hid hP
      clear hP
      go_wp2_with fail
      go_ret
      exact ⟨_, hs, rfl, HR0.out.base hs1, HP2.out, Hb1.out.trans (Hb.out.mono hs1)⟩
end Go.Proofs.YtfpcgfgofemhoaaGreat

/- DepsChains: the walk of its law. -/
import Derived.Test.YtdcnaieieggclaaDl8
import Derived.Test.YtdcnaieieggclaaMD
import Derived.Test.YtdcnaieieggclaaFl
namespace Go.Proofs.Ytdcnaieieggclaa
open Go.RowKit
set_option linter.unusedVariables false
set_option linter.unusedSimpArgs false

open Go.Maps Go.Sort
set_option maxRecDepth 100000
set_option maxHeartbeats 8000000
theorem lawdchains_any (A : Option Addr) (len cap : Nat) (rs : List RTx) (A1 : Option Addr) (len1 cap1 : Nat) (ds : List Nat) (w : World) (hw : TxsAt w w.heap.size A len rs) (hl : len * 32 ≤ 140737488351232) (hc : len ≤ cap)
    (hs : ∀ r ∈ rs, ∀ x ∈ r.ws, x.key.size ≤ 140737488351232 ∧ x.val.size ≤ 140737488351232) (hwd : RowAt Ucell 1 w w.heap.size A1 len1 ds) (hl1 : len1 ≤ 140737488351232) (hds : ∀ x ∈ ds, x ≤ 255) :
    Calls Try.prog 11 #[.slice A len cap, .slice A1 len1 cap1] w (TrueB w) := by
  have hlen := Lib.hid hw.1.len
  have Hs := Lib.hid hs
  have Hds := Lib.hid hds
  obtain ⟨i0, hi, hz0, hz1, hz2⟩ := info_parts info_int
  obtain ⟨i1, hi1, hy0, hy1, hy2⟩ := info_parts info_bool
  clear hs hds
  go_enter Try.func11, Try.ntmps11
  go_wp2_with fail
  refine (alive11_any _).mono ?_
  rintro e w1 ⟨rfl, hb1⟩
  have hs1 := hb1.size
  have hw1 := (hw.below hb1).more hs1
  have Hb1 := Lib.hid hb1
  clear hb1
  by_cases h40 : 16 < len
  case pos =>
    clear hw1
    go_wp2_with fail
    refine (alive11_any _).mono ?_
    rintro e w2 ⟨rfl, hb2⟩
    have Hb2 := Lib.hid (Hb1.out.trans (hb2.mono hs1))
    clear hb2
    go_wp2_with fail
    go_ret
    exact ⟨rfl, Hb2.out⟩
  have hl2 : len ≤ 16 := by omega
  have hd2 : decide (16 < (len : Int)) = false := by rw [decide_eq_false_iff_not]; omega
  go_wp2_with fail
  refine (txsize_any A len cap rs _ hw1 (by omega) Hs.out).mono ?_
  rintro e w2 ⟨q, rfl, q0, q1, hb2⟩
  have hs2 := hb2.size
  have hq : RowAt Icell 1 (w2.alloc (.cells #[.int .i64 q] 3)) (w2.alloc (.cells #[.int .i64 q] 3)).heap.size (some ⟨w2.heap.size, 0, none⟩) 1 [q] := rowAt_block [q] (len_int _) (blk_new _ _) (by simp) (fun j u hu => by simpa [Icell] using hu)
  have Hq := Lib.hid hq
  have Hb2 := Lib.hid (Hb1.out.trans (hb2.mono hs1))
  clear hq hb2 hw1
  go_wp2_with fail
  refine (beyond_any _ 1 1 [q] _ Hq.out (by omega) (fun x hx => by simp at hx; omega)).mono ?_
  rintro e w3 ⟨bb, rfl, hb3⟩
  have hb3' : Below w.heap.size w w3 := Hb2.out.trans (((bel_alloc (Below.refl _ _) _).trans (hb3.mono (by simp))).mono (by omega))
  have Hb3 := Lib.hid hb3'
  have hs3 := hb3'.size
  clear hb3 hb3'
  cases bb
  case true =>
    go_wp2_with fail
    refine (alive11_any _).mono ?_
    rintro e w4 ⟨rfl, hb4⟩
    have Hb4 := Lib.hid (Hb3.out.trans (hb4.mono hs3))
    clear hb4
    go_wp2_with fail
    go_ret
    exact ⟨rfl, Hb4.out⟩
  go_wp2_with fail
  obtain ⟨t, hth, hnew⟩ := new_inv rs w3
  refine hnew.mono ?_
  rintro e w4 ⟨rfl, hT4, hb4⟩
  have HT4 := Lib.hid hT4
  have Hb4 := Lib.hid (Hb3.out.trans (hb4.mono hs3))
  have Hth := Lib.hid (show ∀ k, t.has k → w.heap.size ≤ k from fun k hk => by have := hth k hk; omega)
  have hs4 := Hb4.out.size
  clear hT4 hb4 hth hnew
  go_wp2_with fail
  go_loopw [6] (fun i wr => ∃ (k : Nat), k ≤ len ∧ i = .int .i64 k ∧ Hid (∀ (i : Nat) (r : RTx), i < k → rs[i]? = some r → txB r.number r.ws = true ∧ r.number = (i : Int) + 1) ∧ Hid (Tabs rs k E0 t wr) ∧ Hid (Below w.heap.size w wr)) (fun i _ => len - (RowKit.intOf i).toNat)
  case atStart => exact ⟨0, Nat.zero_le _, rfl, Lib.hid (fun i r h => by omega), HT4, Hb4⟩
  case round =>
    obtain ⟨k, hk, rfl, HE, HT, HB⟩ := hrel
    have hr := hw.below HB.out
    have hso := HB.out.size
    by_cases hlt : k < len
    · obtain ⟨b, off, r, rfl, hbl, hx, x0, x1, hws, hrl⟩ := hr.cell2 hlt
      have Hx := Lib.hid hx
      have Hw2 := Lib.hid (hw.2 r (List.mem_of_getElem? hx)).1
      have hws2 := hws.more hso
      clear hx hws hr
      go_wp2_with fail
      refine (check_any r.number r.A r.len r.cap r.ws _ hws2 (by omega)).mono ?_
      rintro e w5 ⟨rfl, hb5⟩
      have x0 := (hb5.cell (p := ⟨b, off + k * 2, none⟩) (by show b < _; omega)).trans x0
      have x1 := (hb5.cell (p := ⟨b, off + k * 2 + 1, none⟩) (by show b < _; omega)).trans x1
      have HT5 := Lib.hid (HT.out.below hb5)
      have Hb5 := Lib.hid (HB.out.trans (hb5.mono hso))
      have hs5 := Hb5.out.size
      clear hb5 hws2
      cases ht : txB r.number r.ws
      · clear ht
        rw [show errOf false = 1 from rfl]
        go_wp2_with fail
        go_ret
        exact ⟨rfl, Hb5.out⟩
      · have Ht := Lib.hid ht
        clear ht
        rw [show errOf true = 0 from rfl]
        by_cases hn : r.number = (k : Int) + 1
        case neg =>
          have hnb : (r.number != (k : Int) + 1) = true := by simpa using hn
          clear hn
          go_wp2_with fail
          go_ret
          exact ⟨rfl, Hb5.out⟩
        have Htx := Lib.hid (show txB ((k : Int) + 1) r.ws = true by rw [← hn]; exact Ht.out)
        rw [hn] at x0
        have hnb : (r.number != (k : Int) + 1) = false := by simp [hn]
        have Hn := Lib.hid hn
        have hkb : ∀ X, Kept w5 X t.has → Below w.heap.size w X := fun X hX => Hb5.out.trans (hX.below Hb5.out.size Hth.out)
        have Hadd := Lib.hid (add_inv t r.A r.len r.cap w5 HT5.out (by omega) Hx.out (fun X hX => (Hw2.out.below (hkb X hX)).more (hkb X hX).size) Htx.out)
        have Hkb := Lib.hid hkb
        clear hn hkb
        go_wp2_with fail
        refine Hadd.out.mono ?_
        rintro e w6 ⟨rfl, hT6, hK6⟩
        have HT6 := Lib.hid hT6
        have Hb6 := Lib.hid (Hkb.out w6 hK6)
        clear hT6 hK6
        go_wp2_with fail
        refine ⟨⟨k + 1, by omega, by go_num, Lib.hid (fun i r2 h1 h2 => ?_), HT6, Hb6⟩, by simp [RowKit.intOf]; omega⟩
        by_cases hik : i = k
        · subst hik
          rw [Hx.out] at h2
          obtain rfl := Option.some.inj h2
          exact ⟨Ht.out, Hn.out⟩
        · exact HE.out i r2 (by omega) h2
    · obtain rfl : len = k := by omega
      have He := Lib.hid (logErr_all (fun i r h1 h2 => HE.out i r (by rw [← hlen.out]; exact h1) h2))
      clear hr
      go_wp2_with (at_make; refine wpList_make_full _ rfl _ _ 34 rfl wr.heap.size 4 i1 _ 1 Try.underlying34 hi1 hy0 hy1 _ _ _ _ (len + 1) rfl rfl (by omega) (by omega) (by rw [hy2]; omega) (by simp only [maxLen]; omega) (Nat.le_refl _) ?_; intro w6 hown6 hg6)
      have hb6 : Below wr.heap.size wr w6 := (Below.refl _ _).grown hg6 (Nat.le_refl _) (fun k hk => by cases hk)
      have HE6 := Lib.hid (EndAt.made hown6)
      have HT6 := Lib.hid (HT.out.below hb6)
      have Hb6 := Lib.hid (HB.out.trans (hb6.mono hso))
      have Hgt := Lib.hid (fun j (hj : t.has j) => HT.out.lt hj)
      obtain ⟨g, hg⟩ : ∃ g, g = wr.heap.size := ⟨_, rfl⟩
      have hwg : w.heap.size ≤ g := by omega
      have hg6 : g < w6.heap.size := by rw [hg]; exact HE6.out.lt
      rw [← hg] at HE6 Hgt
      have HE6 := Lib.hid HE6.out
      have Hgt := Lib.hid Hgt.out
      clear hown6 hb6
      go_wp2_with fail
      rw [← hg]
      clear hg
      go_loopw [10] (fun i wr => ∃ (s : Nat) (E : Nat → Bool), s ≤ len ∧ i = .int .i64 s ∧ Hid ((openL len E).length + s = len) ∧ Hid (Tabs rs len E t wr) ∧ Hid (EndAt wr g len E) ∧ Hid (Below w.heap.size w wr)) (fun i _ => len - (RowKit.intOf i).toNat)
      case atStart => exact ⟨0, E0, Nat.zero_le _, rfl, Lib.hid (by rw [openL_all len (E := E0) (fun j => rfl)]; rfl), HT6, HE6, Hb6⟩
      case round =>
        obtain ⟨s, E, hsl, rfl, HO, HT, HN, HB⟩ := hrel
        obtain ⟨wo, hwo⟩ : ∃ wo : World, wo = wr := ⟨_, rfl⟩
        subst hwo
        have hF : ∀ X : World, Below wo.heap.size wo X → TxsAt X X.heap.size A len rs ∧ Tabs rs len E t X ∧ EndAt X g len E ∧ Below w.heap.size w X ∧ wo.heap.size ≤ X.heap.size := fun X h =>
          have h0 : Below w.heap.size w X := HB.out.trans (h.mono HB.out.size)
          ⟨(hw.below h0).more h0.size, HT.out.below h, HN.out.of_block (h.block g HN.out.lt), h0, h.size⟩
        have HF := Lib.hid hF
        have hso := HB.out.size
        clear hF
        by_cases hlt : s < len
        · go_wp2_with fail
          go_loopw [11, 12] (fun V i wi => ∃ n : Nat, 1 ≤ n ∧ n ≤ len + 1 ∧ i = .int .i64 n ∧ Hid (wi.ownsRow wo.heap.size 3 1 V (freeL rs E n).length ((ints (freeL rs E n)).flatMap Icell)) ∧ Hid (Below wo.heap.size wo wi)) (fun _ i _ => len + 1 - (RowKit.intOf i).toNat)
          case atStart => exact ⟨1, Nat.le_refl _, by omega, rfl, Lib.hid (by rw [freeL_one]; exact ⟨rfl, Or.inl ⟨rfl, rfl⟩⟩), Lib.hid (Below.refl _ _)⟩
          case round =>
            obtain ⟨n, hn1, hn2, rfl, HW, HBn⟩ := hrel
            obtain ⟨wn, hwn⟩ : ∃ wn : World, wn = wr := ⟨_, rfl⟩
            subst hwn
            obtain ⟨yX, yT, yE, yB, hsn⟩ := HF.out wn HBn.out
            by_cases hnl : n ≤ len
            · have hdn : decide ((n : Int) ≤ (len : Int)) = true := by rw [decide_eq_true_iff]; omega
              obtain ⟨z0, z1⟩ := yE.cell hnl
              have hfs := freeL_succ rs E n
              have hfle := freeL_le rs E n
              have Hfs := Lib.hid hfs
              have YT := Lib.hid yT
              clear yX yT yE hfs z1
              cases hEn : E n
              · have HEn := Lib.hid hEn
                rw [hEn] at z0
                clear hEn
                go_wp2_with fail
                go_loopw [13, 14] (fun c i wi => ∃ j : Nat, 1 ≤ j ∧ j ≤ n ∧ i = .int .i64 j ∧ c = .bool (chB rs E n j) ∧ Hid (Below wn.heap.size wn wi)) (fun _ i _ => n - (RowKit.intOf i).toNat)
                case atStart => exact ⟨1, Nat.le_refl _, hn1, rfl, by rw [chB_one], Lib.hid (Below.refl _ _)⟩
                case round =>
                  obtain ⟨j, hj1, hj2, rfl, rfl, HBj⟩ := hrel
                  have hbw : Below wo.heap.size wo wr := HBn.out.trans (HBj.out.mono hsn)
                  have Hbw := Lib.hid hbw
                  obtain ⟨yX, yT, yE, yB2, hsj⟩ := HF.out wr hbw
                  have YT2 := Lib.hid yT
                  clear hbw yT
                  by_cases hjn : j < n
                  · obtain ⟨u0, -⟩ := yE.cell (show j ≤ len by omega)
                    have hcs := Lib.hid (chB_succ rs E n j hj1)
                    clear yE
                    cases hc : chB rs E n j
                    · have Hc := Lib.hid hc
                      clear hc
                      cases hEj : E j
                      · have HEj := Lib.hid hEj
                        rw [hEj] at u0
                        clear hEj
                        have hca : chainAns rs (j : Int) (n : Int) = (CB rs (j - 1) (n - 1), 0) := by
                          unfold chainAns CB
                          rw [if_neg (by rw [He.out]; simp), if_neg (by have := hlen.out; omega), show ((j : Int) - 1).toNat = j - 1 from by omega, show ((n : Int) - 1).toNat = n - 1 from by omega]
                        have hch := chained_any A len cap rs (j : Int) (n : Int) wr yX (by omega)
                        rw [hca] at hch
                        have Hch := Lib.hid hch
                        clear hch hca yX
                        go_wp2_with fail
                        refine Hch.out.mono ?_
                        rintro e w8 ⟨rfl, hb8⟩
                        have Hb8 := Lib.hid (HBj.out.trans (hb8.mono HBj.out.size))
                        obtain ⟨cv, hcv⟩ : ∃ cv, cv = CB rs (j - 1) (n - 1) := ⟨_, rfl⟩
                        rw [← hcv]
                        have Hcv := Lib.hid hcv
                        clear hb8 hcv
                        go_wp2_with fail
                        exact ⟨⟨j + 1, by omega, by omega, by go_num, by rw [hcs.out, Hc.out, HEj.out, Hcv.out]; rfl, Hb8⟩, by simp [RowKit.intOf]; omega⟩
                      · have HEj := Lib.hid hEj
                        rw [hEj] at u0
                        clear hEj yX
                        go_wp2_with fail
                        exact ⟨⟨j + 1, by omega, by omega, by go_num, by rw [hcs.out, Hc.out, HEj.out]; rfl, HBj⟩, by simp [RowKit.intOf]; omega⟩
                    · have hcv := Lib.hid (chB_mono hc (show j ≤ n by omega))
                      clear hc yX
                      have hpos : 0 < (depL rs E n).length := by have h5 := chB_dep (E := E) (rs := rs) HT.out.closed hnl; rw [hcv.out] at h5; simpa using h5
                      have Hw := Lib.hid (waits_inv t n wr YT2.out (by omega) hn1 hnl HEn.out)
                      have hdl := depL_len rs E n
                      have hno := Lib.hid (show freeB rs E n ≠ true by unfold freeB; intro h; simp only [Bool.and_eq_true, decide_eq_true_eq] at h; rw [h.2] at hpos; simp at hpos)
                      go_wp2_with fail
                      refine Hw.out.mono ?_
                      rintro e w8 ⟨v8, rfl, ho8, hb8⟩
                      obtain ⟨A8, c8, rfl, -, -⟩ := own_ints ho8 rfl
                      have Hb8 := Lib.hid (HBj.out.trans (hb8.mono HBj.out.size))
                      clear ho8 hb8
                      generalize (depL rs E n).length = dl at *
                      go_wp2_with fail
                      refine ⟨⟨n + 1, by omega, by omega, by go_num, Lib.hid ?_, Lib.hid (HBn.out.trans (Hb8.out.mono hsn))⟩, by simp [RowKit.intOf]; omega⟩
                      rw [Hfs.out, if_neg hno.out, List.append_nil]
                      exact ownsRow_below HW.out Hb8.out
                  · obtain rfl : n = j := by omega
                    clear yX yE
                    cases hc : chB rs E n n
                    · have hcv := Lib.hid hc
                      clear hc
                      have hz : (depL rs E n).length = 0 := by have h5 := chB_dep (E := E) (rs := rs) HT.out.closed hnl; rw [hcv.out] at h5; have h6 := of_decide_eq_false h5.symm; omega
                      have Hw := Lib.hid (waits_inv t n wr YT2.out (by omega) hn1 hnl HEn.out)
                      have hno := Lib.hid (show freeB rs E n = true by unfold freeB; simp only [Bool.and_eq_true, decide_eq_true_eq, Bool.not_eq_true']; exact ⟨⟨hn1, HEn.out⟩, List.eq_nil_of_length_eq_zero hz⟩)
                      rw [hz] at Hw
                      have Hw := Lib.hid Hw.out
                      clear hz
                      go_wp2_with fail
                      refine Hw.out.mono ?_
                      rintro e w8 ⟨v8, rfl, ho8, hb8⟩
                      obtain ⟨A8, c8, rfl, -, -⟩ : ∃ A cap, v8 = .slice A 0 cap ∧ True ∧ True := by
                        rcases ho8.2 with h | ⟨g, cap, cur, h, -⟩
                        · exact ⟨_, _, h.1, trivial, trivial⟩
                        · exact ⟨_, _, h, trivial, trivial⟩
                      have Hb8 := Lib.hid (HBj.out.trans (hb8.mono HBj.out.size))
                      have hs8 := Hb8.out.size
                      have Hfo := Lib.hid (ownsRow_below HW.out Hb8.out)
                      clear ho8 hb8
                      go_wp2_with (at_builtin; refine wpList_append_own _ rfl _ _ 62 rfl wo.heap.size 3 i0 _ 1 8 Try.underlying62 hi hz0 hz1 hz2 rfl (by decide) _ _ _ rfl (ownsRow_below Hfo.out (bel_alloc (Below.refl _ _) _)) ⟨w8.heap.size, 0, none⟩ 1 1 (Icell n) rfl rfl (World.news_of_block (blk_new _ _)) (one_int _) (by simp only [maxLen]; omega) (by omega) (by simp; omega) ?_; intro v' w' hown' hg' hn')
                      refine ⟨⟨n + 1, by omega, by omega, by go_num, Lib.hid ?_, Lib.hid ?_⟩, by simp [RowKit.intOf]; omega⟩
                      · rw [Hfs.out, if_pos hno.out, ints_snoc, List.length_append]
                        exact hown'
                      · exact (HBn.out.trans ((Hb8.out.alloc hs8 _).mono hsn)).grown hg' (by simp; omega) (fun j hj => (HW.out.lt j hj).1)
                    · have hcv := Lib.hid hc
                      clear hc
                      have hpos : 0 < (depL rs E n).length := by have h5 := chB_dep (E := E) (rs := rs) HT.out.closed hnl; rw [hcv.out] at h5; simpa using h5
                      have Hw := Lib.hid (waits_inv t n wr YT2.out (by omega) hn1 hnl HEn.out)
                      have hdl := depL_len rs E n
                      have hno := Lib.hid (show freeB rs E n ≠ true by unfold freeB; intro h; simp only [Bool.and_eq_true, decide_eq_true_eq] at h; rw [h.2] at hpos; simp at hpos)
                      go_wp2_with fail
                      refine Hw.out.mono ?_
                      rintro e w8 ⟨v8, rfl, ho8, hb8⟩
                      obtain ⟨A8, c8, rfl, -, -⟩ := own_ints ho8 rfl
                      have Hb8 := Lib.hid (HBj.out.trans (hb8.mono HBj.out.size))
                      clear ho8 hb8
                      generalize (depL rs E n).length = dl at *
                      go_wp2_with fail
                      refine ⟨⟨n + 1, by omega, by omega, by go_num, Lib.hid ?_, Lib.hid (HBn.out.trans (Hb8.out.mono hsn))⟩, by simp [RowKit.intOf]; omega⟩
                      rw [Hfs.out, if_neg hno.out, List.append_nil]
                      exact ownsRow_below HW.out Hb8.out
              · have HEn := Lib.hid hEn
                rw [hEn] at z0
                clear hEn
                go_wp2_with fail
                refine ⟨⟨n + 1, by omega, by omega, by go_num, Lib.hid ?_, HBn⟩, by simp [RowKit.intOf]; omega⟩
                rw [Hfs.out, if_neg, List.append_nil]
                · exact HW.out
                · unfold freeB; rw [HEn.out]; simp
            · obtain rfl : n = len + 1 := by omega
              have hdn : decide (((len + 1 : Nat) : Int) ≤ (len : Int)) = false := by rw [decide_eq_false_iff_not]; omega
              have hfl := free_some (rs := rs) (m := len) (E := E) (by have := HO.out; omega)
              have hfle := freeL_le rs E (len + 1)
              obtain ⟨Af, cf, rfl, hrF, -⟩ := own_ints HW.out rfl
              have YT := Lib.hid yT
              have YE := Lib.hid yE
              have HrF := Lib.hid hrF
              have hwdn := hwd.below yB
              have YB := Lib.hid yB
              clear yX yT yE hrF yB
              by_cases hk1 : s < len1
              · obtain ⟨b7, o7, p, hA7, hbl7, hxd, hcx⟩ := hwdn.at_ hk1
                have x7 := hcx 0 _ rfl
                simp only [Nat.mul_one, Nat.add_zero] at x7
                have hp255 := Hds.out p (List.mem_of_getElem? hxd)
                obtain rfl := hA7
                clear hxd hcx hwdn
                have hpr : ((p : Int) % ((freeL rs E (len + 1)).length : Int)) = ((p % (freeL rs E (len + 1)).length : Nat) : Int) := int_rem hfl
                obtain ⟨bf, of, n, rfl, hbf, hn, zf⟩ := int_at HrF.out (Nat.mod_lt p hfl)
                obtain ⟨hn0, hn1, hn2, hn3⟩ := mem_freeL.1 (List.mem_of_getElem? hn)
                have hid := Nat.mod_lt p hfl
                have Hdone := Lib.hid (done_inv t n wn YT.out (by omega) hn1 (by omega) hn2 hn3)
                have Hn2 := Lib.hid hn2
                clear hn hn2 hn3 HrF
                generalize p % (freeL rs E (len + 1)).length = idx at *
                generalize (freeL rs E (len + 1)).length = fln at *
                go_wp2_with fail
                refine Hdone.out.mono ?_
                rintro e w9 ⟨v9, rfl, -, hT9, hK9⟩
                have hgk : w9.heap[g]? = wn.heap[g]? := hK9.block g YE.out.lt (fun h => by have := Hgt.out g h; omega)
                have YE9 := YE.out.of_block hgk
                obtain ⟨g0, g1⟩ := YE9.cell (show n ≤ len by omega)
                have hlt9 := YE9.lt
                have HE9 := Lib.hid YE9
                have HT9 := Lib.hid hT9
                have Hb9 := Lib.hid (YB.out.trans (hK9.below YB.out.size Hth.out))
                have hod := openL_done (m := len) (E := E) hn1 (by omega) Hn2.out
                have hods := HO.out
                clear hT9 hK9 hgk YE9
                go_wp2_with fail
                refine ⟨⟨s + 1, E1 E n, by omega, by go_num, Lib.hid (by omega), Lib.hid (HT9.out.set (fun j hj => by have := Hgt.out j hj; omega) _), Lib.hid (HE9.out.set (by omega) (by simp [E1]) (fun i hi => by simp [E1, hi])), Lib.hid (Hb9.out.setCell hwg _)⟩, by simp [RowKit.intOf]; omega⟩
              · clear hwdn
                obtain ⟨bf, of, n, rfl, hbf, hn, zf⟩ := int_at HrF.out hfl
                obtain ⟨hn0, hn1, hn2, hn3⟩ := mem_freeL.1 (List.mem_of_getElem? hn)
                have Hdone := Lib.hid (done_inv t n wn YT.out (by omega) hn1 (by omega) hn2 hn3)
                have Hn2 := Lib.hid hn2
                simp only [Nat.add_zero] at zf
                clear hn hn2 hn3 HrF
                generalize (freeL rs E (len + 1)).length = fln at *
                go_wp2_with fail
                refine Hdone.out.mono ?_
                rintro e w9 ⟨v9, rfl, -, hT9, hK9⟩
                have hgk : w9.heap[g]? = wn.heap[g]? := hK9.block g YE.out.lt (fun h => by have := Hgt.out g h; omega)
                have YE9 := YE.out.of_block hgk
                obtain ⟨g0, g1⟩ := YE9.cell (show n ≤ len by omega)
                have hlt9 := YE9.lt
                have HE9 := Lib.hid YE9
                have HT9 := Lib.hid hT9
                have Hb9 := Lib.hid (YB.out.trans (hK9.below YB.out.size Hth.out))
                have hod := openL_done (m := len) (E := E) hn1 (by omega) Hn2.out
                have hods := HO.out
                clear hT9 hK9 hgk YE9
                go_wp2_with fail
                refine ⟨⟨s + 1, E1 E n, by omega, by go_num, Lib.hid (by omega), Lib.hid (HT9.out.set (fun j hj => by have := Hgt.out j hj; omega) _), Lib.hid (HE9.out.set (by omega) (by simp [E1]) (fun i hi => by simp [E1, hi])), Lib.hid (Hb9.out.setCell hwg _)⟩, by simp [RowKit.intOf]; omega⟩
        · obtain rfl : len = s := by omega
          obtain ⟨-, yT, -, yB, -⟩ := HF.out wo (Below.refl _ _)
          have hop0 : (openL len E).length = 0 := by have := HO.out; omega
          have Hop := open_inv t wo yT (by omega)
          rw [hop0] at Hop
          have Hop := Lib.hid Hop
          have YB := Lib.hid yB
          clear yT yB
          go_wp2_with fail
          refine Hop.out.mono ?_
          rintro e w9 ⟨v9, rfl, ho9, hb9⟩
          obtain ⟨A8, c8, rfl⟩ : ∃ A cap, v9 = .slice A 0 cap := by
            rcases ho9.2 with h | ⟨g, cap, cur, h, -⟩
            · exact ⟨_, _, h.1⟩
            · exact ⟨_, _, h⟩
          have Hb9 := Lib.hid (YB.out.trans (hb9.mono hso))
          clear ho9 hb9
          go_wp2_with fail
          go_ret
          exact ⟨rfl, Hb9.out⟩
end Go.Proofs.Ytdcnaieieggclaa

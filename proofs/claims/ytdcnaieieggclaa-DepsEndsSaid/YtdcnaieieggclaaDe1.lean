/- DepsEnds: the walk of its law. -/
import Derived.Test.YtdcnaieieggclaaDl9
import Derived.Test.YtdcnaieieggclaaMD
import Derived.Test.YtdcnaieieggclaaFl
import Derived.Test.YtdcnaieieggclaaExt
namespace Go.Proofs.Ytdcnaieieggclaa
open Go.RowKit
set_option linter.unusedVariables false
set_option linter.unusedSimpArgs false

open Go.Maps Go.Sort
set_option maxRecDepth 100000
set_option maxHeartbeats 8000000
theorem lawends_any (A : Option Addr) (len cap : Nat) (rs : List RTx) (A1 : Option Addr) (len1 cap1 : Nat) (ds : List Nat) (w : World) (hw : TxsAt w w.heap.size A len rs) (hl : len * 32 ≤ 140737488351232) (hc : len ≤ cap)
    (hs : ∀ r ∈ rs, ∀ x ∈ r.ws, x.key.size ≤ 140737488351232 ∧ x.val.size ≤ 140737488351232) (hwd : RowAt Ucell 1 w w.heap.size A1 len1 ds) (hl1 : len1 ≤ 140737488351232) (hds : ∀ x ∈ ds, x ≤ 255) :
    Calls Try.prog 8 #[.slice A len cap, .slice A1 len1 cap1] w (TrueB w) := by
  have hlen := Lib.hid hw.1.len
  have Hs := Lib.hid hs
  have Hds := Lib.hid hds
  obtain ⟨i0, hi, hz0, hz1, hz2⟩ := info_parts info_int
  obtain ⟨i1, hi1, hy0, hy1, hy2⟩ := info_parts info_bool
  clear hs hds
  go_enter Try.func8, Try.ntmps8
  go_wp2_with fail
  refine (alive11_any _).mono ?_
  rintro e w1 ⟨rfl, hb1⟩
  have hs1 := hb1.size
  have hw1 := (hw.below hb1).more hs1
  have Hb1 := Lib.hid hb1
  clear hb1
  by_cases h40 : 40 < len
  case pos =>
    clear hw1
    go_wp2_with fail
    refine (alive11_any _).mono ?_
    rintro e w2 ⟨rfl, hb2⟩
    have Hb2 := Lib.hid (Hb1.out.trans (hb2.mono hs1))
    clear hb2
    go_wp2_with fail
    go_ret
    exact ⟨rfl, Hb2.out⟩
  have hl2 : len ≤ 40 := by omega
  have hd2 : decide (40 < (len : Int)) = false := by rw [decide_eq_false_iff_not]; omega
  go_wp2_with fail
  refine (txsize_any A len cap rs _ hw1 (by omega) Hs.out).mono ?_
  rintro e w2 ⟨q, rfl, q0, q1, hb2⟩
  have hs2 := hb2.size
  have hq : RowAt Icell 1 (w2.alloc (.cells #[.int .i64 q] 3)) (w2.alloc (.cells #[.int .i64 q] 3)).heap.size (some ⟨w2.heap.size, 0, none⟩) 1 [q] := rowAt_block [q] (len_int _) (blk_new _ _) (by simp) (fun j u hu => by simpa [Icell] using hu)
  have Hq := Lib.hid hq
  have Hb2 := Lib.hid (Hb1.out.trans (hb2.mono hs1))
  clear hq hb2 hw1
  go_wp2_with fail
  refine (beyond_any _ 1 1 [q] _ Hq.out (by omega) (fun x hx => by simp at hx; omega)).mono ?_
  rintro e w3 ⟨bb, rfl, hb3⟩
  have hb3' : Below w.heap.size w w3 := Hb2.out.trans (((bel_alloc (Below.refl _ _) _).trans (hb3.mono (by simp))).mono (by omega))
  have Hb3 := Lib.hid hb3'
  have hs3 := hb3'.size
  clear hb3 hb3' Hq
  cases bb
  case true =>
    go_wp2_with fail
    refine (alive11_any _).mono ?_
    rintro e w4 ⟨rfl, hb4⟩
    have Hb4 := Lib.hid (Hb3.out.trans (hb4.mono hs3))
    clear hb4
    go_wp2_with fail
    go_ret
    exact ⟨rfl, Hb4.out⟩
  go_wp2_with fail
  go_loopw [5] (fun i wr => ∃ (k : Nat), k ≤ len ∧ i = .int .i64 k ∧ Hid (∀ (i : Nat) (r : RTx), i < k → rs[i]? = some r → txB r.number r.ws = true ∧ r.number = (i : Int) + 1) ∧ Hid (Below w.heap.size w wr)) (fun i _ => len - (RowKit.intOf i).toNat)
  case atStart => exact ⟨0, Nat.zero_le _, rfl, Lib.hid (fun i r h => by omega), Hb3⟩
  case round =>
    obtain ⟨k, hk, rfl, HE, HB⟩ := hrel
    have hr := hw.below HB.out
    have hso := HB.out.size
    by_cases hlt : k < len
    · as_aux_lemma =>
      -- DONE
      obtain ⟨b, off, r, rfl, hbl, hx, x0, x1, hws, hrl⟩ := hr.cell2 hlt
      have Hx := Lib.hid hx
      have hws2 := hws.more hso
      clear hx hws hr
      go_wp2_with fail
      refine (check_any r.number r.A r.len r.cap r.ws _ hws2 (by omega)).mono ?_
      rintro e w5 ⟨rfl, hb5⟩
      have x0 := (hb5.cell (p := ⟨b, off + k * 2, none⟩) (by show b < _; omega)).trans x0
      have Hb5 := Lib.hid (HB.out.trans (hb5.mono hso))
      clear hb5 hws2
      cases ht : txB r.number r.ws
      · clear ht
        rw [show errOf false = 1 from rfl]
        go_wp2_with fail
        go_ret
        exact ⟨rfl, Hb5.out⟩
      · have Ht := Lib.hid ht
        clear ht
        rw [show errOf true = 0 from rfl]
        by_cases hn : r.number = (k : Int) + 1
        case neg =>
          have hnb : (r.number != (k : Int) + 1) = true := by simpa using hn
          clear hn
          go_wp2_with fail
          go_ret
          exact ⟨rfl, Hb5.out⟩
        have hnb : (r.number != (k : Int) + 1) = false := by simp [hn]
        have Hn := Lib.hid hn
        clear hn
        go_wp2_with fail
        refine ⟨⟨k + 1, by omega, by go_num, Lib.hid (fun i r2 h1 h2 => ?_), Hb5⟩, by simp [RowKit.intOf]; omega⟩
        by_cases hik : i = k
        · subst hik
          rw [Hx.out] at h2
          obtain rfl := Option.some.inj h2
          exact ⟨Ht.out, Hn.out⟩
        · exact HE.out i r2 (by omega) h2
      -- ENDDONE
    · obtain rfl : len = k := by omega
      clear hr Hb1 Hb2 Hb3 hs1 hs2 hs3
      go_wp2_with fail
      obtain ⟨t, hth, hnew⟩ := new_inv rs wr
      refine hnew.mono ?_
      rintro e w4 ⟨rfl, hT4, hb4⟩
      have HT4 := Lib.hid hT4
      have Hb4 := Lib.hid (HB.out.trans (hb4.mono hso))
      have Hth := Lib.hid (show ∀ k, t.has k → w.heap.size ≤ k from fun k hk => by have := hth k hk; omega)
      have Hgt := Lib.hid (fun j (hj : t.has j) => hT4.lt hj)
      have hs4 := Hb4.out.size
      clear hT4 hb4 hth hnew
      go_wp2_with (first
        | (at_make; refine wpList_make_full _ rfl _ _ 34 rfl w4.heap.size 4 i1 _ 1 Try.underlying34 hi1 hy0 hy1 _ _ _ _ (len + 1) rfl rfl (by omega) (by omega) (by rw [hy2]; omega) (by simp only [maxLen]; omega) (Nat.le_refl _) ?_; intro w6 hown6 hg6)
        | (at_make; refine wpList_make_full _ rfl _ _ 62 rfl w6.heap.size 3 i0 _ 1 Try.underlying62 hi hz0 hz1 _ _ _ _ (len + 1) rfl rfl (by omega) (by omega) (by rw [hz2]; omega) (by simp only [maxLen]; omega) (Nat.le_refl _) ?_; intro w7 hown7 hg7)
        | (at_make; refine wpList_make_full _ rfl _ _ 34 rfl w7.heap.size 4 i1 _ 1 Try.underlying34 hi1 hy0 hy1 _ _ _ _ (len + 1) rfl rfl (by omega) (by omega) (by rw [hy2]; omega) (by simp only [maxLen]; omega) (Nat.le_refl _) ?_; intro w8 hown8 hg8))
      have hb6 : RowKit.Below w4.heap.size w4 w6 := (Below.refl _ _).grown hg6 (Nat.le_refl _) (fun k hk => by cases hk)
      have HE6 := Lib.hid (EndAt.made hown6)
      have HT6 := Lib.hid (HT4.out.below hb6)
      have Hb6 := Lib.hid (Hb4.out.trans (hb6.mono hs4))
      have hs6 := Hb6.out.size
      have hlt6 := HE6.out.lt
      have hb7 : RowKit.Below w6.heap.size w6 w7 := (Below.refl _ _).grown hg7 (Nat.le_refl _) (fun k hk => by cases hk)
      have HN7 := Lib.hid (NumAt.made hown7)
      have HT7 := Lib.hid (HT6.out.below hb7)
      have HE7 := Lib.hid (HE6.out.of_block (hb7.block _ hlt6))
      have Hb7 := Lib.hid (Hb6.out.trans (hb7.mono hs6))
      have hs7 := Hb7.out.size
      have hlt7 := HN7.out.lt
      have hb8 : RowKit.Below w7.heap.size w7 w8 := (Below.refl _ _).grown hg8 (Nat.le_refl _) (fun k hk => by cases hk)
      have hE8 := HE7.out.of_block (hb8.block _ (by omega))
      have hN8 := HN7.out.of_block (hb8.block _ hlt7)
      have HS8 := Lib.hid (EndSt.mk (HT7.out.below hb8) hE8 hN8 (EndAt.made hown8))
      have Hb8 := Lib.hid (Hb7.out.trans (hb8.mono hs7))
      have hs8 := Hb8.out.size
      clear hown6 hb6 hg6 hown7 hb7 hg7 hown8 hb8 hg8 hE8 hN8
      go_wp2_with fail
      obtain ⟨gE, hgE⟩ : ∃ g, g = w4.heap.size := ⟨_, rfl⟩
      obtain ⟨gT, hgT⟩ : ∃ g, g = w6.heap.size := ⟨_, rfl⟩
      obtain ⟨gW, hgW⟩ : ∃ g, g = w7.heap.size := ⟨_, rfl⟩
      have hg1 : w.heap.size ≤ gE ∧ gE < gT ∧ gT < gW := by omega
      obtain ⟨hg1, hg2, hg3⟩ := hg1
      rw [← hgE, ← hgT, ← hgW] at HS8
      rw [← hgE] at Hgt
      rw [← hgE, ← hgT, ← hgW]
      have HS8 := Lib.hid HS8.out
      have Hgt := Lib.hid Hgt.out
      clear hgE hgT hgW HT4 Hb4 hs4 HE6 HT6 Hb6 hs6 hlt6 HN7 HT7 HE7 Hb7 hs7 hlt7
      go_loopw [10, 11] (fun v i wr => ∃ (a s : Nat) (E : Nat → Bool) (T : Nat → Nat) (W : Nat → Bool), a ≤ len ∧ v = .int .i64 a ∧ i = .int .i64 s ∧ Hid (s + (openL a E).length = 2 * a) ∧ Hid (PInv rs a E T W) ∧ Hid (EndSt rs len t gE gT gW a E T W wr) ∧ Hid (Below w.heap.size w wr)) (fun _ i _ => 4 * len + 4 - (RowKit.intOf i).toNat)
      case atStart => exact ⟨0, 0, E0, _, _, Nat.zero_le _, rfl, rfl, Lib.hid (by simp [openL, List.range_succ]), Lib.hid (PInv.start rs), HS8, Hb8⟩
      case round =>
        obtain ⟨a, s, E, T, W, ha, rfl, rfl, HC, HP, HS, HB⟩ := hrel
        obtain ⟨wo, hwo⟩ : ∃ wo : World, wo = wr := ⟨_, rfl⟩
        subst hwo
        have hsb : s ≤ 2 * len := by have := HC.out; omega
        have hso := HB.out.size
        have hFr : ∀ X : World, Below wo.heap.size wo X → EndSt rs len t gE gT gW a E T W X ∧ Below w.heap.size w X ∧ wo.heap.size ≤ X.heap.size := fun X h =>
          ⟨HS.out.below h, HB.out.trans (h.mono hso), h.size⟩
        have HF := Lib.hid hFr
        clear hFr
        have hsd : decide ((s : Int) < 4 * (len : Int) + 4) = true := by rw [decide_eq_true_iff]; omega
        have Hop := Lib.hid (open_inv t wo HS.out.tab (by omega))
        go_upto_if 91 with fail
        go_cut [12] (fun s12 wx => ∃ p : Nat, p ≤ 255 ∧ s12 = .int .i64 p ∧ wo = wx)
        case first => as_aux_lemma =>
          -- DONE
          by_cases hk1 : s < len1
          · obtain ⟨b7, o7, p, hA7, hbl7, hxd, hcx⟩ := (hwd.below HB.out).at_ hk1
            have x7 := hcx 0 _ rfl
            simp only [Nat.mul_one, Nat.add_zero] at x7
            have hp255 := Hds.out p (List.mem_of_getElem? hxd)
            obtain rfl := hA7
            clear hxd hcx
            go_wp2_with fail
            go_meet
            case rel => exact ⟨p, hp255, rfl, rfl⟩
          · go_wp2_with fail
            go_meet
            case rel => exact ⟨0, by omega, rfl, rfl⟩
          -- ENDDONE
        case rest => as_aux_lemma =>
          obtain ⟨p, hp255, rfl, rfl⟩ := hcut
          go_wp2_with fail
          refine Hop.out.mono ?_
          rintro e w9 ⟨v9, rfl, ho9, hb9⟩
          obtain ⟨A9, c9, rfl, hr9, hc9⟩ := own_ints ho9 rfl
          obtain ⟨hS9, hB9, hs9⟩ := HF.out w9 hb9
          have HS9 := Lib.hid hS9
          have HB9 := Lib.hid hB9
          have Hr9 := Lib.hid hr9
          have Hb9 := Lib.hid hb9
          clear ho9 hr9 hS9 hB9 hb9
          have hol := openL_le a E
          obtain ⟨n9, hn9⟩ : ∃ n9, n9 = (openL a E).length := ⟨_, rfl⟩
          have Hn9 := Lib.hid hn9
          rw [← hn9] at hol hc9 ⊢
          have Hr9 := Lib.hid (show RowAt Icell 1 w9 w9.heap.size A9 n9 (ints (openL a E)) by rw [hn9]; exact Hr9.out)
          clear hn9
          go_upto_region 20 with fail
          obtain ⟨fl, hfl⟩ : ∃ fl, fl = (decide (a < len) && (decide (p % 3 = 0) || decide (n9 = 0))) := ⟨_, rfl⟩
          have Hfl := Lib.hid hfl
          clear hfl
          go_cut [112] (fun s wx => s = .bool fl ∧ w9 = wx)
          case first => as_aux_lemma =>
            -- DONE
            by_cases h1 : a < len
            · by_cases h2 : p % 3 = 0
              · have h3 := Lib.hid (show true = fl by rw [Hfl.out]; simp [h1, h2])
                have q2 : ((p : Int) % 3 == 0) = true := by simp; omega
                clear h2
                go_wp2_with fail
                go_meet
                case rel => exact ⟨by rw [← h3.out], rfl⟩
              · have q2 : ((p : Int) % 3 == 0) = false := by simp; omega
                by_cases h4 : n9 = 0
                · have h3 := Lib.hid (show true = fl by rw [Hfl.out]; simp [h1, h2, h4])
                  have q4 : ((n9 : Int) == 0) = true := by simp [h4]
                  clear h2 h4
                  go_wp2_with fail
                  go_meet
                  case rel => exact ⟨by rw [← h3.out], rfl⟩
                · have h3 := Lib.hid (show false = fl by rw [Hfl.out]; simp [h1, h2, h4])
                  have q4 : ((n9 : Int) == 0) = false := by simp [h4]
                  clear h2 h4
                  go_wp2_with fail
                  go_meet
                  case rel => exact ⟨by rw [← h3.out], rfl⟩
            · have h3 := Lib.hid (show false = fl by rw [Hfl.out]; simp [h1])
              go_wp2_with fail
              go_meet
              case rel => exact ⟨by rw [← h3.out], rfl⟩
            -- ENDDONE
          case rest =>
            obtain ⟨rfl, rfl⟩ := hcut
            cases fl
            · by_cases h0 : n9 = 0
              · as_aux_lemma =>
                -- DONE
                have hal : len = a := by
                  have h1 := Hfl.out
                  simp only [h0, decide_true, Bool.or_true, Bool.and_true] at h1
                  have := of_decide_eq_false h1.symm
                  omega
                have hop0 : openL a E = [] := List.eq_nil_of_length_eq_zero (by rw [← Hn9.out]; exact h0)
                have Hop0 := Lib.hid hop0
                have q4 : ((n9 : Int) == 0) = true := by simp [h0]
                have Hop2 := open_inv t w9 HS9.out.tab (by omega)
                rw [show (openL a E).length = 0 by rw [hop0]; rfl] at Hop2
                have Hop2 := Lib.hid Hop2
                clear hop0 h0
                go_wp2_with fail
                refine Hop2.out.mono ?_
                rintro e w10 ⟨v10, rfl, ho10, hb10⟩
                obtain ⟨A8, c8, rfl⟩ : ∃ A cap, v10 = .slice A 0 cap := by
                  rcases ho10.2 with h | ⟨g, cap, cur, h, -⟩
                  · exact ⟨_, _, h.1⟩
                  · exact ⟨_, _, h⟩
                have HS10 := Lib.hid (HS9.out.below hb10)
                have HB10 := Lib.hid (HB9.out.trans (hb10.mono HB9.out.size))
                have hs10 := HB10.out.size
                clear ho10 hb10
                go_wp2_with fail
                go_loopw [30] (fun i wi => ∃ j : Nat, 1 ≤ j ∧ j ≤ len + 1 ∧ i = .int .i64 j ∧ Hid (Below w10.heap.size w10 wi)) (fun i _ => len + 1 - (RowKit.intOf i).toNat)
                case atStart => exact ⟨1, Nat.le_refl _, by omega, rfl, Lib.hid (Below.refl _ _)⟩
                case round =>
                  obtain ⟨j, hj1, hj2, rfl, HBj⟩ := hrel
                  have hsj := HBj.out.size
                  by_cases hjl : j ≤ len
                  · have hjd : decide ((j : Int) ≤ (len : Int)) = true := by rw [decide_eq_true_iff]; omega
                    have yS := HS10.out.below HBj.out
                    obtain ⟨y0, -⟩ := yS.e.cell hjl
                    obtain ⟨y1, -⟩ := yS.n.cell hjl
                    obtain ⟨y2, -⟩ := yS.w.cell hjl
                    rw [ended_all Hop0.out hj1 (by omega)] at y0
                    rw [HP.out.told, ended_dep Hop0.out (show j ≤ a by omega)] at y1
                    have b1 : (0 : Int) ≤ (j : Int) := by omega
                    have b2 : (j : Int) < (len : Int) + 1 := by omega
                    clear yS
                    cases hW : W j
                    · have HW := Lib.hid hW
                      rw [hW] at y1 y2
                      simp only [Bool.false_eq_true, false_and, if_false] at y1
                      clear hW
                      go_wp2_with fail
                      go_quiet (fail)
                      go_wp2_with fail
                      exact ⟨⟨j + 1, by omega, by omega, by go_num, Lib.hid (below_drewN HBj.out _)⟩, by simp [RowKit.intOf]; omega⟩
                    · have HW := Lib.hid hW
                      rw [hW] at y1 y2
                      simp only [true_and, if_true] at y1
                      clear hW
                      go_wp2_with fail
                      go_quiet (fail)
                      go_wp2_with fail
                      exact ⟨⟨j + 1, by omega, by omega, by go_num, Lib.hid (below_drewN HBj.out _)⟩, by simp [RowKit.intOf]; omega⟩
                  · obtain rfl : j = len + 1 := by omega
                    have hjd : decide (((len + 1 : Nat) : Int) ≤ (len : Int)) = false := by rw [decide_eq_false_iff_not]; omega
                    go_wp2_with fail
                    go_ret
                    exact ⟨rfl, HB10.out.trans (HBj.out.mono hs10)⟩
                -- ENDDONE
              · as_aux_lemma =>
                have q4 : ((n9 : Int) == 0) = false := by simp [h0]
                have hF9 : ∀ X : World, Below w9.heap.size w9 X → EndSt rs len t gE gT gW a E T W X ∧ RowAt Icell 1 X w9.heap.size A9 n9 (ints (openL a E)) ∧ Below w.heap.size w X ∧ w9.heap.size ≤ X.heap.size := fun X h =>
                  ⟨HS9.out.below h, Hr9.out.below h, HB9.out.trans (h.mono HB9.out.size), h.size⟩
                have HF9 := Lib.hid hF9
                clear hF9
                go_wp2_with fail
                go_loopw [19, 20] (fun V i wi => ∃ j : Nat, j ≤ n9 ∧ i = .int .i64 j ∧ Hid (wi.ownsRow w9.heap.size 3 1 V (frL rs E (openL a E) j).length ((ints (frL rs E (openL a E) j)).flatMap Icell)) ∧ Hid (Below w9.heap.size w9 wi)) (fun _ i _ => n9 - (RowKit.intOf i).toNat)
                case atStart => exact ⟨0, Nat.zero_le _, rfl, Lib.hid (by simp [frL]; exact World.ownsRow_nil _ _ _ _), Lib.hid (Below.refl _ _)⟩
                case round =>
                  obtain ⟨j, hj, rfl, HW, HBj⟩ := hrel
                  obtain ⟨yS, yR, yB, hsj⟩ := HF9.out wr HBj.out
                  by_cases hjl : j < n9
                  · as_aux_lemma =>
                    -- DONE
                    obtain ⟨b3, o3, d, rfl, hbl3, hd, z3⟩ := int_at yR hjl
                    obtain ⟨d1, d2, d3⟩ := mem_openL.1 (List.mem_of_getElem? hd)
                    have hfs := frL_succ (rs := rs) (E := E) hd
                    have hfl := frL_le rs E (openL a E) j
                    have Hfs := Lib.hid hfs
                    have Hw := Lib.hid (waits_inv t d wr yS.tab (by omega) d1 d2 d3)
                    have hdl := depL_len rs E d
                    rw [← Hn9.out] at hfl
                    clear yS yR yB hd d3 hfs
                    obtain ⟨dl, hdl2⟩ : ∃ dl, dl = (depL rs E d).length := ⟨_, rfl⟩
                    have hfb : frB rs E d = decide (dl = 0) := by rw [hdl2]; rfl
                    rw [← hdl2] at Hw hdl
                    have Hw := Lib.hid Hw.out
                    have Hfb := Lib.hid hfb
                    clear hdl2 hfb
                    go_wp2_with fail
                    refine Hw.out.mono ?_
                    rintro e w10 ⟨v10, rfl, ho10, hb10⟩
                    obtain ⟨A8, c8, rfl⟩ : ∃ A cap, v10 = .slice A dl cap := by
                      rcases ho10.2 with ⟨h, h2⟩ | ⟨g, cap, cur, h, -⟩
                      · exact ⟨_, 0, by rw [h, h2]⟩
                      · exact ⟨_, _, h⟩
                    have HB10 := Lib.hid (HBj.out.trans (hb10.mono hsj))
                    have HO10 := Lib.hid (ownsRow_below HW.out hb10)
                    have hs10 := HB10.out.size
                    have z3 := (hb10.cell (p := ⟨b3, o3 + j, none⟩) (by show b3 < _; omega)).trans z3
                    clear ho10 hb10 Hw
                    by_cases hdz : dl = 0
                    · have q5 : ((dl : Int) == 0) = true := by simp [hdz]
                      have HfB := Lib.hid (show frB rs E d = true by rw [Hfb.out, hdz]; rfl)
                      clear hdz
                      go_wp2_with (at_builtin; refine wpList_append_own _ rfl _ _ 62 rfl w9.heap.size 3 i0 _ 1 8 Try.underlying62 hi hz0 hz1 hz2 rfl (by decide) _ _ _ rfl (ownsRow_below HO10.out (bel_alloc (Below.refl _ _) _)) ⟨w10.heap.size, 0, none⟩ 1 1 (Icell d) rfl rfl (World.news_of_block (blk_new _ _)) (one_int _) (by simp only [maxLen]; omega) (by omega) (by simp; omega) ?_; intro v' w' hown' hg' hn')
                      refine ⟨⟨j + 1, by omega, by go_num, Lib.hid ?_, Lib.hid ?_⟩, by simp [RowKit.intOf]; omega⟩
                      · rw [Hfs.out, if_pos HfB.out, ints_snoc, List.length_append]
                        exact hown'
                      · exact (HB10.out.alloc hs10 _).grown hg' (by simp; omega) (fun q hq => (HO10.out.lt q hq).1)
                    · have q5 : ((dl : Int) == 0) = false := by simp [hdz]
                      have HfB := Lib.hid (show ¬ frB rs E d = true by rw [Hfb.out]; simp [hdz])
                      clear hdz
                      go_wp2_with fail
                      refine ⟨⟨j + 1, by omega, by go_num, Lib.hid ?_, HB10⟩, by simp [RowKit.intOf]; omega⟩
                      rw [Hfs.out, if_neg HfB.out, List.append_nil]
                      exact HO10.out
                    -- ENDDONE
                  · as_aux_lemma =>
                    obtain rfl : j = n9 := by omega
                    obtain ⟨wf, hwf⟩ : ∃ wf : World, wf = wr := ⟨_, rfl⟩
                    subst hwf
                    have hop : ∃ n0 l0, openL a E = n0 :: l0 := by
                      cases ho : openL a E with
                      | nil => exact absurd (by rw [Hn9.out, ho]; rfl) h0
                      | cons n0 l0 => exact ⟨n0, l0, rfl⟩
                    obtain ⟨n0, l0, hop0⟩ := hop
                    have hfh := frL_head (rs := rs) hop0
                    have hW := HW.out
                    rw [Hn9.out] at hW
                    obtain ⟨F, hF⟩ : ∃ F, F = frL rs E (openL a E) (openL a E).length := ⟨_, rfl⟩
                    rw [← hF] at hW hfh
                    obtain ⟨l1, hF1⟩ := hfh
                    obtain ⟨Af, cf, rfl, hrF, hcF⟩ := own_ints hW rfl
                    have hFp : 0 < F.length := by rw [hF1]; simp
                    have hFl : F.length ≤ a + 1 := by rw [hF]; exact Nat.le_trans (frL_le _ _ _ _) (openL_le _ _)
                    have hFm : ∀ x ∈ F, 1 ≤ x ∧ x ≤ a ∧ E x = false ∧ depL rs E x = [] := fun x hx => mem_frL (by rw [hF] at hx; exact hx)
                    obtain ⟨bf, of, x0, rfl, hbf, hx0, zf⟩ := int_at hrF hFp
                    rw [hF1, List.getElem?_cons_zero] at hx0
                    obtain rfl := Option.some.inj hx0
                    obtain ⟨bo, oo, y0, rfl, hbo, hy0, zo⟩ := int_at yR (show 0 < j by omega)
                    rw [hop0, List.getElem?_cons_zero] at hy0
                    obtain rfl := Option.some.inj hy0
                    simp only [Nat.add_zero] at zf zo
                    obtain ⟨fln, hfln⟩ : ∃ fln, fln = F.length := ⟨_, rfl⟩
                    rw [← hfln] at hFp hFl hrF hcF
                    have qf : ((fln : Int) == 0) = false := by simp; omega
                    have hpr : ((p : Int) % (fln : Int)) = ((p % fln : Nat) : Int) := int_rem hFp
                    have hid := Nat.mod_lt p hFp
                    obtain ⟨bf2, of2, n, he2, -, hn, zn⟩ := int_at hrF hid
                    simp only [Option.some.injEq, Addr.mk.injEq, and_true] at he2
                    obtain ⟨rfl, rfl⟩ := he2
                    obtain ⟨n1, n2, n3, n4⟩ := hFm n (List.mem_of_getElem? hn)
                    have Hn3 := Lib.hid n3
                    have Hn4 := Lib.hid n4
                    have Hfln := Lib.hid hfln
                    have HYS := Lib.hid yS
                    have HYB := Lib.hid yB
                    clear hop0 hF1 hW hF hFm hn n3 n4 hrF yR HW yS yB
                    rw [← Hfln.out]
                    clear Hfln hfln
                    generalize p % fln = idx at *
                    go_wp2_with fail
                    go_quiet (fail)
                    have hFf : ∀ X : World, Below wf.heap.size wf X → EndSt rs len t gE gT gW a E T W X ∧ TxsAt X w.heap.size A len rs ∧ Below w.heap.size w X ∧ wf.heap.size ≤ X.heap.size := fun X h =>
                      have h0 := HYB.out.trans (h.mono HYB.out.size)
                      ⟨HYS.out.below h, hw.below h0, h0, h.size⟩
                    have HFf := Lib.hid hFf
                    clear hFf
                    go_wp2_with fail
                    go_loopw [24] (fun i wi => ∃ j : Nat, 1 ≤ j ∧ j ≤ n ∧ i = .int .i64 j ∧ Hid (Below wf.heap.size wf wi)) (fun i _ => n - (RowKit.intOf i).toNat)
                    case atStart => exact ⟨1, Nat.le_refl _, n1, rfl, Lib.hid (below_drewN (Below.refl _ _) _)⟩
                    case round =>
                      obtain ⟨j2, hj1, hj2, rfl, HBk⟩ := hrel
                      obtain ⟨yS, yX, yB, hsk⟩ := HFf.out wr HBk.out
                      by_cases hjn : j2 < n
                      · as_aux_lemma =>
                        -- DONE
                        obtain ⟨u0, -⟩ := yS.e.cell (show j2 ≤ len by omega)
                        have hgl := yS.e.lt
                        have b1 : (0 : Int) ≤ (j2 : Int) := by omega
                        have b2 : (j2 : Int) < (len : Int) + 1 := by omega
                        cases hEj : E j2
                        · have HEj := Lib.hid hEj
                          rw [hEj] at u0
                          have hno := near_no HS9.out.tab.closed n2 Hn4.out hj1 hjn hEj
                          obtain ⟨b4, o4, r1, rfl, hbl4, hx4, v0, v1, hws1, hrl1⟩ := yX.cell2 (show j2 - 1 < len by omega)
                          obtain ⟨b5, o5, r2, he5, hbl5, hx5, y0, y1, hws2, hrl2⟩ := yX.cell2 (show n - 1 < len by omega)
                          simp only [Option.some.injEq, Addr.mk.injEq, and_true] at he5
                          obtain ⟨rfl, rfl⟩ := he5
                          have hnear : neighB r1.ws r2.ws = false := by
                            unfold pairB at hno
                            rw [wsOf_at hx4, wsOf_at hx5] at hno
                            exact hno
                          have hNr : ∀ X : World, RowKit.Below wf.heap.size wf X → Calls Try.prog 35 #[.agg #[.int .i64 r1.number, .slice r1.A r1.len r1.cap], .agg #[.int .i64 r2.number, .slice r2.A r2.len r2.cap]] X fun e w' => e = .returned (.bool false) ∧ RowKit.Below X.heap.size X w' := fun X h => by
                            obtain ⟨-, k2, k4, -⟩ := HFf.out X h
                            have k5 := k4.size
                            have := near_any r1 r2 X ((k2.2 r1 (List.mem_of_getElem? hx4)).1.more k5) ((k2.2 r2 (List.mem_of_getElem? hx5)).1.more k5) (by omega) (by omega)
                            rw [hnear] at this
                            exact this
                          have hN := Lib.hid (fun q : Ext wr => Ext.call (hNr q.X (HBk.out.trans (q.h.mono hsk))))
                          have hbs := yB.size
                          have e1 : IntKind.i64.wrap ((j2 : Int) - 1) = (j2 : Int) - 1 := by rw [IntKind.wrap_i64]; omega
                          have e2 : ((j2 : Int) - 1).toNat = j2 - 1 := by omega
                          have e3 : (0 : Int) ≤ (j2 : Int) - 1 := by omega
                          have e4 : (j2 : Int) - 1 < (len : Int) := by omega
                          have e5 : IntKind.i64.wrap ((n : Int) - 1) = (n : Int) - 1 := by rw [IntKind.wrap_i64]; omega
                          have e6 : ((n : Int) - 1).toNat = n - 1 := by omega
                          have e7 : (0 : Int) ≤ (n : Int) - 1 := by omega
                          have e8 : (n : Int) - 1 < (len : Int) := by omega
                          have e9 : (1 : Int) ≤ (n : Int) := by omega
                          have e10 : (1 : Int) ≤ (j2 : Int) := by omega
                          have k2 : ∀ q : Ext wr, q.X.cell? ⟨gE, j2, none⟩ = some (.bool false) := fun q => (q.h.cell (p := ⟨gE, j2, none⟩) hgl).trans u0
                          have k3 : ∀ q : Ext wr, q.X.cell? ⟨b4, o4 + (j2 - 1) * 2, none⟩ = some (.int .i64 r1.number) := fun q => (q.h.cell (p := ⟨b4, o4 + (j2 - 1) * 2, none⟩) (by show b4 < _; omega)).trans v0
                          have k4 : ∀ q : Ext wr, q.X.cell? ⟨b4, o4 + (j2 - 1) * 2 + 1, none⟩ = some (.slice r1.A r1.len r1.cap) := fun q => (q.h.cell (p := ⟨b4, o4 + (j2 - 1) * 2 + 1, none⟩) (by show b4 < _; omega)).trans v1
                          have k5 : ∀ q : Ext wr, q.X.cell? ⟨b4, o4 + (n - 1) * 2, none⟩ = some (.int .i64 r2.number) := fun q => (q.h.cell (p := ⟨b4, o4 + (n - 1) * 2, none⟩) (by show b4 < _; omega)).trans y0
                          have k6 : ∀ q : Ext wr, q.X.cell? ⟨b4, o4 + (n - 1) * 2 + 1, none⟩ = some (.slice r2.A r2.len r2.cap) := fun q => (q.h.cell (p := ⟨b4, o4 + (n - 1) * 2 + 1, none⟩) (by show b4 < _; omega)).trans y1
                          clear hno hnear hx4 hx5 hNr hws1 hws2 yS yX yB hEj u0 v0 v1 y0 y1
                          go_wp2_with fail
                          refine wp_region_ext (by kernel_rfl) (by kernel_rfl) ?_
                          repeat (go_big_quiet_step ((go_at_call 35; exact hN.out _)))
                          refine Ext.end_ fun X hX => ?_
                          have HX := Lib.hid (HBk.out.trans (hX.mono hsk))
                          clear k2 k3 k4 k5 k6 e1 e2 e5 e6 hX
                          go_wp2_with fail
                          exact ⟨⟨j2 + 1, by omega, by omega, by go_num, HX⟩, by simp [RowKit.intOf]; omega⟩
                        · have HEj := Lib.hid hEj
                          rw [hEj] at u0
                          clear hEj yX yS yB
                          go_wp2_with fail
                          go_quiet (fail)
                          go_wp2_with fail
                          exact ⟨⟨j2 + 1, by omega, by omega, by go_num, Lib.hid (below_drewN HBk.out _)⟩, by simp [RowKit.intOf]; omega⟩
                      · as_aux_lemma =>
                        -- ENDDONE
                      · as_aux_lemma =>
                        obtain rfl : n = j2 := by omega
                        have HYS2 := Lib.hid yS
                        have HYB2 := Lib.hid yB
                        have Hdone := Lib.hid (done_inv t n wr yS.tab (by omega) n1 n2 Hn3.out Hn4.out)
                        clear yS yX yB
                        go_wp2_with fail
                        refine Hdone.out.mono ?_
                        rintro e w12 ⟨v12, rfl, ho12, hT12, hK12⟩
                        have hst := HYS2.out.kept hK12 Hgt.out hg2 hg3 hT12
                        obtain ⟨L, hL⟩ : ∃ L, L = toldL rs a E n := ⟨_, rfl⟩
                        rw [← hL] at ho12
                        obtain ⟨AL, cL, rfl, -, -⟩ := own_ints ho12 rfl
                        obtain ⟨g0, g1⟩ := hst.2.1.cell (show n ≤ len by omega)
                        have HB12 := Lib.hid (HYB2.out.trans (hK12.below HYB2.out.size Hth.out))
                        have hLl : L.length ≤ a + 1 := by
                          rw [hL]; unfold toldL; exact Nat.le_trans (List.length_filter_le _ _) (by simp)
                        have HL := Lib.hid hL
                        have Hst := Lib.hid hst
                        have HoL := Lib.hid ho12
                        have hgT : gT < wr.heap.size := HYS2.out.n.lt
                        have hgE : gE < wr.heap.size := HYS2.out.e.lt
                        have hK := Lib.hid hK12
                        clear ho12 hT12 hK12 hst hL
                        go_wp2_with fail
                        have HoL2 := Lib.hid (own_kept HoL.out ((Kept.refl w12 (· = gE)).setCell (p := ⟨gE, n, none⟩) (Or.inl rfl) (.bool true)) (fun k hk => by have h : k = gE := hk; omega))
                        have HS13 := Lib.hid (EndSt.mk (Hst.out.1.set (fun q hq => by have := Hgt.out q hq; omega) (.bool true)) (Hst.out.2.1.set (G := E1 E n) (by omega) (v := true) (by simp [E1]) (fun i hi => by simp [E1, hi])) (Hst.out.2.2.1.of_block (Below.heap_setCell w12 ⟨gE, n, none⟩ (.bool true) _ (by show gT ≠ gE; omega))) (Hst.out.2.2.2.of_block (Below.heap_setCell w12 ⟨gE, n, none⟩ (.bool true) _ (by show gW ≠ gE; omega))))
                        have HB13 := Lib.hid (HB12.out.setCell (p := ⟨gE, n, none⟩) (by show w.heap.size ≤ gE; omega) (.bool true))
                        go_loopw [27] (fun i wi => ∃ j : Nat, j ≤ L.length ∧ i = .int .i64 j ∧ Hid (EndSt rs len t gE gT gW a (E1 E n) (upT T (L.take j)) W wi) ∧ Hid (wi.ownsRow wr.heap.size 3 1 (.slice AL L.length cL) L.length ((ints L).flatMap Icell)) ∧ Hid (Below w.heap.size w wi)) (fun i _ => L.length - (RowKit.intOf i).toNat)
                        case atStart => exact ⟨0, Nat.zero_le _, rfl, Lib.hid (by rw [List.take_zero, upT_nil]; exact HS13.out), HoL2, HB13⟩
                        case round =>
                          obtain ⟨j, hj, rfl, HSj, HOj, HBj⟩ := hrel
                          have hsj := HBj.out.size
                          by_cases hjl : j < L.length
                          · as_aux_lemma =>
                            have hrL := own_row HOj.out rfl
                            obtain ⟨b3, o3, x, rfl, hbl3, hx, z3⟩ := int_at hrL hjl
                            have hb3 := (HOj.out.lt b3 (by
                              rcases HOj.out.2 with ⟨h, -⟩ | ⟨g, cap, cur, h, -⟩
                              · cases h
                              · simp only [Value.slice.injEq, Option.some.injEq, Addr.mk.injEq, and_true] at h
                                obtain ⟨⟨rfl, rfl⟩, -⟩ := h
                                rfl)).1
                            have hxm := List.mem_of_getElem? hx
                            rw [HL.out] at hxm
                            obtain ⟨x1, x2, x3, x4⟩ := mem_toldL.1 hxm
                            have hnx := (dep_lt x3).2
                            have hfr := told_free hxm Hn3.out
                            have hop := told_open HYS2.out.tab.closed hxm Hn3.out
                            have hxn : x ∉ L.take j := not_take (by rw [HL.out]; exact toldL_rises rs a E n) hx
                            obtain ⟨u0, u1⟩ := HSj.out.n.cell (show x ≤ len by omega)
                            have hup := Lib.hid (upT_snoc (T := T) hxn)
                            obtain ⟨tv, htv⟩ : ∃ tv, tv = upT T (L.take j) x := ⟨_, rfl⟩
                            have htb : tv ≤ 2 := by rw [htv]; exact HP.out.upT_le _ _
                            rw [← htv] at u0
                            have Htv := Lib.hid htv
                            have Hx := Lib.hid hx
                            have hxl0 : (x : Int) < (len : Int) + 1 := by omega
                            have hnx2 : decide ((x : Int) ≤ (n : Int)) = false := by rw [decide_eq_false_iff_not]; omega
                            have hnx3 : decide (x ≤ n) = false := by rw [decide_eq_false_iff_not]; omega
                            have hnx4 : decide ((a : Int) < (x : Int)) = false := by rw [decide_eq_false_iff_not]; omega
                            have hnx5 : decide (a < x) = false := by rw [decide_eq_false_iff_not]; omega
                            have hgT2 := HSj.out.n.lt
                            have hne : b3 ≠ gT := by omega
                            have hne2 : gT ≠ b3 := by omega
                            have hzs : (wr.setCell ⟨gT, x, none⟩ (.int .i64 ((tv : Int) + 1))).cell? ⟨b3, o3 + j, none⟩ = some (.int .i64 x) := by
                              rw [World.cell?_setCell_other _ _ _ _ (by simp [hne])]; exact z3
                            have HS14 := Lib.hid (EndSt.mk (HSj.out.tab.set (g := gT) (i := x) (fun q hq => by have := Hgt.out q hq; omega) (.int .i64 ((tv : Int) + 1))) (HSj.out.e.of_block (Below.heap_setCell wr ⟨gT, x, none⟩ (.int .i64 ((tv : Int) + 1)) _ (by show gE ≠ gT; omega))) (HSj.out.n.set (G := upT T (L.take (j + 1))) (j := x) (v := (tv : Int) + 1) (by omega) (by rw [List.take_add_one, hx]; simp only [Option.toList_some]; rw [hup.out.1, ← htv]; omega) (fun i hi => by rw [List.take_add_one, hx]; simp only [Option.toList_some]; exact hup.out.2 i hi)) (HSj.out.w.of_block (Below.heap_setCell wr ⟨gT, x, none⟩ (.int .i64 ((tv : Int) + 1)) _ (by show gW ≠ gT; omega))))
                            have HO14 := Lib.hid (own_kept HOj.out ((Kept.refl wr (· = gT)).setCell (p := ⟨gT, x, none⟩) (Or.inl rfl) (.int .i64 ((tv : Int) + 1))) (fun k hk => by have h : k = gT := hk; omega))
                            have HB14 := Lib.hid (HBj.out.setCell (p := ⟨gT, x, none⟩) (by show w.heap.size ≤ gT; omega) (.int .i64 ((tv : Int) + 1)))
                            have hw14 := waits_inv t x _ HS14.out.tab (by omega) x1 x2 hop
                            rw [hfr] at hw14
                            have Hw14 := Lib.hid hw14
                            clear hw14 hfr hop hxm hx htv hrL x3 x4 hup
                            go_wp2_with fail
                            refine Hw14.out.mono ?_
                            rintro e w15 ⟨v15, rfl, ho15, hb15⟩
                            obtain ⟨A8, c8, rfl⟩ : ∃ A cap, v15 = .slice A 0 cap := by
                              rcases ho15.2 with h | ⟨g, cap, cur, h, -⟩
                              · exact ⟨_, _, h.1⟩
                              · exact ⟨_, _, h⟩
                            have HS15 := Lib.hid (HS14.out.below hb15)
                            have HO15 := Lib.hid (ownsRow_below HO14.out hb15)
                            have HB15 := Lib.hid (HB14.out.trans (hb15.mono HB14.out.size))
                            clear ho15 hb15
                            go_wp2_with fail
                            exact ⟨⟨j + 1, by omega, by go_num, HS15, HO15, HB15⟩, by simp [RowKit.intOf]; omega⟩
                          · as_aux_lemma =>
                            obtain rfl : j = L.length := by omega
                            have hod := openL_done (m := a) (E := E) n1 n2 Hn3.out
                            have hCC := HC.out
                            have hnew := Lib.hid (show s + 1 + (openL a (E1 E n)).length = 2 * a by omega)
                            clear hod hCC
                            go_wp2_with fail
                            refine ⟨⟨a, s + 1, E1 E n, upT T L, W, ha, rfl, by go_num, hnew, Lib.hid (by rw [HL.out]; exact HP.out.done Hn3.out), Lib.hid (by have := HSj.out; rwa [List.take_length] at this), HBj⟩, by simp [RowKit.intOf]; omega⟩
            · as_aux_lemma =>
              -- DONE
              have hal : a < len := by have h1 := Hfl.out; simp only [Bool.true_eq, Bool.and_eq_true, decide_eq_true_eq] at h1; exact h1.1
              obtain ⟨b, off, r, rfl, hbl, hx, x0, x1, hws, hrl⟩ := (hw.below HB9.out).cell2 hal
              have Hw2 := Lib.hid (hw.2 r (List.mem_of_getElem? hx)).1
              obtain ⟨htx, hnum⟩ := HE.out a r hal hx
              rw [hnum] at x0 htx
              have hs0 := HB9.out.size
              have hkb : ∀ X, Kept w9 X t.has → Below w.heap.size w X := fun X hX => HB9.out.trans (hX.below hs0 Hth.out)
              have Hadd := Lib.hid (add_inv t r.A r.len r.cap w9 HS9.out.tab (by omega) hx (fun X hX => (Hw2.out.below (hkb X hX)).more (hkb X hX).size) htx)
              have Hx := Lib.hid hx
              have Hkb := Lib.hid hkb
              clear htx hnum hkb hws hx
              go_wp2_with fail
              refine Hadd.out.mono ?_
              rintro e w10 ⟨rfl, hT10, hK10⟩
              have HS10 := Lib.hid (HS9.out.kept hK10 Hgt.out hg2 hg3 hT10)
              have HB10 := Lib.hid (Hkb.out w10 hK10)
              have hs10 := HB10.out.size
              have Hwt := Lib.hid (waits_inv t (a + 1) w10 hT10 (by omega) (by omega) (by omega) (HS9.out.tab.fut (by omega)))
              clear hT10 hK10 Hadd Hkb
              go_wp2_with fail
              refine Hwt.out.mono ?_
              rintro e w11 ⟨v11, rfl, ho11, hb11⟩
              have hdl := depL_len rs E (a + 1)
              obtain ⟨D, hD⟩ : ∃ D, D = depL rs E (a + 1) := ⟨_, rfl⟩
              rw [← hD] at ho11 hdl ⊢
              obtain ⟨A11, c11, rfl, hr11, hc11⟩ := own_ints ho11 rfl
              have HB11 := Lib.hid (HB10.out.trans (hb11.mono hs10))
              have HS11 := Lib.hid (EndSt.below (HS10.out.elim fun p1 p2 => EndSt.mk p1 p2.1 p2.2.1 p2.2.2) hb11)
              have Hr11 := Lib.hid hr11
              have HD := Lib.hid hD
              have hs11 := HB11.out.size
              clear ho11 hr11 hb11 hD Hwt
              have hF11 : ∀ X : World, Below w11.heap.size w11 X → EndSt rs len t gE gT gW (a + 1) E T W X ∧ TxsAt X w.heap.size (some ⟨b, off, none⟩) len rs ∧ RowAt Icell 1 X w11.heap.size A11 D.length (ints D) ∧ Below w.heap.size w X ∧ w11.heap.size ≤ X.heap.size := fun X h =>
                have h0 : Below w.heap.size w X := HB11.out.trans (h.mono hs11)
                ⟨HS11.out.below h, hw.below h0, Hr11.out.below h, h0, h.size⟩
              have HF11 := Lib.hid hF11
              clear hF11
              go_wp2_with fail
              go_loopw [18] (fun i wi => ∃ j : Nat, j ≤ D.length ∧ i = .int .i64 j ∧ Hid (Below w11.heap.size w11 wi)) (fun i _ => D.length - (RowKit.intOf i).toNat)
              case atStart => exact ⟨0, Nat.zero_le _, rfl, Lib.hid (Below.refl _ _)⟩
              case round =>
                obtain ⟨j, hj, rfl, HBj⟩ := hrel
                obtain ⟨yS, yX, yR, yB, hsj⟩ := HF11.out wr HBj.out
                by_cases hjl : j < D.length
                · as_aux_lemma =>
                  obtain ⟨b3, o3, d, rfl, hbl3, hd, z3⟩ := int_at yR hjl
                  have hdm := List.mem_of_getElem? hd
                  rw [HD.out] at hdm
                  obtain ⟨hdep, hEd⟩ := mem_depL.1 hdm
                  obtain ⟨hd1, hda⟩ := dep_lt hdep
                  obtain ⟨q0, q1⟩ := yS.e.cell (show d ≤ len by omega)
                  rw [hEd] at q0
                  obtain ⟨b4, o4, r1, he4, hbl4, hx4, u0, u1, hws1, hrl1⟩ := yX.cell2 (show d - 1 < len by omega)
                  obtain ⟨b5, o5, r2, he5, hbl5, hx5, v0, v1, hws2, hrl2⟩ := yX.cell2 hal
                  simp only [Option.some.injEq, Addr.mk.injEq, and_true] at he4 he5
                  obtain ⟨rfl, rfl⟩ := he4
                  obtain ⟨rfl, rfl⟩ := he5
                  have hnear : neighB r1.ws r2.ws = true := by
                    have h5 := dep_pair hdep
                    unfold pairB at h5
                    rw [Nat.add_sub_cancel, wsOf_at hx4, wsOf_at hx5] at h5
                    exact h5
                  have hNr : ∀ X : World, Below w11.heap.size w11 X → Calls Try.prog 35 #[.agg #[.int .i64 r1.number, .slice r1.A r1.len r1.cap], .agg #[.int .i64 r2.number, .slice r2.A r2.len r2.cap]] X fun e w' => e = .returned (.bool true) ∧ Below X.heap.size X w' := fun X h => by
                    obtain ⟨-, k2, -, k4, -⟩ := HF11.out X h
                    have k5 := k4.size
                    have := near_any r1 r2 X ((k2.2 r1 (List.mem_of_getElem? hx4)).1.more k5) ((k2.2 r2 (List.mem_of_getElem? hx5)).1.more k5) (by omega) (by omega)
                    rw [hnear] at this
                    exact this
                  have HNr := Lib.hid hNr
                  have HD3 := Lib.hid hd
                  have e1 : IntKind.i64.wrap ((d : Int) - 1) = (d : Int) - 1 := by rw [IntKind.wrap_i64]; omega
                  have e2 : ((d : Int) - 1).toNat = d - 1 := by omega
                  have e3 : (0 : Int) ≤ (d : Int) - 1 := by omega
                  have e4 : (d : Int) - 1 < (len : Int) := by omega
                  have e5 : IntKind.i64.wrap ((a : Int) + 1 - 1) = (a : Int) := by rw [IntKind.wrap_i64]; omega
                  have e11 : IntKind.i64.wrap (a : Int) = (a : Int) := by rw [IntKind.wrap_i64]; omega
                  have e12 : (1 : Int) ≤ (d : Int) := by omega
                  have e6 : IntKind.i64.wrap ((j : Int) - 1) = (j : Int) - 1 := by rw [IntKind.wrap_i64]; omega
                  have YR := Lib.hid yR
                  have hgl := yS.e.lt
                  clear hnear hx4 hx5 hd hNr hws1 hws2 yS yX yR yB hdm hdep hEd q1
                  go_wp2_with fail
                  have hq1 : decide ((d : Int) < 1) = false := by rw [decide_eq_false_iff_not]; omega
                  have hq2 : decide ((a : Int) + 1 ≤ (d : Int)) = false := by rw [decide_eq_false_iff_not]; omega
                  have k1 : ∀ n : Ext wr, n.X.cell? ⟨b3, o3 + j, none⟩ = some (.int .i64 d) := fun n => (n.h.cell (p := ⟨b3, o3 + j, none⟩) (by show b3 < _; omega)).trans z3
                  have k2 : ∀ n : Ext wr, n.X.cell? ⟨gE, d, none⟩ = some (.bool false) := fun n => (n.h.cell (p := ⟨gE, d, none⟩) hgl).trans q0
                  have k3 : ∀ n : Ext wr, n.X.cell? ⟨b, off + (d - 1) * 2, none⟩ = some (.int .i64 r1.number) := fun n => (n.h.cell (p := ⟨b, off + (d - 1) * 2, none⟩) (by show b < _; omega)).trans u0
                  have k4 : ∀ n : Ext wr, n.X.cell? ⟨b, off + (d - 1) * 2 + 1, none⟩ = some (.slice r1.A r1.len r1.cap) := fun n => (n.h.cell (p := ⟨b, off + (d - 1) * 2 + 1, none⟩) (by show b < _; omega)).trans u1
                  have k5 : ∀ n : Ext wr, n.X.cell? ⟨b, off + a * 2, none⟩ = some (.int .i64 r2.number) := fun n => (n.h.cell (p := ⟨b, off + a * 2, none⟩) (by show b < _; omega)).trans v0
                  have k6 : ∀ n : Ext wr, n.X.cell? ⟨b, off + a * 2 + 1, none⟩ = some (.slice r2.A r2.len r2.cap) := fun n => (n.h.cell (p := ⟨b, off + a * 2 + 1, none⟩) (by show b < _; omega)).trans v1
                  have hN := Lib.hid (fun n : Ext wr => Ext.call (HNr.out n.X (HBj.out.trans (n.h.mono hsj))))
                  clear z3 q0 u0 u1 v0 v1
                  by_cases hj0 : j = 0
                  · subst hj0
                    have k1 : ∀ n : Ext wr, n.X.cell? ⟨b3, o3, none⟩ = some (.int .i64 d) := k1
                    have hq3 : decide ((0 : Int) < 0) = false := by decide
                    refine wp_region_ext (by kernel_rfl) (by kernel_rfl) ?_
                    repeat (go_big_quiet_step ((go_at_call 35; exact hN.out _)))
                    refine Ext.end_ fun X hX => ?_
                    have HX := Lib.hid (HBj.out.trans (hX.mono hsj))
                    clear k1 k2 k3 k4 k5 k6 e1 e2 e5 e6 e11 hX
                    go_wp2_with fail
                    exact ⟨⟨0 + 1, by omega, by go_num, HX⟩, by simp [RowKit.intOf]; omega⟩
                  · obtain ⟨b6, o6, d', he6, hbl6, hd', z6⟩ := int_at YR.out (show j - 1 < D.length by omega)
                    simp only [Option.some.injEq, Addr.mk.injEq, and_true] at he6
                    obtain ⟨rfl, rfl⟩ := he6
                    have hlt : d' < d := by
                      have h5 := depL_rises rs E (a + 1)
                      rw [← HD.out] at h5
                      have h6 := List.pairwise_iff_getElem.1 h5 (j - 1) j (by omega) hjl (by omega)
                      rw [List.getElem?_eq_getElem (by omega)] at hd'
                      have h7 := HD3.out
                      rw [List.getElem?_eq_getElem hjl] at h7
                      simp only [Option.some.injEq] at hd' h7
                      omega
                    have e7 : (0 : Int) ≤ (j : Int) - 1 := by omega
                    have e8 : (j : Int) - 1 < (D.length : Int) := by omega
                    have e9 : ((j : Int) - 1).toNat = j - 1 := by omega
                    have hq3 : decide (0 < (j : Int)) = true := by rw [decide_eq_true_iff]; omega
                    have hq4 : decide ((d : Int) ≤ (d' : Int)) = false := by rw [decide_eq_false_iff_not]; omega
                    have hq5 : decide (0 < j) = true := by rw [decide_eq_true_iff]; omega
                    have hq6 : decide (d ≤ d') = false := by rw [decide_eq_false_iff_not]; omega
                    have k7 : ∀ n : Ext wr, n.X.cell? ⟨b3, o3 + (j - 1), none⟩ = some (.int .i64 d') := fun n => (n.h.cell (p := ⟨b3, o3 + (j - 1), none⟩) (by show b3 < _; omega)).trans z6
                    clear hd' z6
                    refine wp_region_ext (by kernel_rfl) (by kernel_rfl) ?_
                    repeat (go_big_quiet_step ((go_at_call 35; exact hN.out _)))
                    refine Ext.end_ fun X hX => ?_
                    have HX := Lib.hid (HBj.out.trans (hX.mono hsj))
                    clear k1 k2 k3 k4 k5 k6 e1 e2 e5 e6 e11 hX
                    go_wp2_with fail
                    exact ⟨⟨j + 1, by omega, by go_num, HX⟩, by simp [RowKit.intOf]; omega⟩
                · as_aux_lemma =>
                  obtain rfl : j = D.length := by omega
                  obtain ⟨g0, g1⟩ := yS.w.cell (show a + 1 ≤ len by omega)
                  have HS12 := Lib.hid yS
                  have HB12 := Lib.hid yB
                  have hgw := yS.w.lt
                  have hE1 := HS9.out.tab.fut (j := a + 1) (by omega)
                  have hoa := openL_add hE1
                  have hCC := HC.out
                  clear yS yX yR yB
                  go_wp2_with fail
                  refine ⟨⟨a + 1, s + 1, E, T, addW1 rs a E W, by omega, by go_num, by go_num, Lib.hid (by omega), Lib.hid HP.out.add, Lib.hid ⟨HS12.out.tab.set (fun q hq => by have := Hgt.out q hq; omega) _, HS12.out.e.of_block (Below.heap_setCell _ _ _ _ (by show gE ≠ gW; omega)), HS12.out.n.of_block (Below.heap_setCell _ _ _ _ (by show gT ≠ gW; omega)), HS12.out.w.set (by omega) ?_ (fun i hi => by unfold addW1; rw [if_neg hi])⟩, Lib.hid (HB12.out.setCell (by show w.heap.size ≤ gW; omega) _)⟩, by simp [RowKit.intOf]; omega⟩
                  unfold addW1
                  rw [if_pos rfl, ← HD.out]
              -- ENDDONE
end Go.Proofs.Ytdcnaieieggclaa

/- DepsLast: the walk of its law. -/
import Derived.Test.YtdcnaieieggclaaMF
import Derived.Test.YtdcnaieieggclaaMD
import Derived.Deep.QuietTactic
import Derived.BigQuiet
namespace Go.Proofs.Ytdcnaieieggclaa
open Go.RowKit
set_option linter.unusedVariables false
set_option linter.unusedSimpArgs false

open Go.Maps Go.Sort
set_option maxRecDepth 100000
set_option maxHeartbeats 8000000
theorem lawlast_any (A : Option Addr) (len cap : Nat) (rs : List RTx) (A1 : Option Addr) (len1 cap1 : Nat) (ds : List Nat) (w : World) (hw : TxsAt w w.heap.size A len rs) (hl : len * 32 ≤ 140737488351232) (hc : len ≤ cap)
    (hs : ∀ r ∈ rs, ∀ x ∈ r.ws, x.key.size ≤ 140737488351232 ∧ x.val.size ≤ 140737488351232) (hwd : RowAt Ucell 1 w w.heap.size A1 len1 ds) (hl1 : len1 ≤ 140737488351232) (hds : ∀ x ∈ ds, x ≤ 255) :
    Calls Try.prog 9 #[.slice A len cap, .slice A1 len1 cap1] w (TrueB w) := by
  have hlen := Lib.hid hw.1.len
  have Hs := Lib.hid hs
  have Hds := Lib.hid hds
  obtain ⟨i0, hi, hz0, hz1, hz2⟩ := info_parts info_int
  clear hs hds
  go_enter Try.func9, Try.ntmps9
  go_wp2_with fail
  refine (alive11_any _).mono ?_
  rintro e w1 ⟨rfl, hb1⟩
  have hs1 := hb1.size
  have hw1 := (hw.below hb1).more hs1
  have Hb1 := Lib.hid hb1
  clear hb1
  by_cases h40 : 40 < len
  case pos =>
    clear hw1
    go_wp2_with fail
    refine (alive11_any _).mono ?_
    rintro e w2 ⟨rfl, hb2⟩
    have Hb2 := Lib.hid (Hb1.out.trans (hb2.mono hs1))
    clear hb2
    go_wp2_with fail
    go_ret
    exact ⟨rfl, Hb2.out⟩
  have hl2 : len ≤ 40 := by omega
  have hd2 : decide (40 < (len : Int)) = false := by rw [decide_eq_false_iff_not]; omega
  go_wp2_with fail
  refine (txsize_any A len cap rs _ hw1 (by omega) Hs.out).mono ?_
  rintro e w2 ⟨q, rfl, q0, q1, hb2⟩
  have hs2 := hb2.size
  have hq : RowAt Icell 1 (w2.alloc (.cells #[.int .i64 q] 3)) (w2.alloc (.cells #[.int .i64 q] 3)).heap.size (some ⟨w2.heap.size, 0, none⟩) 1 [q] := rowAt_block [q] (len_int _) (blk_new _ _) (by simp) (fun j u hu => by simpa [Icell] using hu)
  have Hq := Lib.hid hq
  have Hb2 := Lib.hid (Hb1.out.trans (hb2.mono hs1))
  clear hq hb2 hw1
  go_wp2_with fail
  refine (beyond_any _ 1 1 [q] _ Hq.out (by omega) (fun x hx => by simp at hx; omega)).mono ?_
  rintro e w3 ⟨bb, rfl, hb3⟩
  have hb3' : Below w.heap.size w w3 := Hb2.out.trans (((bel_alloc (Below.refl _ _) _).trans (hb3.mono (by simp))).mono (by omega))
  have Hb3 := Lib.hid hb3'
  have hs3 := hb3'.size
  clear hb3 hb3'
  cases bb
  case true =>
    go_wp2_with fail
    refine (alive11_any _).mono ?_
    rintro e w4 ⟨rfl, hb4⟩
    have Hb4 := Lib.hid (Hb3.out.trans (hb4.mono hs3))
    clear hb4
    go_wp2_with fail
    go_ret
    exact ⟨rfl, Hb4.out⟩
  go_wp2_with fail
  obtain ⟨t, hth, hnew⟩ := new_inv rs w3
  refine hnew.mono ?_
  rintro e w4 ⟨rfl, hT4, hb4⟩
  have HT4 := Lib.hid hT4
  have Hb4 := Lib.hid (Hb3.out.trans (hb4.mono hs3))
  have Hth := Lib.hid (show ∀ k, t.has k → w.heap.size ≤ k from fun k hk => by have := hth k hk; omega)
  have hs4 := Hb4.out.size
  clear hT4 hb4 hth hnew
  go_wp2_with fail
  go_loopw [6] (fun i wr => ∃ (k : Nat) (E : Nat → Bool), k ≤ len ∧ i = .int .i64 k ∧ Hid (Tabs rs k E t wr) ∧ Hid (Below w.heap.size w wr)) (fun i _ => len - (RowKit.intOf i).toNat)
  case atStart => exact ⟨0, E0, Nat.zero_le _, rfl, HT4, Hb4⟩
  case round =>
    obtain ⟨k, E, hk, rfl, HT, HB⟩ := hrel
    have hr := hw.below HB.out
    have hso := HB.out.size
    by_cases hlt : k < len
    · obtain ⟨b, off, r, rfl, hbl, hx, x0, x1, hws, hrl⟩ := hr.cell2 hlt
      have Hx := Lib.hid hx
      have Hw2 := Lib.hid (hw.2 r (List.mem_of_getElem? hx)).1
      have hws2 := hws.more hso
      clear hx hws hr
      go_wp2_with fail
      refine (check_any r.number r.A r.len r.cap r.ws _ hws2 (by omega)).mono ?_
      rintro e w5 ⟨rfl, hb5⟩
      have x0 := (hb5.cell (p := ⟨b, off + k * 2, none⟩) (by show b < _; omega)).trans x0
      have x1 := (hb5.cell (p := ⟨b, off + k * 2 + 1, none⟩) (by show b < _; omega)).trans x1
      have HT5 := Lib.hid (HT.out.below hb5)
      have Hb5 := Lib.hid (HB.out.trans (hb5.mono hso))
      have hs5 := Hb5.out.size
      clear hb5 hws2
      cases ht : txB r.number r.ws
      · clear ht
        rw [show errOf false = 1 from rfl]
        go_wp2_with fail
        go_ret
        exact ⟨rfl, Hb5.out⟩
      · have Ht := Lib.hid ht
        clear ht
        rw [show errOf true = 0 from rfl]
        by_cases hn : r.number = (k : Int) + 1
        case neg =>
          have hnb : (r.number != (k : Int) + 1) = true := by simpa using hn
          clear hn
          go_wp2_with fail
          go_ret
          exact ⟨rfl, Hb5.out⟩
        have Htx := Lib.hid (show txB ((k : Int) + 1) r.ws = true by rw [← hn]; exact Ht.out)
        rw [hn] at x0
        have hnb : (r.number != (k : Int) + 1) = false := by simp [hn]
        have Hn := Lib.hid hn
        clear hn Ht
        have Hop := Lib.hid (open_inv t w5 HT5.out (by omega))
        go_wp2_with fail
        refine Hop.out.mono ?_
        rintro e w6 ⟨v6, rfl, ho6, hb6⟩
        obtain ⟨op, hop⟩ : ∃ op, op = openL k E := ⟨_, rfl⟩
        rw [← hop] at ho6
        have hopl : op.length ≤ 65536 := by rw [hop]; have := openL_le k E; omega
        obtain ⟨A6, c6, rfl, hr6, hc6⟩ := own_ints ho6 rfl
        have HOp := Lib.hid hop
        have Hr6 := Lib.hid hr6
        have HT6 := Lib.hid (HT5.out.below hb6)
        have x0 := (hb6.cell (p := ⟨b, off + k * 2, none⟩) (by show b < _; omega)).trans x0
        have x1 := (hb6.cell (p := ⟨b, off + k * 2 + 1, none⟩) (by show b < _; omega)).trans x1
        have Hb6 := Lib.hid (Hb5.out.trans (hb6.mono hs5))
        have hs6 := Hb6.out.size
        have Hwl := Lib.hid Hw2.out.len
        clear Hop ho6 hop hr6 hb6
        have hFr : ∀ X : World, Below w6.heap.size w6 X → X.cell? ⟨b, off + k * 2 + 1, none⟩ = some (.slice r.A r.len r.cap) ∧ WsAt X w.heap.size r.A r.len r.ws ∧ RowAt Icell 1 X w6.heap.size A6 op.length (ints op) ∧ Tabs rs k E t X ∧ Below w.heap.size w X ∧ w6.heap.size ≤ X.heap.size := fun X h =>
          have h0 : Below w.heap.size w X := Hb6.out.trans (h.mono hs6)
          ⟨(h.cell (p := ⟨b, off + k * 2 + 1, none⟩) (by show b < _; omega)).trans x1, Hw2.out.below h0, Hr6.out.below h, HT6.out.below h, h0, h.size⟩
        have HFr := Lib.hid hFr
        clear hFr
        go_wp2_with fail
        go_loopw [8, 9] (fun V i wi => ∃ s : Nat, s ≤ op.length ∧ i = .int .i64 ((s : Int) - 1) ∧ Hid (wi.ownsRow w6.heap.size 3 1 V (wantL rs r.ws k op s).length ((ints (wantL rs r.ws k op s)).flatMap Icell)) ∧ Hid (Below w6.heap.size w6 wi)) (fun _ i _ => (RowKit.intOf i + 1).toNat)
        case atStart => exact ⟨op.length, Nat.le_refl _, rfl, Lib.hid (by rw [wantL_end]; exact ⟨rfl, Or.inl ⟨rfl, rfl⟩⟩), Lib.hid (Below.refl _ _)⟩
        case round =>
          obtain ⟨s, hsl, rfl, HW, HBi⟩ := hrel
          obtain ⟨wq, hwq⟩ : ∃ wq : World, wq = wr := ⟨_, rfl⟩
          subst hwq
          by_cases hs0 : 1 ≤ s
          · obtain ⟨q, rfl⟩ : ∃ q, s = q + 1 := ⟨s - 1, by omega⟩
            obtain ⟨y1, y2, y3, y4, -, hsi⟩ := HFr.out wq HBi.out
            obtain ⟨b6, o6, nb, rfl, hbl6, hnb6, z0⟩ := int_at y3 (show q < op.length by omega)
            have Hnb := Lib.hid hnb6
            clear y2 y3 y4 hnb6 z0
            have Hst := Lib.hid (wantL_step (rs := rs) (ws := r.ws) (m := k) Hnb.out)
            go_wp2_with fail
            go_loopw [8, 10] (fun V i wj => ∃ p : Nat, p ≤ r.len ∧ i = .int .i64 p ∧ V = u8 ∧ Hid (∀ y ∈ r.ws.take p, lastN rs y.key k ≠ nb) ∧ Hid (Below wq.heap.size wq wj)) (fun _ i _ => r.len - (RowKit.intOf i).toNat)
            case atStart => exact ⟨0, Nat.zero_le _, rfl, rfl, Lib.hid (by simp), Lib.hid (Below.refl _ _)⟩
            case round =>
              obtain ⟨p, hp, rfl, rfl, HN, HBj⟩ := hrel
              have hbw : Below w6.heap.size w6 wr := HBi.out.trans (HBj.out.mono hsi)
              have Hbw := Lib.hid hbw
              obtain ⟨y1, y2, y3, y4, y5, hsj⟩ := HFr.out wr hbw
              clear hbw
              by_cases hpl : p < r.len
              · obtain ⟨b7, o7, y, hA7, hbl7, hy, u0, -, -⟩ := WsAt.cell3 y2 hpl
                obtain ⟨b6', o6', nb', hA6', -, hnb', z0⟩ := int_at y3 (show q < op.length by omega)
                rw [Hnb.out] at hnb'
                simp only [Option.some.injEq, Addr.mk.injEq, and_true] at hA6' hnb'
                obtain ⟨rfl, rfl⟩ := hA6'
                obtain rfl := hnb'
                rw [hA7] at y1
                have Hy := Lib.hid hy
                have hla := fun n => last_inv t y.key (wr.drewN n) (y4.below (below_drewN (Below.refl _ _) n))
                obtain ⟨lv, hlv⟩ : ∃ lv, lv = lastN rs y.key k := ⟨_, rfl⟩
                rw [← hlv] at hla
                have Hlv := Lib.hid hlv
                have Hla := Lib.hid hla
                clear y2 y3 y4 y5 hy hlv hla hA7
                by_cases hlb : lv = nb
                · subst hlb
                  have hqq : ((lv : Int) == (lv : Int)) = true := by simp
                  go_wp2_with fail
                  go_quiet ((go_at_call 37; exact Calls.quiet_of_same (Hla.out _)))
                  have hwle := wantL_le rs r.ws k op (q + 1)
                  have hwb : wantB rs r.ws k lv = true := wantB_iff.2 ⟨y, List.mem_of_getElem? Hy.out, Hlv.out.symm⟩
                  have Hwb := Lib.hid hwb
                  clear hwb
                  go_wp2_with (at_builtin; refine wpList_append_own _ rfl _ _ 62 rfl w6.heap.size 3 i0 _ 1 8 Try.underlying62 hi hz0 hz1 hz2 rfl (by decide) _ _ _ rfl (ownsRow_below HW.out ((below_drewN HBj.out _).alloc HBj.out.size _)) ⟨wr.heap.size, 0, none⟩ 1 1 (Icell lv) rfl rfl (World.news_of_block (blk_new _ _)) (one_int _) (by simp only [maxLen]; omega) (by omega) (by simp; omega) ?_; intro v' w' hown' hg' hn')
                  refine ⟨⟨q, by omega, rfl, Lib.hid ?_, Lib.hid ?_⟩, by simp [RowKit.intOf]⟩
                  · rw [Hst.out, if_pos Hwb.out, ints_snoc, List.length_append]
                    exact hown'
                  · exact ((below_drewN Hbw.out _).alloc Hbw.out.size _).grown hg' (by simp; omega) (fun j hj => (HW.out.lt j hj).1)
                · have hqq : ((lv : Int) == (nb : Int)) = false := by simp; omega
                  have hqq2 : (lv == nb) = false := by simpa using hlb
                  have Hlb := Lib.hid hlb
                  clear hlb
                  go_wp2_with fail
                  go_quiet ((go_at_call 37; exact Calls.quiet_of_same (Hla.out _)))
                  go_wp2_with fail
                  refine ⟨⟨p + 1, by omega, by go_num, rfl, Lib.hid ?_, Lib.hid (below_drewN HBj.out _)⟩, by simp [RowKit.intOf]; omega⟩
                  intro z hz
                  rw [List.take_add_one, Hy.out] at hz
                  rcases List.mem_append.1 hz with hz | hz
                  · exact HN.out z hz
                  · simp at hz; subst hz
                    rw [← Hlv.out]; exact Hlb.out
              · obtain rfl : p = r.len := by omega
                clear y2 y3 y4 y5
                go_wp2_with fail
                refine ⟨⟨q, by omega, rfl, Lib.hid ?_, Lib.hid Hbw.out⟩, by simp [RowKit.intOf]⟩
                rw [Hst.out, if_neg, List.append_nil]
                · exact ownsRow_below HW.out HBj.out
                · have h1 := HN.out
                  rw [List.take_of_length_le (by rw [Hwl.out]; exact Nat.le_refl _)] at h1
                  rw [wantB_no h1]; decide
          · obtain rfl : s = 0 := by omega
            have hD := wantL_zero (r := r) E Hx.out
            rw [← HOp.out] at hD
            obtain ⟨D, hDD⟩ : ∃ D, D = depL rs E (k + 1) := ⟨_, rfl⟩
            rw [← hDD] at hD
            have ho := HW.out
            rw [hD, List.length_reverse] at ho
            have hDl : D.length ≤ 65536 := by have := wantL_le rs r.ws k op 0; rw [hD, List.length_reverse] at this; omega
            obtain ⟨A8, c8, rfl, hr8, hc8⟩ := own_ints ho List.length_reverse
            have HD := Lib.hid hDD
            have Ho8 := Lib.hid ho
            obtain ⟨-, -, -, y4, y5, hsq⟩ := HFr.out wq HBi.out
            have x0 := (HBi.out.cell (p := ⟨b, off + k * 2, none⟩) (by show b < _; omega)).trans x0
            have x1 := (HBi.out.cell (p := ⟨b, off + k * 2 + 1, none⟩) (by show b < _; omega)).trans x1
            have Hx1 := Lib.hid x1
            have H5 := Lib.hid y5
            have hkb : ∀ X, Kept wq X t.has → Below w.heap.size w X := fun X hX => H5.out.trans (hX.below H5.out.size Hth.out)
            have hadd := add_inv t r.A r.len r.cap wq y4 (by omega) Hx.out (fun X hX => (Hw2.out.below (hkb X hX)).more (hkb X hX).size) Htx.out
            rw [← HD.out] at hadd
            have Hadd := Lib.hid hadd
            have Hkb := Lib.hid hkb
            have htl : ∀ j, t.has j → j < w6.heap.size := fun j hj => HT6.out.lt hj
            have Htl := Lib.hid htl
            have hfu := HT6.out.fut (j := k + 1) (by omega)
            have Hfu := Lib.hid hfu
            clear hD hDD ho hr8 y4 y5 hkb hadd htl hfu
            go_wp2_with fail
            refine Hadd.out.mono ?_
            rintro e w9 ⟨rfl, hT9, hK9⟩
            have hb9 := Hkb.out w9 hK9
            have ho9 := own_kept Ho8.out hK9 Htl.out
            have hs9 := hb9.size
            have HT9 := Lib.hid hT9
            have Hb9 := Lib.hid hb9
            have Ho9 := Lib.hid ho9
            have Hwt := Lib.hid (waits_inv t (k + 1) w9 hT9 (by omega) (by omega) (by omega) Hfu.out)
            clear hT9 hK9 hb9 ho9
            go_wp2_with fail
            refine Hwt.out.mono ?_
            rintro e w10 ⟨v10, rfl, ho10, hb10⟩
            rw [← HD.out] at ho10
            obtain ⟨A10, c10, rfl, hr10, hc10⟩ := own_ints ho10 rfl
            have hr8 := own_row (ownsRow_below Ho9.out hb10) List.length_reverse
            have hF2 : ∀ X : World, Below w10.heap.size w10 X → X.cell? ⟨b, off + k * 2 + 1, none⟩ = some (.slice r.A r.len r.cap) ∧ WsAt X w.heap.size r.A r.len r.ws ∧ RowAt Icell 1 X w10.heap.size A10 D.length (ints D) ∧ RowAt Icell 1 X w10.heap.size A8 D.length (ints D.reverse) ∧ Tabs rs (k + 1) E t X ∧ Below w.heap.size w X ∧ w10.heap.size ≤ X.heap.size := fun X h =>
              have h1 : Below w.heap.size w w10 := Hb9.out.trans (hb10.mono hs9)
              have h0 : Below w.heap.size w X := h1.trans (h.mono h1.size)
              ⟨(h0.cell (p := ⟨b, off + k * 2 + 1, none⟩) (by show b < _; omega)).trans ((H5.out.cell (p := ⟨b, off + k * 2 + 1, none⟩) (by show b < _; omega)).symm.trans Hx1.out), Hw2.out.below h0, hr10.below h, hr8.below h, (HT9.out.below hb10).below h, h0, h.size⟩
            have HF2 := Lib.hid hF2
            have hw10 : w.heap.size ≤ w10.heap.size := by have := hb10.size; omega
            clear hr8 hr10 ho10 hb10 hF2
            go_wp2_with fail
            go_loopw [15] (fun i wi => ∃ j : Nat, j ≤ D.length ∧ i = .int .i64 j ∧ Hid (Below w10.heap.size w10 wi)) (fun i _ => D.length - (RowKit.intOf i).toNat)
            case atStart => exact ⟨0, Nat.zero_le _, rfl, Lib.hid (Below.refl _ _)⟩
            case round =>
              obtain ⟨j, hj, rfl, HBj⟩ := hrel
              by_cases hjl : j < D.length
              · obtain ⟨-, -, y3, y4, -, -, hsj⟩ := HF2.out wr HBj.out
                obtain ⟨b3, o3, n3, rfl, hbl3, hn3, z3⟩ := int_at y3 hjl
                obtain ⟨b4, o4, n4, rfl, hbl4, hn4, z4⟩ := int_at y4 (show D.length - 1 - j < D.length by omega)
                rw [List.getElem?_reverse (by omega), show D.length - 1 - (D.length - 1 - j) = j by omega, hn3] at hn4
                obtain rfl := Option.some.inj hn4
                have e1 : IntKind.i64.wrap ((D.length : Int) - 1) = (D.length : Int) - 1 := by rw [IntKind.wrap_i64]; omega
                have e2 : IntKind.i64.wrap ((D.length : Int) - 1 - (j : Int)) = (D.length : Int) - 1 - (j : Int) := by rw [IntKind.wrap_i64]; omega
                have e3 : ((D.length : Int) - 1 - (j : Int)).toNat = D.length - 1 - j := by omega
                have e4 : (0 : Int) ≤ (D.length : Int) - 1 - (j : Int) := by omega
                have e5 : (D.length : Int) - 1 - (j : Int) < (D.length : Int) := by omega
                clear hn3 hn4 y3 y4
                go_wp2_with fail
                go_quiet (fail)
                clear e1 e2 e3
                go_wp2_with fail
                exact ⟨⟨j + 1, by omega, by go_num, Lib.hid (below_drewN HBj.out _)⟩, by simp [RowKit.intOf]; omega⟩
              · obtain rfl : j = D.length := by omega
                go_wp2_with fail
                go_loopw [16] (fun i wi => ∃ p : Nat, p ≤ r.len ∧ i = .int .i64 p ∧ Hid (Below w10.heap.size w10 wi)) (fun i _ => r.len - (RowKit.intOf i).toNat)
                case atStart => exact ⟨0, Nat.zero_le _, rfl, HBj⟩
                case round =>
                  obtain ⟨p, hp, rfl, HBp⟩ := hrel
                  obtain ⟨y1, y2, -, -, y5, y6, hsp⟩ := HF2.out wr HBp.out
                  by_cases hpl : p < r.len
                  · obtain ⟨b7, o7, y, hA7, hbl7, hy, u0, -, -⟩ := WsAt.cell3 y2 hpl
                    rw [hA7] at y1
                    have hla := last_inv t y.key wr y5
                    rw [lastN_now Hx.out (List.mem_of_getElem? hy)] at hla
                    rw [show ((k + 1 : Nat) : Int) = (k : Int) + 1 by omega] at hla
                    have Hla := Lib.hid hla
                    clear y2 y5 y6 hA7 hy hla
                    go_wp2_with fail
                    refine Hla.out.mono ?_
                    rintro e w11 ⟨rfl, rfl⟩
                    go_wp2_with fail
                    exact ⟨⟨p + 1, by omega, by go_num, HBp⟩, by simp [RowKit.intOf]; omega⟩
                  · obtain rfl : p = r.len := by omega
                    have H6 := Lib.hid y6
                    have H55 := Lib.hid y5
                    clear y2 y5 y6
                    by_cases hk1 : k < len1
                    · obtain ⟨b7, o7, x, hA7, hbl7, hxd, hcx⟩ := (hwd.below H6.out).at_ hk1
                      have x7 := hcx 0 _ rfl
                      simp only [Nat.mul_one, Nat.add_zero] at x7
                      have hx255 := Hds.out x (List.mem_of_getElem? hxd)
                      have HA7 := Lib.hid hA7
                      obtain rfl := hA7
                      clear hxd hcx
                      by_cases hx2 : x % 2 = 0
                      · have Hop2 := Lib.hid (open_inv t wr H55.out (by omega))
                        obtain ⟨n0, lo, hop0⟩ := open_some (m := k + 1) (E := E) (by omega) Hfu.out
                        have Hf := Lib.hid (head_free (rs := rs) hop0)
                        have Hop0 := Lib.hid hop0
                        clear hop0
                        go_wp2_with fail
                        refine Hop2.out.mono ?_
                        rintro e w12 ⟨v12, rfl, ho12, hb12⟩
                        rw [Hop0.out] at ho12
                        obtain ⟨A12, c12, rfl, hr12, -⟩ := own_ints ho12 rfl
                        obtain ⟨b12, o12, x12, rfl, hbl12, hx12, z12⟩ := int_at hr12 (show 0 < (n0 :: lo).length by simp)
                        simp only [List.getElem?_cons_zero, Option.some.injEq] at hx12
                        subst hx12
                        simp only [Nat.add_zero] at z12
                        have H12 := Lib.hid (H6.out.trans (hb12.mono H6.out.size))
                        have Hdone := Lib.hid (done_inv t n0 w12 (H55.out.below hb12) (by omega) Hf.out.1 Hf.out.2.1 Hf.out.2.2.1 Hf.out.2.2.2)
                        have hpos : 0 < (n0 :: lo).length := by simp
                        clear ho12 hr12 hb12
                        go_wp2_with fail
                        refine Hdone.out.mono ?_
                        rintro e w13 ⟨v13, rfl, -, hT13, hK13⟩
                        have HT13 := Lib.hid hT13
                        have H13 := Lib.hid (H12.out.trans (hK13.below H12.out.size Hth.out))
                        clear hT13 hK13
                        go_wp2_with fail
                        exact ⟨⟨k + 1, E1 E n0, by omega, by go_num, HT13, H13⟩, by simp [RowKit.intOf]; omega⟩
                      · go_wp2_with fail
                        exact ⟨⟨k + 1, E, by omega, by go_num, H55, H6⟩, by simp [RowKit.intOf]; omega⟩
                    · go_wp2_with fail
                      exact ⟨⟨k + 1, E, by omega, by go_num, H55, H6⟩, by simp [RowKit.intOf]; omega⟩
    · obtain rfl : k = len := by omega
      clear hr
      go_wp2_with fail
      go_ret
      exact ⟨rfl, HB.out⟩
end Go.Proofs.Ytdcnaieieggclaa

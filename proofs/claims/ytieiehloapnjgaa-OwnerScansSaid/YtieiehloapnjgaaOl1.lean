/- OwnerScans: the walk of its law. -/
import Derived.Test.YtieiehloapnjgaaOl0
import Derived.Test.YtieiehloapnjgaaSl1
namespace Go.Proofs.Ytieiehloapnjgaa
open Go.RowKit
set_option linter.unusedVariables false
set_option linter.unusedSimpArgs false

set_option maxRecDepth 100000
theorem get_may {mark : Int} {key fin k : ByteArray} (h : mayR ⟨3, -1, mark, ⟨#[]⟩, ⟨#[]⟩, false, key, fin, none, 0, 0, []⟩ = true) (hk : keyB k = true) : mayR ⟨2, -1, mark, ⟨#[]⟩, ⟨#[]⟩, false, k, ⟨#[]⟩, none, 0, 0, []⟩ = true := by
  have h1 : readB ⟨3, -1, mark, ⟨#[]⟩, ⟨#[]⟩, false, key, fin, none, 0, 0, []⟩ = true := by
    unfold mayR at h
    rw [if_neg (by simp), if_neg (by simp), if_neg (by simp), if_pos rfl] at h
    simp only [Bool.and_eq_true] at h
    exact h.1.1
  unfold mayR
  rw [if_neg (by simp), if_neg (by simp), if_pos rfl]
  have h2 : readB ⟨2, -1, mark, ⟨#[]⟩, ⟨#[]⟩, false, k, ⟨#[]⟩, none, 0, 0, []⟩ = true := h1
  rw [h2]
  show (true && keyB k && decide _) = true
  rw [hk]
  rfl
theorem size_bound {L : Hs} (h : HsOk L) (hl : L.length ≤ 3518437208832) : sizeH L ≤ 1152921504606846976 := by
  have h1 : ∀ M : Hs, (∀ p ∈ M, p.2.length ≤ 65536) → sizeH M ≤ M.length * 65536 := by
    intro M
    induction M with
    | nil => simp [sizeH]
    | cons p r ih =>
      intro hm
      have h2 := ih (fun q hq => hm q (by simp [hq]))
      have h3 := hm p (by simp)
      simp only [sizeH, List.map_cons, List.sum_cons, List.length_cons] at *
      omega
  have h2 := h1 L (fun p hp => chkB_len (h.chk p hp))
  omega
theorem scanH_at {L : Hs} {key fin : ByteArray} {m : Int} {j : Nat} {k : ByteArray} {l : List Ver} (h : L[j]? = some (k, l)) (hy : ((getV l m).2 && inS key fin k) = true) : (scanH L key fin m)[(scanH (L.take j) key fin m).length]? = some (k, (getV l m).1) := by
  have h1 := scanH_take (key := key) (end_ := fin) (m := m) h
  rw [if_pos hy] at h1
  have h2 : scanH L key fin m = scanH (L.take (j + 1)) key fin m ++ scanH (L.drop (j + 1)) key fin m := by
    unfold scanH
    rw [← List.filterMap_append, List.take_append_drop]
  rw [h2, h1, List.append_assoc, List.getElem?_append_right (Nat.le_refl _)]
  simp
theorem en_at {w : World} {B n c : Nat} {A : Option Addr} {es : List (ByteArray × ByteArray)} (h : OwnE w B (.slice A n c) es) : RowAt EnC 2 w w.heap.size A n es := by
  obtain ⟨A', c', e, hr, -, -⟩ := rowAt_own (len_en _) h
  injection e with e1 e2 e3
  subst e1 e2
  exact hr
theorem plainR_get {hs : List HR} {i : Nat} {h : HR} (hi : hs[i]? = some h) : (plainR hs)[i]? = some (h.key, h.vs) := by simp [plainR, hi]
set_option maxHeartbeats 16000000 in
theorem lawscans_any (A : Option Addr) (len cap : Nat) (hs : List HR) (key fin : ByteArray) (mark : Int) (w : World) (hw : HdsAt w w.heap.size A len hs) (hl : len ≤ 3518437208832) (hlv : ∀ h ∈ hs, h.len ≤ 4398046511104) :
    Calls Try.prog 3 #[.agg #[.slice A len cap, .string key, .string fin, .int .i64 mark]] w fun e w' => e = .returned (.bool true) ∧ Below w.heap.size w w' := by
  have Hw := Lib.hid hw
  have hlen : (plainR hs).length = len := by have := hw.1.len; simp [plainR, this]
  have Hlen := Lib.hid hlen
  have Hlv := Lib.hid hlv
  obtain ⟨L, hL⟩ : ∃ L, L = plainR hs := ⟨_, rfl⟩
  have HL := Lib.hid hL
  clear hw hlen hlv hL
  go_enter Try.func3, Try.ntmps3
  go_wp2_with fail
  obtain ⟨W, hW⟩ : ∃ W, W = w.alloc (.cells #[.slice A len cap, .string key, .string fin, .int .i64 mark] 24) := ⟨_, rfl⟩
  rw [← hW]
  have HB : Hid (Below w.heap.size w W) := Lib.hid (hW ▸ bel_alloc (Below.refl _ _) _)
  have hs0 : w.heap.size < W.heap.size := by rw [hW]; simp
  clear hW
  refine (onew_any 0 1 A len cap hs W ((Hw.out.below HB.out).more HB.out.size) hl Hlv.out).mono ?_
  intro e w1 he
  unfold ONewEnd at he
  rw [← HL.out] at he
  cases hm : mayH L
  · rw [if_neg (by rw [hm]; simp)] at he
    obtain ⟨rfl, hb1⟩ := he
    have HB1 := Lib.hid (HB.out.trans (hb1.mono HB.out.size))
    clear hb1 hm
    go_wp2_with fail
    refine (lives15_any w1).mono ?_
    rintro e w2 ⟨rfl, hb2⟩
    have HB2 := Lib.hid (HB1.out.trans (hb2.mono HB1.out.size))
    clear hb2
    go_wp2_with fail
    go_ret
    exact ⟨rfl, HB2.out⟩
  · rw [if_pos ⟨⟨by omega, by omega, by omega, by omega⟩, hm⟩] at he
    obtain ⟨o, rfl, ho, hcap, hg, htg, htp, hp, hb, hb1⟩ := he
    have hcap2 : o.cap = 1 := by omega
    have HO1 := Lib.hid ho
    have HB1 := Lib.hid (HB.out.trans (hb1.mono HB.out.size))
    have Hok := Lib.hid (mayH_iff.1 hm)
    have hWs : w.heap.size ≤ W.heap.size := by omega
    clear ho hb1 hcap hm
    go_wp2_with fail
    refine (oask_any o 0 L [] ⟨3, -1, mark, ⟨#[]⟩, ⟨#[]⟩, false, key, fin, none, 0, 0, []⟩ w1 HO1.out RowAt.nil_ (fun _ => rfl) (by simp)).mono ?_
    intro e w2 he
    unfold OAskEnd at he
    cases hm : mayR ⟨3, -1, mark, ⟨#[]⟩, ⟨#[]⟩, false, key, fin, none, 0, 0, []⟩
    · rw [if_neg (by rw [hm]; simp)] at he
      obtain ⟨rfl, hb2⟩ := he
      have HB2 := Lib.hid (HB1.out.trans (hb2.mono HB1.out.size))
      clear hb2 hm
      go_wp2_with fail
      refine (lives15_any w2).mono ?_
      rintro e w3 ⟨rfl, hb3⟩
      have HB3 := Lib.hid (HB2.out.trans (hb3.mono HB2.out.size))
      clear hb3
      go_wp2_with fail
      go_ret
      exact ⟨rfl, HB3.out⟩
    · rw [if_pos hm, if_pos (by rw [hcap2]; simp)] at he
      obtain ⟨A1, c1, rfl, -, ho2, k2⟩ := he
      have Hm := Lib.hid hm
      have HO2 := Lib.hid ho2
      have K2 : Hid (Kept w1 w2 (fun b => b = o.p ∨ b = o.b ∨ b = o.t.p)) := Lib.hid (k2.mono (fun b hb => by omega))
      have hLl : L.length ≤ 3518437208832 := by rw [HL.out, Hlen.out]; exact hl
      have HLl := Lib.hid hLl
      have hLs : sizeH L ≤ 1152921504606846976 := size_bound Hok.out hLl
      have HLs := Lib.hid hLs
      clear ho2 k2 hm HO1 hLl hLs
      go_wp2_with fail
      refine (oserve_any o 0 L _ [] w2 HO2.out HLl.out HLs.out).mono ?_
      rintro e w3 ⟨f3, L', cs, rfl, hrep, ho3, k3⟩
      obtain ⟨rfl, v, rfl, hv⟩ := hrep.k3 rfl
      simp only at hv ⊢
      obtain ⟨A4, c4, rfl, -, -, -⟩ := rowAt_own (len_en _) hv
      obtain ⟨E, hE⟩ : ∃ E, E = scanH L' key fin mark := ⟨_, rfl⟩
      rw [← hE] at hv ⊢
      obtain ⟨el, hel⟩ : ∃ el, el = E.length := ⟨_, rfl⟩
      have hell : el ≤ 3518437208832 := by
        rw [hel, hE]
        have := (scanH_keys L' key fin mark).length_le
        simp at this
        have := HLl.out
        omega
      rw [← hel]
      have HE := Lib.hid hE
      have Hel := Lib.hid hel
      have hsz2 : w1.heap.size ≤ w2.heap.size := K2.out.size
      have h2p := HO2.out.rg.buf.lt
      have h2q := blk_lt HO2.out.rg.hp
      have h2t := HO2.out.sh.lt.2
      have hsz3 : w2.heap.size ≤ w3.heap.size := k3.size
      have HV3 : Hid (OwnE w3 w2.heap.size (.slice A4 el c4) E) := Lib.hid (by rw [hel]; exact hv)
      have HO3 := Lib.hid ho3
      have K3 : Hid (Kept w1 w3 (fun b => b = o.p ∨ b = o.b ∨ b = o.t.p)) := Lib.hid (K2.out.trans k3)
      clear hrep hv hE hel ho3 k3 HO2 K2
      go_wp2_with fail
      have HO5 := Lib.hid (HO3.out.below (bel_alloc (Below.refl _ _) (.cells #[.int .i64 (-1), .bool true, .slice A4 el c4, .slice none 0 0, .int .i64 0] 40)))
      have HB5 : Hid (Below w3.heap.size w3 (w3.alloc (.cells #[.int .i64 (-1), .bool true, .slice A4 el c4, .slice none 0 0, .int .i64 0] 40))) := Lib.hid (bel_alloc (Below.refl _ _) _)
      have HN5 : Hid ((w3.alloc (.cells #[.int .i64 (-1), .bool true, .slice A4 el c4, .slice none 0 0, .int .i64 0] 40)).heap[w3.heap.size]? = some (.cells #[.int .i64 (-1), .bool true, .slice A4 el c4, .slice none 0 0, .int .i64 0] 40 (0, 0))) := Lib.hid (blk_new _ _)
      obtain ⟨W5, hW5⟩ : ∃ W5, W5 = w3.alloc (.cells #[.int .i64 (-1), .bool true, .slice A4 el c4, .slice none 0 0, .int .i64 0] 40) := ⟨_, rfl⟩
      rw [← hW5] at HO5 HB5 HN5 ⊢
      clear hW5
      have HV5 : Hid (OwnE W5 w2.heap.size (.slice A4 el c4) E) := Lib.hid (ownsRow_below HV3.out HB5.out)
      have K5 : Hid (Kept w W5 (fun b => b = o.p ∨ b = o.b ∨ b = o.t.p)) := Lib.hid ((Kept.of_below HB1.out).trans (K3.out.trans (Kept.of_below HB5.out)))
      have h5s : w3.heap.size < W5.heap.size := blk_lt HN5.out
      clear HO3 K3 HV3 HB5
      go_loopw [11, 12] (fun n i wr => ∃ (j f2 : Nat), j ≤ len ∧ i = .int .i64 j ∧ n = .int .i64 ((scanH (L'.take j) key fin mark).length : Nat) ∧ Hid (OwAt wr o f2 L' []) ∧ Hid (Kept W5 wr (fun b => b = o.p ∨ b = o.b ∨ b = o.t.p))) (fun _ i _ => len - (RowKit.intOf i).toNat)
      case atStart => exact ⟨0, f3, by omega, rfl, rfl, HO5, Lib.hid (Kept.refl _ _)⟩
      case round =>
        obtain ⟨j, f2, hj, rfl, rfl, HO, HK⟩ := hrel
        have hbw : Below w.heap.size w wr := (K5.out.trans HK.out).below (Nat.le_refl _) (fun k hk => by omega)
        have HBw := Lib.hid hbw
        have n10 : wr.heap[w3.heap.size]? = some (.cells #[.int .i64 (-1), .bool true, .slice A4 el c4, .slice none 0 0, .int .i64 0] 40 (0, 0)) := HK.out.blk HN5.out h5s (by omega)
        have HN := Lib.hid n10
        have hv5 : OwnE wr w2.heap.size (.slice A4 el c4) E := ownsRow_kept HV5.out HK.out (fun b hb => by omega)
        have HV := Lib.hid hv5
        clear hbw n10 hv5
        by_cases hlt : j < len
        · obtain ⟨b, off, x, rfl, hbl, hx, x0, -, -, -, -⟩ := (Hw.out.below HBw.out).cell2 hlt
          have hLj : L'[j]? = some (x.key, x.vs) := by rw [HL.out]; exact plainR_get hx
          have htk := scanH_take (key := key) (end_ := fin) (m := mark) hLj
          have Htk := Lib.hid htk
          have HLj := Lib.hid hLj
          have hin : inS key fin x.key = (!ltB x.key key && (decide (fin.size = 0) || ltB x.key fin)) := rfl
          have e1 := less_eq x.key key
          have e2 := less_eq x.key fin
          have Hkb : Hid (keyB x.key = true) := Lib.hid (Hok.out.key _ (List.mem_of_getElem? hLj))
          have hgl : getV (hget L' x.key) mark = getV x.vs mark := by rw [hget_mem Hok.out (List.mem_of_getElem? hLj)]
          have Hgl := Lib.hid hgl
          clear htk hLj hx hgl
          generalize hgn : (scanH (L'.take j) key fin mark).length = n
          have Hgn := Lib.hid hgn
          clear hgn
          cases h1 : ltB x.key key
          · rw [h1] at hin e1
            by_cases he : fin.size = 0
            · have Hin : Hid (inS key fin x.key = true) := Lib.hid (by rw [hin]; simp [he])
              have e3 : fin.toList = [] := (toList_nil _).2 he
              clear hin e2 he h1
              as_aux_lemma =>
              go_wp2_with fail
              refine (oask_any o f2 L' [] ⟨2, -1, mark, ⟨#[]⟩, ⟨#[]⟩, false, x.key, ⟨#[]⟩, none, 0, 0, []⟩ wr HO.out RowAt.nil_ (fun _ => rfl) (by simp)).mono ?_
              intro e w6 he
              unfold OAskEnd at he
              rw [if_pos (get_may Hm.out Hkb.out), if_pos (by rw [hcap2]; simp)] at he
              obtain ⟨A6, c6, rfl, -, ho6, k6⟩ := he
              have HO6 := Lib.hid ho6
              have K6 : Hid (Kept W5 w6 (fun b => b = o.p ∨ b = o.b ∨ b = o.t.p)) := Lib.hid (HK.out.trans (k6.mono (fun b hb => by omega)))
              clear ho6 k6
              go_wp2_with fail
              refine (oserve_any o f2 L' _ [] w6 HO6.out HLl.out HLs.out).mono ?_
              rintro e w7 ⟨f7, L2, cs, rfl, hrep, ho7, k7⟩
              obtain ⟨rfl, v, rfl, hv⟩ := hrep.k2 rfl
              simp only at hv ⊢
              rw [Hgl.out] at hv ⊢
              have HO7 := Lib.hid ho7
              have K7 : Hid (Kept W5 w7 (fun b => b = o.p ∨ b = o.b ∨ b = o.t.p)) := Lib.hid (K6.out.trans k7)
              have hs6 : W5.heap.size ≤ w6.heap.size := K6.out.size
              clear hrep ho7 k7 HO6 K6
              cases hgv : (getV x.vs mark).2
              · rw [hgv] at hv
                simp only [Bool.false_eq_true, if_false] at hv
                subst hv
                have Hno : Hid ((if ((getV x.vs mark).2 && inS key fin x.key) = true then [(x.key, (getV x.vs mark).1)] else []) = []) := Lib.hid (by rw [hgv]; simp)
                clear hgv
                have HO8 := Lib.hid (HO7.out.below (bel_alloc (Below.refl _ _) (.cells #[.int .i64 (-1), .bool false, .slice none 0 0, .slice none 0 0, .int .i64 0] 40)))
                have HK8 : Hid (Kept W5 (w7.alloc (.cells #[.int .i64 (-1), .bool false, .slice none 0 0, .slice none 0 0, .int .i64 0] 40)) (fun b => b = o.p ∨ b = o.b ∨ b = o.t.p)) := Lib.hid (K7.out.trans (Kept.of_below (bel_alloc (Below.refl _ _) _)))
                go_wp2_with fail
                exact ⟨⟨j + 1, f7, by omega, by go_num, by rw [Htk.out, Hno.out, ← Hgn.out]; simp, HO8, HK8⟩, by simp [RowKit.intOf]; omega⟩
              · rw [hgv] at hv
                simp only [if_true] at hv
                have hyes : ((getV x.vs mark).2 && inS key fin x.key) = true := by rw [hgv, Hin.out]; rfl
                have hat := scanH_at HLj.out hyes
                rw [← HE.out, Hgn.out] at hat
                have Hat := Lib.hid hat
                have htk2 := Htk.out
                rw [if_pos hyes] at htk2
                have Htk2 := Lib.hid htk2
                obtain ⟨A7, c7, rfl, hrow, -, -⟩ := rowAt_own (len_en _) hv
                obtain ⟨b7, o7, x7, rfl, hb7, hx7, hc7⟩ := hrow.at_ (i := 0) (by simp)
                have hx7' : x7 = (x.key, (getV x.vs mark).1) := by simp at hx7; exact hx7.symm
                subst hx7'
                have y0 := hc7 0 _ rfl
                have y1 := hc7 1 _ rfl
                simp only [Nat.zero_mul, Nat.add_zero] at y0 y1
                have hnel : n < el := by rw [Hel.out]; exact (List.getElem?_eq_some_iff.1 hat).1
                have hv7 : OwnE w7 w2.heap.size (.slice A4 el c4) E := ownsRow_kept HV5.out K7.out (fun b hb => by omega)
                obtain ⟨b4, o4, x4, rfl, hb4, hx4, hc4⟩ := (en_at hv7).at_ hnel
                have hx4' : x4 = (x.key, (getV x.vs mark).1) := by rw [hat] at hx4; exact (Option.some.inj hx4).symm
                subst hx4'
                have u0 := hc4 0 _ rfl
                have u1 := hc4 1 _ rfl
                simp only [Nat.add_zero] at u0 u1
                have n7 : w7.heap[w3.heap.size]? = some (.cells #[.int .i64 (-1), .bool true, .slice (some ⟨b4, o4, none⟩) el c4, .slice none 0 0, .int .i64 0] 40 (0, 0)) := K7.out.blk HN5.out h5s (by omega)
                generalize (getV x.vs mark).1 = val at *
                clear hgv hyes hat htk2 hv hrow hx7 hc7 hv7 hx4 hc4
                simp only [List.length_singleton]
                have hB8 : Below w7.heap.size w7 (w7.alloc (.cells #[.int .i64 (-1), .bool true, .slice (some ⟨b7, o7, none⟩) 1 c7, .slice none 0 0, .int .i64 0] 40)) := bel_alloc (Below.refl _ _) _
                have HO8 := Lib.hid (HO7.out.below hB8)
                have HK8 : Hid (Kept W5 (w7.alloc (.cells #[.int .i64 (-1), .bool true, .slice (some ⟨b7, o7, none⟩) 1 c7, .slice none 0 0, .int .i64 0] 40)) (fun b => b = o.p ∨ b = o.b ∨ b = o.t.p)) := Lib.hid (K7.out.trans (Kept.of_below hB8))
                have n8 := blk_new w7 (.cells #[.int .i64 (-1), .bool true, .slice (some ⟨b7, o7, none⟩) 1 c7, .slice none 0 0, .int .i64 0] 40)
                have n8b := (hB8.block _ (blk_lt n7)).trans n7
                have v0 := (hB8.cell (p := ⟨b7, o7, none⟩) hb7).trans y0
                have v1 := (hB8.cell (p := ⟨b7, o7 + 1, none⟩) hb7).trans y1
                have v2 := (hB8.cell (p := ⟨b4, o4 + n * 2, none⟩) hb4).trans u0
                have v3 := (hB8.cell (p := ⟨b4, o4 + n * 2 + 1, none⟩) hb4).trans u1
                have hd1 : decide ((el : Int) ≤ (n : Int)) = false := by simp; omega
                have hd2 : decide (el ≤ n) = false := by simp; omega
                have hd3 : ¬ el ≤ n := by omega
                clear hB8 n7 y0 y1 u0 u1
                go_upto_region 23 with fail
                generalize w7.alloc (.cells #[.int .i64 (-1), .bool true, .slice (some ⟨b7, o7, none⟩) 1 c7, .slice none 0 0, .int .i64 0] 40) = w8 at HO8 HK8 n8 n8b v0 v1 v2 v3 ⊢
                have q1 : w8.cell? ⟨w7.heap.size, 1, none⟩ = some (.bool true) := blk_cell n8 1
                have q2 : w8.cell? ⟨w7.heap.size, 2, none⟩ = some (.slice (some ⟨b7, o7, none⟩) 1 c7) := blk_cell n8 2
                have q3 : w8.cell? ⟨w3.heap.size, 2, none⟩ = some (.slice (some ⟨b4, o4, none⟩) el c4) := blk_cell n8b 2
                clear n8 n8b
                go_upto_region 24 with fail
                go_quiet (fail)
                clear q1 q2 q3 v0 v1 v2 v3 hd1 hd2 hd3
                have HO9 : Hid (OwAt (w8.drewN nq) o f7 L2 []) := Lib.hid (HO8.out.below (below_drewN (Below.refl _ _) _))
                have HK9 : Hid (Kept W5 (w8.drewN nq) (fun b => b = o.p ∨ b = o.b ∨ b = o.t.p)) := Lib.hid (HK8.out.drewN nq)
                clear HO8 HK8
                go_wp2_with fail
                exact ⟨⟨j + 1, f7, by omega, by go_num, by rw [Htk2.out, List.length_append, Hgn.out]; simp, HO9, HK9⟩, by simp [RowKit.intOf]; omega⟩
            · have e4 : ¬ fin.toList = [] := fun h => he ((toList_nil _).1 h)
              have e3 : fin.toList.isEmpty = false := by
                rw [Bool.eq_false_iff]; intro h; exact he ((toList_nil _).1 (by simpa using h))
              cases h2 : ltB x.key fin
              · rw [h2] at hin e2
                have Hno : Hid ((if ((getV x.vs mark).2 && inS key fin x.key) = true then [(x.key, (getV x.vs mark).1)] else []) = []) := Lib.hid (by rw [hin]; simp [he])
                clear hin h1 h2 he
                as_aux_lemma =>
                go_wp2_with fail
                exact ⟨⟨j + 1, f2, by omega, by go_num, by rw [Htk.out, Hno.out, ← Hgn.out]; simp, HO, HK⟩, by simp [RowKit.intOf]; omega⟩
              · rw [h2] at hin e2
                have Hin : Hid (inS key fin x.key = true) := Lib.hid (by rw [hin]; simp [he])
                clear hin h1 h2 he
                as_aux_lemma =>
                go_wp2_with fail
                refine (oask_any o f2 L' [] ⟨2, -1, mark, ⟨#[]⟩, ⟨#[]⟩, false, x.key, ⟨#[]⟩, none, 0, 0, []⟩ wr HO.out RowAt.nil_ (fun _ => rfl) (by simp)).mono ?_
                intro e w6 he
                unfold OAskEnd at he
                rw [if_pos (get_may Hm.out Hkb.out), if_pos (by rw [hcap2]; simp)] at he
                obtain ⟨A6, c6, rfl, -, ho6, k6⟩ := he
                have HO6 := Lib.hid ho6
                have K6 : Hid (Kept W5 w6 (fun b => b = o.p ∨ b = o.b ∨ b = o.t.p)) := Lib.hid (HK.out.trans (k6.mono (fun b hb => by omega)))
                clear ho6 k6
                go_wp2_with fail
                refine (oserve_any o f2 L' _ [] w6 HO6.out HLl.out HLs.out).mono ?_
                rintro e w7 ⟨f7, L2, cs, rfl, hrep, ho7, k7⟩
                obtain ⟨rfl, v, rfl, hv⟩ := hrep.k2 rfl
                simp only at hv ⊢
                rw [Hgl.out] at hv ⊢
                have HO7 := Lib.hid ho7
                have K7 : Hid (Kept W5 w7 (fun b => b = o.p ∨ b = o.b ∨ b = o.t.p)) := Lib.hid (K6.out.trans k7)
                have hs6 : W5.heap.size ≤ w6.heap.size := K6.out.size
                clear hrep ho7 k7 HO6 K6
                cases hgv : (getV x.vs mark).2
                · rw [hgv] at hv
                  simp only [Bool.false_eq_true, if_false] at hv
                  subst hv
                  have Hno : Hid ((if ((getV x.vs mark).2 && inS key fin x.key) = true then [(x.key, (getV x.vs mark).1)] else []) = []) := Lib.hid (by rw [hgv]; simp)
                  clear hgv
                  have HO8 := Lib.hid (HO7.out.below (bel_alloc (Below.refl _ _) (.cells #[.int .i64 (-1), .bool false, .slice none 0 0, .slice none 0 0, .int .i64 0] 40)))
                  have HK8 : Hid (Kept W5 (w7.alloc (.cells #[.int .i64 (-1), .bool false, .slice none 0 0, .slice none 0 0, .int .i64 0] 40)) (fun b => b = o.p ∨ b = o.b ∨ b = o.t.p)) := Lib.hid (K7.out.trans (Kept.of_below (bel_alloc (Below.refl _ _) _)))
                  go_wp2_with fail
                  exact ⟨⟨j + 1, f7, by omega, by go_num, by rw [Htk.out, Hno.out, ← Hgn.out]; simp, HO8, HK8⟩, by simp [RowKit.intOf]; omega⟩
                · rw [hgv] at hv
                  simp only [if_true] at hv
                  have hyes : ((getV x.vs mark).2 && inS key fin x.key) = true := by rw [hgv, Hin.out]; rfl
                  have hat := scanH_at HLj.out hyes
                  rw [← HE.out, Hgn.out] at hat
                  have Hat := Lib.hid hat
                  have htk2 := Htk.out
                  rw [if_pos hyes] at htk2
                  have Htk2 := Lib.hid htk2
                  obtain ⟨A7, c7, rfl, hrow, -, -⟩ := rowAt_own (len_en _) hv
                  obtain ⟨b7, o7, x7, rfl, hb7, hx7, hc7⟩ := hrow.at_ (i := 0) (by simp)
                  have hx7' : x7 = (x.key, (getV x.vs mark).1) := by simp at hx7; exact hx7.symm
                  subst hx7'
                  have y0 := hc7 0 _ rfl
                  have y1 := hc7 1 _ rfl
                  simp only [Nat.zero_mul, Nat.add_zero] at y0 y1
                  have hnel : n < el := by rw [Hel.out]; exact (List.getElem?_eq_some_iff.1 hat).1
                  have hv7 : OwnE w7 w2.heap.size (.slice A4 el c4) E := ownsRow_kept HV5.out K7.out (fun b hb => by omega)
                  obtain ⟨b4, o4, x4, rfl, hb4, hx4, hc4⟩ := (en_at hv7).at_ hnel
                  have hx4' : x4 = (x.key, (getV x.vs mark).1) := by rw [hat] at hx4; exact (Option.some.inj hx4).symm
                  subst hx4'
                  have u0 := hc4 0 _ rfl
                  have u1 := hc4 1 _ rfl
                  simp only [Nat.add_zero] at u0 u1
                  have n7 : w7.heap[w3.heap.size]? = some (.cells #[.int .i64 (-1), .bool true, .slice (some ⟨b4, o4, none⟩) el c4, .slice none 0 0, .int .i64 0] 40 (0, 0)) := K7.out.blk HN5.out h5s (by omega)
                  generalize (getV x.vs mark).1 = val at *
                  clear hgv hyes hat htk2 hv hrow hx7 hc7 hv7 hx4 hc4
                  simp only [List.length_singleton]
                  have hB8 : Below w7.heap.size w7 (w7.alloc (.cells #[.int .i64 (-1), .bool true, .slice (some ⟨b7, o7, none⟩) 1 c7, .slice none 0 0, .int .i64 0] 40)) := bel_alloc (Below.refl _ _) _
                  have HO8 := Lib.hid (HO7.out.below hB8)
                  have HK8 : Hid (Kept W5 (w7.alloc (.cells #[.int .i64 (-1), .bool true, .slice (some ⟨b7, o7, none⟩) 1 c7, .slice none 0 0, .int .i64 0] 40)) (fun b => b = o.p ∨ b = o.b ∨ b = o.t.p)) := Lib.hid (K7.out.trans (Kept.of_below hB8))
                  have n8 := blk_new w7 (.cells #[.int .i64 (-1), .bool true, .slice (some ⟨b7, o7, none⟩) 1 c7, .slice none 0 0, .int .i64 0] 40)
                  have n8b := (hB8.block _ (blk_lt n7)).trans n7
                  have v0 := (hB8.cell (p := ⟨b7, o7, none⟩) hb7).trans y0
                  have v1 := (hB8.cell (p := ⟨b7, o7 + 1, none⟩) hb7).trans y1
                  have v2 := (hB8.cell (p := ⟨b4, o4 + n * 2, none⟩) hb4).trans u0
                  have v3 := (hB8.cell (p := ⟨b4, o4 + n * 2 + 1, none⟩) hb4).trans u1
                  have hd1 : decide ((el : Int) ≤ (n : Int)) = false := by simp; omega
                  have hd2 : decide (el ≤ n) = false := by simp; omega
                  have hd3 : ¬ el ≤ n := by omega
                  clear hB8 n7 y0 y1 u0 u1
                  go_upto_region 23 with fail
                  generalize w7.alloc (.cells #[.int .i64 (-1), .bool true, .slice (some ⟨b7, o7, none⟩) 1 c7, .slice none 0 0, .int .i64 0] 40) = w8 at HO8 HK8 n8 n8b v0 v1 v2 v3 ⊢
                  have q1 : w8.cell? ⟨w7.heap.size, 1, none⟩ = some (.bool true) := blk_cell n8 1
                  have q2 : w8.cell? ⟨w7.heap.size, 2, none⟩ = some (.slice (some ⟨b7, o7, none⟩) 1 c7) := blk_cell n8 2
                  have q3 : w8.cell? ⟨w3.heap.size, 2, none⟩ = some (.slice (some ⟨b4, o4, none⟩) el c4) := blk_cell n8b 2
                  clear n8 n8b
                  go_upto_region 24 with fail
                  go_quiet (fail)
                  clear q1 q2 q3 v0 v1 v2 v3 hd1 hd2 hd3
                  have HO9 : Hid (OwAt (w8.drewN nq) o f7 L2 []) := Lib.hid (HO8.out.below (below_drewN (Below.refl _ _) _))
                  have HK9 : Hid (Kept W5 (w8.drewN nq) (fun b => b = o.p ∨ b = o.b ∨ b = o.t.p)) := Lib.hid (HK8.out.drewN nq)
                  clear HO8 HK8
                  go_wp2_with fail
                  exact ⟨⟨j + 1, f7, by omega, by go_num, by rw [Htk2.out, List.length_append, Hgn.out]; simp, HO9, HK9⟩, by simp [RowKit.intOf]; omega⟩
          · rw [h1] at hin e1
            have Hno : Hid ((if ((getV x.vs mark).2 && inS key fin x.key) = true then [(x.key, (getV x.vs mark).1)] else []) = []) := Lib.hid (by rw [hin]; simp)
            clear hin e2 h1
            as_aux_lemma =>
            go_wp2_with fail
            exact ⟨⟨j + 1, f2, by omega, by go_num, by rw [Htk.out, Hno.out, ← Hgn.out]; simp, HO, HK⟩, by simp [RowKit.intOf]; omega⟩
        · obtain rfl : j = len := by omega
          have hnn : (scanH (L'.take j) key fin mark).length = el := by
            rw [List.take_of_length_le (by rw [HL.out, Hlen.out]; exact Nat.le_refl _), Hel.out, HE.out]
          rw [hnn]
          have y2 : wr.cell? ⟨w3.heap.size, 2, none⟩ = some (.slice A4 el c4) := blk_cell HN.out 2
          go_wp2_with fail
          refine (lives15_any wr).mono ?_
          rintro e w9 ⟨rfl, hb9⟩
          have HB9 := Lib.hid (HBw.out.trans (hb9.mono HBw.out.size))
          clear hb9 y2
          go_wp2_with fail
          go_ret
          exact ⟨rfl, HB9.out⟩
end Go.Proofs.Ytieiehloapnjgaa

/- Lemmas and contracts of functions that a statement of this seat stands on; each holds under the premises typed in its head. -/
import Derived.Test.YtfokcdgahiljdaaLog4
namespace Go.Proofs.Ytfokcdgahiljdaa
open Go.RowKit
set_option linter.unusedVariables false
set_option linter.unusedSimpArgs false

theorem logErr_congr : ∀ {rs rs' : List RTx} {m : Int}, rs.map (fun r => (r.number, r.ws)) = rs'.map (fun r => (r.number, r.ws)) → logErr rs m = logErr rs' m
  | [], [], _, _ => rfl
  | [], _ :: _, _, h => by simp at h
  | _ :: _, [], _, h => by simp at h
  | r :: rs, r' :: rs', m, h => by
    simp only [List.map_cons, List.cons.injEq, Prod.mk.injEq] at h
    simp only [logErr, h.1.1, h.1.2, logErr_congr h.2]
theorem logSum_congr {l : List Int} : ∀ {rs rs' : List RTx}, rs.map (fun r => (r.number, r.ws)) = rs'.map (fun r => (r.number, r.ws)) → logSum l rs = logSum l rs'
  | [], [], _ => rfl
  | [], _ :: _, h => by simp at h
  | _ :: _, [], h => by simp at h
  | r :: rs, r' :: rs', h => by
    simp only [List.map_cons, List.cons.injEq, Prod.mk.injEq] at h
    simp only [logSum, h.1.1, h.1.2, logSum_congr h.2]
theorem logCount_congr {rs rs' : List RTx} {m : Int} {l : List Int} (h : rs.map (fun r => (r.number, r.ws)) = rs'.map (fun r => (r.number, r.ws))) : logCount rs m l = logCount rs' m l := by
  have hl : rs.length = rs'.length := by simpa using congrArg List.length h
  unfold logCount
  rw [logErr_congr h, hl, logSum_congr (l := l) (rs := rs.drop m.toNat) (rs' := rs'.drop m.toNat) (by rw [List.map_drop, List.map_drop, h])]
theorem tw_same {w : World} {g : Nat} {rs rs' : List RTx} (h : TwAll w g rs rs') (hl : rs'.length = rs.length) : rs'.map (fun r => (r.number, r.ws)) = rs.map (fun r => (r.number, r.ws)) := by
  apply List.ext_getElem?
  intro i
  simp only [List.getElem?_map]
  rcases Nat.lt_or_ge i rs.length with hi | hi
  · have h1 : rs[i]? = some rs[i] := List.getElem?_eq_getElem hi
    have h2 : rs'[i]? = some (rs'[i]'(by omega)) := List.getElem?_eq_getElem _
    obtain ⟨e1, e2, -⟩ := h i _ _ h1 h2
    rw [h1, h2]; simp [e1, e2]
  · rw [List.getElem?_eq_none hi, List.getElem?_eq_none (by omega)]
theorem RowAt.prefix_ {α : Type} {cells : α → List Value} {size : Nat} {w : World} {B n : Nat} {A : Option Addr} {xs : List α} {sp : α} (h : RowAt cells size w B A (n + 1) (xs ++ [sp])) : RowAt cells size w B A n xs := by
  have hl : xs.length = n := by have := h.1; simp at this; exact this
  refine ⟨hl, fun hn => ?_⟩
  obtain ⟨b, off, e, hb, hc⟩ := h.2 (by omega)
  exact ⟨b, off, e, hb, fun i x hx j u hu => hc i x (by rw [List.getElem?_append_left (List.getElem?_eq_some_iff.1 hx).1]; exact hx) j u hu⟩
/-- A twin reads as transactions that came in do. -/
theorem txs_of_twin {w : World} {g : Nat} {rs rs' : List RTx} {n : Nat} (hl' : rs'.length = n) (hl : rs.length = n) (hg : w.heap[g]? = some (.cells ((rs' ++ [spT]).flatMap RTx.cells).toArray 24 (0, 0))) (htw : TwAll w g rs rs') (hrl : ∀ r ∈ rs, r.len * 40 ≤ 140737488351232) :
    TxsAt w w.heap.size (some ⟨g, 0, none⟩) n rs' := by
  have hrow := row_of_blk (len_tx _) hg (blk_lt hg)
  rw [hl'] at hrow
  refine ⟨hrow.prefix_, fun r' hr' => ?_⟩
  obtain ⟨i, hi⟩ := List.getElem?_of_mem hr'
  have hil : i < rs.length := by have := (List.getElem?_eq_some_iff.1 hi).1; omega
  obtain ⟨e1, e2, e3, b, h4, h5, h6, h7, h8, h9⟩ := htw i _ r' (List.getElem?_eq_getElem hil) hi
  have hb := row_of_blk (len_wr _) h8 h5
  rw [h9] at hb
  rw [h6]
  exact ⟨hb.prefix_, by rw [e3]; exact hrl _ (List.getElem_mem hil)⟩

set_option maxHeartbeats 2000000 in
theorem lawlogs_any (A : Option Addr) (len cap : Nat) (rs : List RTx) (mark : Int) (A2 : Option Addr) (len2 cap2 : Nat) (l : List Int) (w : World) (hw : TxsAt w w.heap.size A len rs) (hi : IsAt w w.heap.size A2 len2 l) (hl : len * 32 ≤ 140737488351232) (hlc : len ≤ cap) (hl2 : len2 * 8 ≤ 140737488351232) :
    Calls Try.prog 6 #[.slice A len cap, .int .i64 mark, .slice A2 len2 cap2] w fun e w' => e = .returned (.bool true) ∧ Below w.heap.size w w' := by
  have hlen := Lib.hid hw.1.len
  have hlen2 := Lib.hid hi.len
  go_enter Try.func6, Try.ntmps6
  go_wp2_with fail
  refine (twins_any A len cap rs _ hw hl).mono ?_
  rintro e w1 ⟨rs', hl', rfl, hblk, htw, hb1⟩
  have hs1 := hb1.size
  have htx1 := txs_of_twin hl' hlen.out hblk htw (fun r hr => (hw.2 r hr).2)
  have hsame := tw_same htw (by rw [hl', hlen.out])
  have hcnt : ∀ q, logCount rs' q l = logCount rs q l := fun q => logCount_congr hsame
  have hlt1 : w.heap.size < w1.heap.size := blk_lt hblk
  have Hblk := Lib.hid hblk
  have Htw := Lib.hid htw
  have Hl' := Lib.hid hl'
  have Hcnt := Lib.hid hcnt
  have Hb1 := Lib.hid hb1
  have hi1 := (hi.below hb1).more hs1
  clear hblk htw hl' hcnt hsame hb1
  go_wp2_with fail
  refine (twinI_any A2 len2 cap2 l _ hi1 hl2).mono ?_
  rintro e w2 ⟨rfl, hblk2, hb2⟩
  have hs2 := hb2.size
  have hlt2 : w1.heap.size < w2.heap.size := blk_lt hblk2
  have hrowI := row_of_blk (len_int _) hblk2 hlt2
  rw [hlen2.out] at hrowI
  have hi2 : IsAt w2 w2.heap.size (some ⟨w1.heap.size, 0, none⟩) len2 l := hrowI.prefix_
  have htx2 := (htx1.below hb2).more hs2
  have Hblk2 := Lib.hid hblk2
  have Hb2 := Lib.hid hb2
  have hc1 : ∀ W : World, TxsAt W W.heap.size (some ⟨w.heap.size, 0, none⟩) len rs' → IsAt W W.heap.size (some ⟨w1.heap.size, 0, none⟩) len2 l → Calls Try.prog 17 #[.slice (some ⟨w.heap.size, 0, none⟩) len (len + 1), .int .i64 mark, .slice (some ⟨w1.heap.size, 0, none⟩) len2 (len2 + 1)] W fun e w' => e = .returned (pairV (logCount rs mark l)) ∧ Below W.heap.size W w' := fun W h1 h2 => by
    rw [← Hcnt.out mark]; exact log_any _ len (len + 1) rs' mark _ len2 (len2 + 1) l W h1 h2 (by omega) (by omega) (by omega)
  have hc2 : ∀ W : World, TxsAt W W.heap.size A len rs → IsAt W W.heap.size A2 len2 l → Calls Try.prog 18 #[.slice A len cap, .int .i64 mark, .slice A2 len2 cap2] W fun e w' => e = .returned (pairV (logCount rs mark l)) ∧ Below W.heap.size W w' := fun W h1 h2 =>
    reflog2_any A len cap rs mark A2 len2 cap2 l W h1 h2 (by omega) hlc (by omega)
  generalize logCount rs mark l = pr at hc1 hc2
  obtain ⟨pa, pb⟩ := pr
  unfold pairV at hc1 hc2
  have H1 := Lib.hid hc1
  have H2 := Lib.hid hc2
  clear hc1 hc2 hblk2 hb2 hrowI
  go_wp2_with fail
  refine (H1.out _ htx2 hi2).mono ?_
  rintro e w3 ⟨rfl, hb3⟩
  have hs3 := hb3.size
  have Hb3 := Lib.hid (((Hb1.out).trans (Hb2.out.mono hs1)).trans (hb3.mono (by omega)))
  have hw3 := (hw.below Hb3.out).more Hb3.out.size
  have hi3 := (hi.below Hb3.out).more Hb3.out.size
  have Hbb := Lib.hid hb3
  clear hb3
  go_wp2_with fail
  refine (H2.out _ hw3 hi3).mono ?_
  rintro e w4 ⟨rfl, hb4⟩
  have hs4 := hb4.size
  have hb24 : Below w2.heap.size w2 w4 := Hbb.out.trans (hb4.mono hs3)
  have hb14 : Below w1.heap.size w1 w4 := Hb2.out.trans (hb24.mono hs2)
  have hb04 : Below w.heap.size w w4 := Hb1.out.trans (hb14.mono hs1)
  have hw4 := (hw.below hb04).more hb04.size
  have hi4 := (hi.below hb04).more hb04.size
  have hblk4 := (hb14.block w.heap.size hlt1).trans Hblk.out
  have htw4 := Htw.out.keep hb14.size (fun b _ hb => hb14.block b hb)
  have hblkI4 := (hb24.block w1.heap.size hlt2).trans Hblk2.out
  have Hblk4 := Lib.hid hblk4
  have Htw4 := Lib.hid htw4
  have HblkI4 := Lib.hid hblkI4
  have Hb04 := Lib.hid hb04
  clear hb4 hb24 hb14 hb04 hblk4 htw4 hblkI4
  go_wp2_with fail
  refine (lefts_any w.heap.size A len cap rs rs' _ Hl'.out Hblk4.out Htw4.out hw4 hl).mono ?_
  rintro e w5 ⟨rfl, hb5⟩
  have hs5 := hb5.size
  have hi5 := (hi4.below hb5).more hs5
  have HblkI5 := Lib.hid ((hb5.block w1.heap.size (by omega)).trans HblkI4.out)
  have Hb05 := Lib.hid (Hb04.out.trans (hb5.mono (by omega)))
  clear hb5
  go_wp2_with fail
  refine (leftI_any w1.heap.size A2 len2 cap2 l _ HblkI5.out hi5 hl2).mono ?_
  rintro e w6 ⟨rfl, hb6⟩
  have hs6 := hb6.size
  have Hb06 := Lib.hid (Hb05.out.trans (hb6.mono (by omega)))
  clear hb6
  go_wp2_with fail
  refine (lives_any _).mono ?_
  rintro e w7 ⟨rfl, hb7⟩
  go_wp2_with fail
  go_ret
  exact ⟨rfl, Hb06.out.trans (hb7.mono (by omega))⟩

theorem int_rem {a b : Nat} (h : 0 < b) : ((a : Int) % (b : Int)) = ((a % b : Nat) : Int) := by simp
theorem logCount_nil {rs : List RTx} {k : Nat} (h : logErr rs 1 = 0) (hk : k ≤ rs.length) : logCount rs k [] = (logSum [] (rs.drop k), 0) := by
  unfold logCount
  rw [if_pos ⟨h, by simp [placeB, risesB]; omega⟩]; simp
theorem logCount_bad {rs : List RTx} {m : Int} {l : List Int} (h : logErr rs 1 ≠ 0) : logCount rs m l = (0, 1) := by
  unfold logCount; rw [if_neg (fun x => h x.1)]
theorem logSum_bd {l : List Int} : ∀ {rs : List RTx}, (∀ r ∈ rs, r.ws.length ≤ 32) → 0 ≤ logSum l rs ∧ logSum l rs ≤ 69 * (rs.length : Int)
  | [], _ => by simp [logSum]
  | r :: rs, h => by
    have h1 := logSum_bd (l := l) (rs := rs) (fun x hx => h x (by simp [hx]))
    have h2 := txnN_bd (sk := l.contains r.number) (h r (by simp))
    simp only [logSum, List.length_cons]; omega

set_option maxHeartbeats 2000000 in
theorem lawadds_any (A : Option Addr) (len cap : Nat) (rs : List RTx) (mark : Int) (w : World) (hw : TxsAt w w.heap.size A len rs) (hl : len * 32 ≤ 140737488351232) (hlc : len ≤ cap) (hm0 : 0 ≤ mark) (hm1 : mark ≤ 65535) :
    Calls Try.prog 7 #[.slice A len cap, .int .u16 mark] w fun e w' => e = .returned (.bool true) ∧ Below w.heap.size w w' := by
  have hlen := Lib.hid hw.1.len
  have hnil : IsAt w w.heap.size none 0 [] := RowAt.nil_
  by_cases he : logErr rs 1 = 0
  case neg =>
    have hc := logCount_bad (m := 0) (l := []) he
    have Hc := Lib.hid hc
    clear hc he
    go_enter Try.func7, Try.ntmps7
    go_wp2_with fail
    refine (log_any A len cap rs 0 none 0 0 [] _ hw hnil (by omega) hlc (by omega)).mono ?_
    rintro e w1 ⟨rfl, hb1⟩
    rw [Hc.out, show pairV (0, 1) = .tuple #[.int .i64 0, .int .i64 1] from rfl]
    go_wp2_with fail
    refine (lives_any _).mono ?_
    rintro e w2 ⟨rfl, hb2⟩
    go_wp2_with fail
    go_ret
    exact ⟨rfl, hb1.trans (hb2.mono hb1.size)⟩
  case pos =>
    obtain ⟨mk, rfl⟩ := Int.eq_ofNat_of_zero_le hm0
    have hl6 : len ≤ 65536 := by have := logErr_le he; have := hlen.out; omega
    have hall : ∀ r ∈ rs, txB r.number r.ws = true := fun r hr => by obtain ⟨i, hi⟩ := List.getElem?_of_mem hr; exact (logErr_ok he hi).1
    have hbd : ∀ k, 0 ≤ logSum [] (rs.drop k) ∧ logSum [] (rs.drop k) ≤ 69 * (rs.length : Int) := fun k => by
      have := logSum_bd (l := []) (rs := rs.drop k) (fun r hr => txB_len (hall r (List.mem_of_mem_drop hr)))
      simp at this; omega
    have hk : mk % (len + 1) ≤ len := by have := Nat.mod_lt mk (show 0 < len + 1 by omega); omega
    have c0 := logCount_nil (k := 0) he (by omega)
    have c1 := logCount_nil (k := mk % (len + 1)) he (by have := hlen.out; omega)
    have hmod : ((mk : Int) % ((len : Int) + 1)) = ((mk % (len + 1) : Nat) : Int) := by
      exact int_rem (a := mk) (b := len + 1) (by omega)
    have C0 := Lib.hid c0
    have C1 := Lib.hid c1
    have Hall := Lib.hid hall
    have b0 := hbd 0
    have b1 := hbd (mk % (len + 1))
    rw [hlen.out] at b0 b1
    have Hmod := Lib.hid hmod
    generalize hkk : mk % (len + 1) = k at *
    clear hmod hkk hall hbd c0 c1
    generalize hs0 : logSum [] (rs.drop 0) = s0 at *
    generalize hs1 : logSum [] (rs.drop k) = s1 at *
    have Hs0 := Lib.hid hs0
    have Hs1 := Lib.hid hs1
    obtain ⟨b00, b01⟩ := b0
    obtain ⟨b10, b11⟩ := b1
    clear hs0 hs1 he
    go_enter Try.func7, Try.ntmps7
    go_wp2_with fail
    refine (log_any A len cap rs 0 none 0 0 [] _ hw hnil (by omega) hlc (by omega)).mono ?_
    rintro e w1 ⟨rfl, hb1⟩
    rw [show logCount rs 0 [] = (s0, 0) from C0.out, show pairV (s0, 0) = .tuple #[.int .i64 s0, .int .i64 0] from rfl]
    have hw1 := (hw.below hb1).more hb1.size
    have hnil1 : IsAt w1 w1.heap.size none 0 [] := RowAt.nil_
    have Hb1 := Lib.hid hb1
    have hsz1 := hb1.size
    clear hb1
    go_wp2_with fail
    rw [Hmod.out]
    refine (log_any A len cap rs k none 0 0 [] _ hw1 hnil1 (by omega) hlc (by omega)).mono ?_
    rintro e w2 ⟨rfl, hb2⟩
    rw [show logCount rs (k : Int) [] = (s1, 0) from C1.out, show pairV (s1, 0) = .tuple #[.int .i64 s1, .int .i64 0] from rfl]
    have hw2 := (hw1.below hb2).more (Nat.le_refl _)
    have Hb2 := Lib.hid (Hb1.out.trans (hb2.mono hsz1))
    clear hb2
    go_wp2_with fail
    go_loopw [9, 10] (fun n i wr => ∃ (j : Nat) (q : Int), j ≤ k ∧ i = .int .i64 j ∧ n = .int .i64 q ∧ 0 ≤ q ∧ q ≤ 69 * (j : Int) ∧ q + logSum [] (rs.drop j) = logSum [] (rs.drop 0) ∧ Below w.heap.size w wr) (fun _ i _ => k - (intOf i).toNat)
    case atStart => exact ⟨0, 0, by omega, rfl, rfl, by omega, by omega, by simp, Hb2.out⟩
    case round =>
      obtain ⟨j, q, hj, rfl, rfl, hq0, hq1, hsum, hb⟩ := hrel
      have hr := (hw.below hb)
      have hs := hb.size
      have Hb := Lib.hid hb
      have Hsum := Lib.hid hsum
      clear hb hsum
      by_cases hlt : j < k
      · obtain ⟨b, off, r, rfl, hbl, hx, x0, x1, hws, hrl⟩ := hr.cell2 (show j < len by omega)
        have htx := Hall.out r (List.mem_of_getElem? hx)
        have hbd := txnN_bd (sk := false) (txB_len htx)
        have hb0 := hbd.1
        have hb1 := hbd.2
        have Htx := Lib.hid htx
        have Hx := Lib.hid hx
        have hws2 := hws.more hs
        clear htx hbd hx
        go_wp2_with fail
        refine (txn_good r.number r.A r.len r.cap r.ws false _ hws2 (by omega) Htx.out).mono ?_
        rintro e w3 ⟨rfl, hb3⟩
        go_wp2_with fail
        refine ⟨⟨j + 1, q + txnN r.ws false, by omega, by go_num, rfl, by omega, by omega, ?_, Hb.out.trans (hb3.mono hs)⟩, by simp [intOf]; omega⟩
        rw [← Hsum.out, drop_get Hx.out]
        simp only [logSum, List.contains_nil]; omega
      · have hjk : j = k := by omega
        subst hjk
        have hqs : q + s1 = s0 := by rw [← Hs0.out, ← Hsum.out, Hs1.out]
        have hdec : (q + s1 == s0) = true := by simpa using hqs
        clear hqs
        go_wp2_with fail
        refine (lives_any _).mono ?_
        rintro e w4 ⟨rfl, hb4⟩
        go_wp2_with fail
        go_ret
        exact ⟨rfl, Hb.out.trans (hb4.mono hs)⟩
end Go.Proofs.Ytfokcdgahiljdaa

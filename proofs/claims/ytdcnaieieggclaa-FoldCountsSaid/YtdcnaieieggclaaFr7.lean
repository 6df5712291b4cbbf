/- The reference's Store, Scan, Get and Writer. -/
import Derived.Test.YtdcnaieieggclaaFr6
namespace Go.Proofs.Ytdcnaieieggclaa
open Go.RowKit
set_option linter.unusedVariables false
set_option linter.unusedSimpArgs false

open Go.Maps
theorem rstore_any (A : Option Addr) (len cap : Nat) (rs : List RTx) (i : Int) (w : World) (hw : TxsAt w w.heap.size A len rs) (hl : len ≤ 4398046511104) :
    Calls Try.prog 56 #[.slice A len cap, .int .i64 i] w (ScanPost w rs i ⟨#[]⟩ ⟨#[]⟩) := by
  have hlen := hw.1.len
  have hall : ∀ n, (foldE rs n).filter (fun e => inB ⟨#[]⟩ ⟨#[]⟩ e.key) = foldE rs n := fun n => cut_all rfl rfl
  unfold ScanPost scanL
  by_cases he : logErr rs 1 = 0
  · by_cases ha : i < 0 ∨ (len : Int) < i
    · have h1 : scanErr rs i = 1 := by unfold scanErr; rw [if_neg (by simpa using he), if_neg (by simp only [argB, Bool.and_eq_true, decide_eq_true_eq]; omega)]
      rw [h1, if_neg (by decide)]
      have He := Lib.hid he
      clear he h1 hall
      by_cases h1 : i < 0 <;> by_cases h3 : (len : Int) < i
      all_goals first
        | (exfalso; omega)
        | (go_enter Try.func56, Try.ntmps56
           go_wp2_with fail
           refine (ref07check_any A len cap rs _ hw hl).mono ?_
           rintro e w1 ⟨rfl, hb1⟩
           rw [He.out]
           have Hb1 := Lib.hid hb1
           clear hb1
           go_wp2_with fail
           go_ret2
           exact ⟨_, rfl, EntsOwn.nil _ _, Hb1.out⟩)
    · have h1 : scanErr rs i = 0 := by unfold scanErr; rw [if_neg (by simpa using he), if_pos (by simp only [argB, Bool.and_eq_true, decide_eq_true_eq]; omega)]
      rw [h1, if_pos rfl, hall]
      obtain ⟨n, rfl⟩ : ∃ n : Nat, i = n := ⟨i.toNat, by omega⟩
      rw [show ((n : Int)).toNat = n from by omega]
      have He := Lib.hid he
      have hd : decide (len < n) = false := by rw [decide_eq_false_iff_not]; omega
      clear he h1 hall
      go_enter Try.func56, Try.ntmps56
      go_wp2_with fail
      refine (ref07check_any A len cap rs _ hw hl).mono ?_
      rintro e w1 ⟨rfl, hb1⟩
      rw [He.out]
      have hw1 := (hw.below hb1).more hb1.size
      have Hb1 := Lib.hid hb1
      clear hb1
      go_wp2_with fail
      refine (rfold_any A len cap rs n _ hw1 hl He.out (by omega)).mono ?_
      rintro e w2 ⟨v, rfl, hv, hb2⟩
      have Hv := Lib.hid (hv.more Hb1.out.size)
      have Hb2 := Lib.hid (Hb1.out.trans (hb2.mono Hb1.out.size))
      clear hv hb2
      go_wp2_with fail
      go_ret2
      exact ⟨_, rfl, Hv.out, Hb2.out⟩
  · have h1 : scanErr rs i = logErr rs 1 := by unfold scanErr; rw [if_pos he]
    rw [h1, if_neg he]
    have hne : (logErr rs 1 != 0) = true := by simpa using he
    clear h1 hall he
    go_enter Try.func56, Try.ntmps56
    go_wp2_with fail
    refine (ref07check_any A len cap rs _ hw hl).mono ?_
    rintro e w1 ⟨rfl, hb1⟩
    have Hb1 := Lib.hid hb1
    clear hb1
    go_wp2_with fail
    go_ret2
    exact ⟨_, rfl, EntsOwn.nil _ _, Hb1.out⟩
theorem rin_any (k key fin : ByteArray) (w : World) : Calls Try.prog 76 #[.string k, .string key, .string fin] w fun e w' => e = .returned (.bool (inB key fin k)) ∧ w = w' := by
  have hfin : ∀ (b : Bool) (w' : World), b = inB key fin k → w = w' → (Ending.returned (.bool b) = .returned (.bool (inB key fin k)) ∧ w = w') := fun b w' h h' => ⟨by rw [h], h'⟩
  have Hf := Lib.hid hfin
  clear hfin
  cases h1 : ltB k key
  · by_cases h2 : fin.size = 0
    · have h4 : Op.bytesLess k.toList key.toList = false := by rw [less_eq, h1]
      have Hin := Lib.hid (show true = inB key fin k by simp [inB, h1, h2])
      have H1 := Lib.hid h1
      clear h1
      go_enter Try.func76, Try.ntmps76
      go_wp2_with fail
      go_ret
      exact Hf.out _ _ Hin.out rfl
    · have h4 : Op.bytesLess k.toList key.toList = false := by rw [less_eq, h1]
      have Hin := Lib.hid (show ltB k fin = inB key fin k by simp [inB, h1, h2])
      have hls := less_eq k fin
      have Hls := Lib.hid hls
      have H1 := Lib.hid h1
      have h5 : ((fin.size : Int) == 0) = false := by rw [beq_eq_false_iff_ne]; omega
      clear h1 hls
      go_enter Try.func76, Try.ntmps76
      go_wp2_with fail
      go_ret
      exact Hf.out _ _ (by rw [Hls.out]; exact Hin.out) rfl
  · have h4 : Op.bytesLess k.toList key.toList = true := by rw [less_eq, h1]
    have Hin := Lib.hid (show false = inB key fin k by simp [inB, h1])
    have H1 := Lib.hid h1
    clear h1
    go_enter Try.func76, Try.ntmps76
    go_wp2_with fail
    go_ret
    exact Hf.out _ _ Hin.out rfl
set_option maxHeartbeats 1000000 in
set_option maxRecDepth 8000 in
theorem rstretch_any (A : Option Addr) (len cap : Nat) (st : List Ent) (key fin : ByteArray) (w : World) (hw : EntsAt w w.heap.size A len st) (hl : len ≤ 2199023255552) :
    Calls Try.prog 57 #[.slice A len cap, .string key, .string fin] w (WritePost w (st.filter fun e => inB key fin e.key)) := by
  have hlen := Lib.hid hw.len
  obtain ⟨i0, hi, hz0, hz1, hz2⟩ := info_parts info_ent
  go_enter Try.func57, Try.ntmps57
  go_wp2_with fail
  go_loopw [7, 8] (fun v n wr => ∃ j : Nat, j ≤ len ∧ n = .int .i64 j ∧ EntsOwn wr w.heap.size v ((st.take j).filter fun e => inB key fin e.key) ∧ Below w.heap.size w wr) (fun _ n _ => len - (RowKit.intOf n).toNat)
  case atStart => exact ⟨0, by omega, rfl, EntsOwn.nil _ _, Below.refl _ _⟩
  case round =>
    obtain ⟨j, hj, rfl, how, hb⟩ := hrel
    have hr := hw.below hb
    have hsr := hb.size
    have Hb := Lib.hid hb
    have How := Lib.hid how
    clear hb how
    by_cases hlt : j < len
    · obtain ⟨bk, offk, x, rfl, hblk, hx, x0, x1⟩ := ent_cell2 hr hlt
      have hsn : (st.take (j + 1)).filter (fun e => inB key fin e.key) = (st.take j).filter (fun e => inB key fin e.key) ++ if inB key fin x.key = true then [x] else [] := by
        rw [List.take_add_one, hx, List.filter_append]
        congr 1
        simp only [Option.toList_some, List.filter_cons, List.filter_nil]
      have Hsn := Lib.hid hsn
      clear hx hr hsn
      cases hin : inB key fin x.key
      · have Hin := Lib.hid hin
        clear hin
        have hc : ∀ W, Calls Try.prog 76 #[.string x.key, .string key, .string fin] W fun e w' => e = .returned (.bool false) ∧ W = w' := fun W => by have := rin_any x.key key fin W; rwa [Hin.out] at this
        go_wp2_with (go_at_call 76; refine (hc _).mono ?_; rintro e w' ⟨rfl, rfl⟩)
        exact ⟨⟨j + 1, by omega, by go_num, by rw [Hsn.out, if_neg (by rw [Hin.out]; simp), List.append_nil]; exact How.out, Hb.out⟩, by simp [RowKit.intOf]; omega⟩
      · have Hin := Lib.hid hin
        clear hin
        have hc : ∀ W, Calls Try.prog 76 #[.string x.key, .string key, .string fin] W fun e w' => e = .returned (.bool true) ∧ W = w' := fun W => by have := rin_any x.key key fin W; rwa [Hin.out] at this
        have How2 : wr.ownsRow w.heap.size 57 2 _ ((st.take j).filter fun e => inB key fin e.key).length _ := How.out
        have hple : ((st.take j).filter fun e => inB key fin e.key).length ≤ j := Nat.le_trans (List.length_filter_le _ _) (List.length_take_le _ _)
        go_wp2_with (first | (go_at_call 76; refine (hc _).mono ?_; rintro e w' ⟨rfl, rfl⟩) | (at_builtin; refine wpList_append_own _ rfl _ _ 43 rfl w.heap.size 57 i0 _ 2 32 Try.underlying43 hi hz0 hz1 hz2 rfl (by decide) _ _ _ rfl (How2.alloc _) ⟨wr.heap.size, 0, none⟩ 1 1 (Ent.cells x) rfl rfl (cells_new _ _ _) (one_ent _) (by simp only [maxLen]; omega) (by omega) (by simp; omega) ?_; intro v' w' hown' hg' hn'))
        refine ⟨⟨j + 1, by omega, by go_num, ?_, Hb.out.trans (below_grown_new How2 hg' (by omega))⟩, by simp [RowKit.intOf]; omega⟩
        rw [Hsn.out, if_pos Hin.out]
        unfold EntsOwn
        rw [List.length_append, List.flatMap_append]
        simpa using hown'
    · obtain rfl : j = len := by omega
      have hfin := How.out
      rw [List.take_of_length_le (by rw [hlen.out]; exact Nat.le_refl _)] at hfin
      have Hfin := Lib.hid hfin
      clear hfin hr
      go_wp2_with fail
      go_ret
      exact ⟨_, rfl, Hfin.out, Hb.out⟩
theorem rscan_any (A : Option Addr) (len cap : Nat) (rs : List RTx) (i : Int) (key fin : ByteArray) (w : World) (hw : TxsAt w w.heap.size A len rs) (hl : len ≤ 4398046511104) :
    Calls Try.prog 26 #[.slice A len cap, .int .i64 i, .string key, .string fin] w (ScanPost w rs i key fin) := by
  have hall : ∀ n, (foldE rs n).filter (fun e => inB ⟨#[]⟩ ⟨#[]⟩ e.key) = foldE rs n := fun n => cut_all rfl rfl
  have hsc : (scanL rs i ⟨#[]⟩ ⟨#[]⟩).filter (fun e => inB key fin e.key) = scanL rs i key fin := by
    unfold scanL; split
    · rw [hall]
    · rfl
  have hle : (scanL rs i ⟨#[]⟩ ⟨#[]⟩).length ≤ 2097152 := by
    unfold scanL; split
    · rename_i h
      have h3 := scanErr_zero h
      rw [hall]; exact len_foldE_le h3.1 (by omega)
    · simp
  have Hsc := Lib.hid hsc
  clear hall hsc
  go_enter Try.func26, Try.ntmps26
  go_wp2_with fail
  refine (rstore_any A len cap rs i _ hw hl).mono ?_
  rintro e w1 ⟨v, rfl, hv, hb1⟩
  obtain ⟨Ao, co, rfl, hrow, hnil, hcap⟩ := hv.row
  have hs1 := hb1.size
  have Hb1 := Lib.hid hb1
  clear hv hb1 hnil
  go_wp2_with fail
  refine (rstretch_any Ao _ co _ key fin _ hrow (by omega)).mono ?_
  rintro e w2 ⟨v, rfl, hv2, hb2⟩
  rw [Hsc.out] at hv2
  have Hv2 := Lib.hid (hv2.more hs1)
  have Hb2 := Lib.hid (Hb1.out.trans (hb2.mono hs1))
  clear hv2 hb2
  go_wp2_with fail
  go_ret2
  exact ⟨_, rfl, Hv2.out, Hb2.out⟩
end Go.Proofs.Ytdcnaieieggclaa

/- ShardStretches: the walk. -/
import Derived.Test.YtogdanakcikdbaaSl5
namespace Go.Proofs.Ytogdanakcikdbaa
open Go.RowKit
set_option linter.unusedVariables false
set_option linter.unusedSimpArgs false

set_option maxRecDepth 100000
theorem filter_get {α : Type} {p : α → Bool} {l : List α} {i : Nat} {x : α} (h : l[i]? = some x) (hp : p x = true) : (l.filter p)[((l.take i).filter p).length]? = some x := by
  have h1 : l = l.take i ++ x :: l.drop (i + 1) := by rw [← drop_get h, List.take_append_drop]
  conv => lhs; lhs; rw [h1]
  rw [List.filter_append, List.filter_cons, if_pos hp, List.getElem?_append_right (Nat.le_refl _), Nat.sub_self]; rfl
theorem filter_take {α : Type} {p : α → Bool} {l : List α} {i : Nat} {x : α} (h : l[i]? = some x) : (l.take (i + 1)).filter p = (l.take i).filter p ++ if p x then [x] else [] := by
  rw [List.take_add_one, h, List.filter_append]; congr 1
  simp only [Option.toList_some, List.filter_cons, List.filter_nil]
theorem filter_le {α : Type} {p : α → Bool} (l : List α) (i : Nat) : ((l.take i).filter p).length ≤ (l.filter p).length := by
  conv => rhs; rw [← List.take_append_drop i l, List.filter_append, List.length_append]
  omega
theorem es_own {w : World} {B : Nat} {v : Value} {es : List (ByteArray × ByteArray)} (h : OwnE w B v es) : ∃ A cap, v = .slice A es.length cap ∧ RowAt EnC 2 w w.heap.size A es.length es ∧ (A = none → cap = 0) := by
  obtain ⟨A, cap, h1, h2, h3, -⟩ := rowAt_own (len_en _) h
  exact ⟨A, cap, h1, h2, fun e => (h3 e).2⟩
theorem en_cell {w : World} {B n i : Nat} {A : Option Addr} {es : List (ByteArray × ByteArray)} (h : RowAt EnC 2 w B A n es) (hi : i < n) : ∃ b off x, A = some ⟨b, off, none⟩ ∧ b < B ∧ es[i]? = some x ∧ w.cell? ⟨b, off + i * 2, none⟩ = some (.string x.1) ∧ w.cell? ⟨b, off + i * 2 + 1, none⟩ = some (.string x.2) := by
  obtain ⟨b, off, x, e, hb, hx, hc⟩ := h.at_ hi
  exact ⟨b, off, x, e, hb, hx, hc 0 _ rfl, hc 1 _ rfl⟩
set_option maxHeartbeats 16000000 in
theorem lawstretches_any (A : Option Addr) (len cap : Nat) (ps : List Part) (key fin : ByteArray) (w : World) (hw : PsAt w w.heap.size A len ps) (hl : len * 48 ≤ 140737488351232) (hk : key.size ≤ 2251799813685248) (hf : fin.size ≤ 2251799813685248)
    (hs : ∀ p ∈ ps, p.w.key.size ≤ 140737488351232 ∧ p.w.val.size ≤ 140737488351232) :
    Calls Try.prog 4 #[.slice A len cap, .string key, .string fin] w fun e w' => e = .returned (.bool true) ∧ Below w.heap.size w w' := by
  have Hw := Lib.hid (fun X (hX : Below w.heap.size w X) => (hw.below hX).more hX.size)
  have Hs := Lib.hid hs
  have hbd := szP_bd ps len (by omega) (by omega) hs
  obtain ⟨sz, hsz⟩ : ∃ sz, sz = szP len ps := ⟨_, rfl⟩
  rw [← hsz] at hbd
  have Hsz := Lib.hid hsz
  have hF := Fill.nil.fill (ps.take 200)
  have hJl := fillH_len (ps.take 200) [] []
  have hJl2 : (fillH (ps.take 200) [] []).2.length ≤ 200 := by simp at hJl; omega
  obtain ⟨L, hL⟩ : ∃ L, L = (fillH (ps.take 200) [] []).1 := ⟨_, rfl⟩
  obtain ⟨J, hJ⟩ : ∃ J, J = (fillH (ps.take 200) [] []).2 := ⟨_, rfl⟩
  rw [← hL, ← hJ] at hF
  rw [← hJ] at hJl2
  have hsize : sizeH L = J.length := hF.size
  have hLl := len_sizeH hF.ok
  have HF := Lib.hid hF
  have HL := Lib.hid hL
  have HJ := Lib.hid hJ
  have Hsize := Lib.hid hsize
  clear hw hs hsz hF hJl hL hJ
  go_enter Try.func4, Try.ntmps4
  go_wp2_with fail
  refine (alive_any _).mono ?_
  rintro e w1 ⟨rfl, hb1⟩
  have Hb1 := Lib.hid hb1
  clear hb1
  go_wp2_with fail
  refine (size9_any A len cap ps _ (Hw.out _ Hb1.out) hl Hs.out).mono ?_
  rintro e w2 ⟨rfl, hb2⟩
  rw [← Hsz.out]
  have Hb2 := Lib.hid (Hb1.out.trans (hb2.mono Hb1.out.size))
  clear hb2
  go_wp2_with fail
  refine (beyondx_any (some ⟨w2.heap.size, 0, none⟩) 3 3 [sz, (key.size : Int), (fin.size : Int)] _ (rowAt_block [sz, (key.size : Int), (fin.size : Int)] (len_int _) (blk_new _ _) (by simp) (fun j u hu => by simpa [Icell] using hu)) (by omega) (fun x hx => by simp at hx; omega)).mono ?_
  rintro e w3 ⟨rfl, hb3⟩
  have Hb3 := Lib.hid ((bel_alloc Hb2.out (.cells #[.int .i64 sz, .int .i64 ((key.size : Int)), .int .i64 ((fin.size : Int))] 3)).trans (hb3.mono (by have := Hb2.out.size; simp; omega)))
  clear hb3
  cases beyB 0 [sz, (key.size : Int), (fin.size : Int)]
  · go_wp2_with fail
    refine (filled_any A len cap ps _ (Hw.out _ Hb3.out) hl).mono ?_
    rintro e w4 ⟨t1, v1, rfl, hs1, ho1, hg1, hp1, hpg, hb4⟩
    rw [← HL.out] at hs1
    rw [← HJ.out] at ho1
    obtain ⟨A1, cap1, rfl, hr1⟩ := ps_own ho1
    have HS1 := Lib.hid hs1
    have Ho1 := Lib.hid ho1
    have Hr1 := Lib.hid hr1
    have HR1 := Lib.hid (fun X (hX : Below w4.heap.size w4 X) => (hr1.below hX).more hX.size)
    have Hb4 := Lib.hid (Hb3.out.trans (hb4.mono Hb3.out.size))
    clear hs1 ho1 hr1 hb4
    have hE0l : (scanH L ⟨#[]⟩ ⟨#[]⟩ 65536).length ≤ L.length := List.length_filterMap_le _ _
    have hE1 : scanH L key fin 65536 = (scanH L ⟨#[]⟩ ⟨#[]⟩ 65536).filter fun e => inS key fin e.1 := scanH_part L key fin 65536
    obtain ⟨E0, hE0⟩ : ∃ E0, E0 = scanH L ⟨#[]⟩ ⟨#[]⟩ 65536 := ⟨_, rfl⟩
    obtain ⟨E1, hEE1⟩ : ∃ E1, E1 = scanH L key fin 65536 := ⟨_, rfl⟩
    rw [← hE0] at hE0l hE1
    rw [← hEE1] at hE1
    have HE0 := Lib.hid hE0
    have HE1 := Lib.hid hE1
    have HEE1 := Lib.hid hEE1
    have hE1l : E1.length ≤ E0.length := by rw [hE1]; exact List.length_filter_le _ _
    clear hE0 hE1 hEE1
    go_wp2_with fail
    refine (scan_any t1 L ⟨#[]⟩ ⟨#[]⟩ 65536 _ HS1.out (by omega)).mono ?_
    rintro e w5 ⟨v5, rfl, ho5, hb5⟩
    rw [← HE0.out] at ho5
    obtain ⟨A5, cap5, rfl, hr5, hn5⟩ := es_own ho5
    have HS5 := Lib.hid (HS1.out.below hb5)
    have Hr5 := Lib.hid hr5
    have Hn5 := Lib.hid hn5
    have Hb5 := Lib.hid (Hb4.out.trans (hb5.mono Hb4.out.size))
    clear ho5 hr5 hn5 hb5
    go_wp2_with fail
    refine (scan_any t1 L key fin 65536 _ HS5.out (by omega)).mono ?_
    rintro e w6 ⟨v6, rfl, ho6, hb6⟩
    rw [← HEE1.out] at ho6
    obtain ⟨A6, cap6, rfl, hr6, hn6⟩ := es_own ho6
    have HS6 := Lib.hid (HS5.out.below hb6)
    have HR5 := Lib.hid (fun X (hX : Below w6.heap.size w6 X) => (((Hr5.out.below hb6).more hb6.size).below hX).more hX.size)
    have HR6 := Lib.hid (fun X (hX : Below w6.heap.size w6 X) => (hr6.below hX).more hX.size)
    have Hb6 := Lib.hid (Hb5.out.trans (hb6.mono Hb5.out.size))
    clear ho6 hr6 hn6 hb6
    go_wp2_with fail
    go_loopw [11, 12] (fun s i wr => ∃ n : Nat, n ≤ E0.length ∧ i = .int .i64 n ∧ s = .int .i64 (((E0.take n).filter fun e => inS key fin e.1).length : Nat) ∧ Hid (Below w6.heap.size w6 wr)) (fun _ i _ => E0.length - (RowKit.intOf i).toNat)
    case atStart => exact ⟨0, Nat.zero_le _, rfl, rfl, Lib.hid (Below.refl _ _)⟩
    case round =>
      obtain ⟨n, hn, rfl, rfl, HB⟩ := hrel
      by_cases hlt : n < E0.length
      · obtain ⟨b, off, x, hA5, hbl, hx, x0, x1⟩ := en_cell (HR5.out wr HB.out) hlt
        have hft := filter_take (p := fun e => inS key fin e.1) hx
        have hle := filter_le (p := fun e => inS key fin e.1) E0 n
        rw [← HE1.out] at hle
        have hg : inS key fin x.1 = true → E1[((E0.take n).filter fun e => inS key fin e.1).length]? = some x := fun h => by rw [HE1.out]; exact filter_get hx h
        have hin : inS key fin x.1 = (!ltB x.1 key && (decide (fin.size = 0) || ltB x.1 fin)) := rfl
        have e1 := less_eq x.1 key
        have e2 := less_eq x.1 fin
        have q0 : (0 : Int) ≤ (n : Int) := by omega
        have q1 : (n : Int) < (E0.length : Int) := by omega
        generalize hsn : ((E0.take n).filter fun e => inS key fin e.1).length = sn at hle hg ⊢
        have Hsn := Lib.hid hsn
        have Hft := Lib.hid hft
        subst hA5
        clear hsn hft
        cases h1 : ltB x.1 key
        · rw [h1] at hin e1
          by_cases he : fin.size = 0
          · have Hyes : Hid (inS key fin x.1 = true) := Lib.hid (by rw [hin]; simp [he])
            have e3 : ((fin.size : Int) == 0) = true := by simp [he]
            have e4 : (fin.size == 0) = true := by simp [he]
            clear hin e2 he h1
            have hgx := hg Hyes.out
            have hsl : sn < E1.length := (List.getElem?_eq_some_iff.1 hgx).1
            obtain ⟨b', off', y, hA6, hbl', hy, y0, y1⟩ := en_cell (HR6.out wr HB.out) hsl
            obtain rfl : y = x := by rw [hgx] at hy; exact (Option.some.inj hy).symm
            have q2 : (0 : Int) ≤ (sn : Int) := by omega
            have q3 : (sn : Int) < (E1.length : Int) := by omega
            have q4 : decide ((E1.length : Int) ≤ (sn : Int)) = false := by simp; omega
            have q5 : decide (E1.length ≤ sn) = false := by simp; omega
            subst hA6
            obtain ⟨xk, xv⟩ := y
            simp only at x0 x1 y0 y1
            clear hgx hy hg hx
            go_wp2_with fail
            go_quiet (fail)
            go_wp2_with fail
            exact ⟨⟨n + 1, by omega, by go_num, by rw [Hft.out, Hyes.out, if_pos rfl, List.length_append, Hsn.out]; go_num, Lib.hid (below_drewN HB.out _)⟩, by simp [RowKit.intOf]; omega⟩
          · have e3 : ((fin.size : Int) == 0) = false := by rw [beq_eq_false_iff_ne]; omega
            have e4 : (fin.size == 0) = false := by rw [beq_eq_false_iff_ne]; omega
            cases h2 : ltB x.1 fin
            · rw [h2] at hin e2
              have Hno : Hid (inS key fin x.1 = false) := Lib.hid (by rw [hin]; simp [he])
              clear hin h1 h2 he hg hx
              go_wp2_with fail
              exact ⟨⟨n + 1, by omega, by go_num, by rw [Hft.out, Hno.out, ← Hsn.out]; simp, HB⟩, by simp [RowKit.intOf]; omega⟩
            · rw [h2] at hin e2
              have Hyes : Hid (inS key fin x.1 = true) := Lib.hid (by rw [hin]; simp [he])
              clear hin h1 h2 he
              have hgx := hg Hyes.out
              have hsl : sn < E1.length := (List.getElem?_eq_some_iff.1 hgx).1
              obtain ⟨b', off', y, hA6, hbl', hy, y0, y1⟩ := en_cell (HR6.out wr HB.out) hsl
              obtain rfl : y = x := by rw [hgx] at hy; exact (Option.some.inj hy).symm
              have q2 : (0 : Int) ≤ (sn : Int) := by omega
              have q3 : (sn : Int) < (E1.length : Int) := by omega
              have q4 : decide ((E1.length : Int) ≤ (sn : Int)) = false := by simp; omega
              have q5 : decide (E1.length ≤ sn) = false := by simp; omega
              subst hA6
              obtain ⟨xk, xv⟩ := y
              simp only at x0 x1 y0 y1
              clear hgx hy hg hx
              go_wp2_with fail
              go_quiet (fail)
              go_wp2_with fail
              exact ⟨⟨n + 1, by omega, by go_num, by rw [Hft.out, Hyes.out, if_pos rfl, List.length_append, Hsn.out]; go_num, Lib.hid (below_drewN HB.out _)⟩, by simp [RowKit.intOf]; omega⟩
        · rw [h1] at hin e1
          have Hno : Hid (inS key fin x.1 = false) := Lib.hid (by rw [hin]; rfl)
          clear hin e2 h1 hg hx
          go_wp2_with fail
          exact ⟨⟨n + 1, by omega, by go_num, by rw [Hft.out, Hno.out, ← Hsn.out]; simp, HB⟩, by simp [RowKit.intOf]; omega⟩
      · obtain rfl : n = E0.length := by omega
        have hlen : ((E0.take E0.length).filter fun e => inS key fin e.1).length = E1.length := by rw [List.take_of_length_le (Nat.le_refl _), HE1.out]
        rw [hlen]
        have HSr := Lib.hid (HS6.out.below HB.out)
        have HR5r := Lib.hid (HR5.out wr HB.out)
        have HBr := Lib.hid (Hb6.out.trans (HB.out.mono Hb6.out.size))
        have z1 := beq_self_eq_true (E1.length : Int)
        clear hlen
        by_cases hk : key.size = 0
        · have e3 : ((key.size : Int) == 0) = true := by simp [hk]
          clear hk
          go_wp2_with fail
          go_ret
          exact ⟨rfl, HBr.out⟩
        · have e3 : ((key.size : Int) == 0) = false := by rw [beq_eq_false_iff_ne]; omega
          have htwo : scanH L ⟨#[]⟩ key 65536 ++ scanH L key ⟨#[]⟩ 65536 = E0 := by rw [HE0.out]; exact scanH_two HF.out.ok (by omega) 65536
          have hla : (scanH L ⟨#[]⟩ key 65536).length ≤ L.length := List.length_filterMap_le _ _
          have hlb : (scanH L key ⟨#[]⟩ 65536).length ≤ L.length := List.length_filterMap_le _ _
          have hca := scan_any t1 L ⟨#[]⟩ key 65536
          have hcb := scan_any t1 L key ⟨#[]⟩ 65536
          generalize scanH L ⟨#[]⟩ key 65536 = Ea at htwo hla hca
          generalize scanH L key ⟨#[]⟩ 65536 = Eb at htwo hlb hcb
          have Htwo := Lib.hid htwo
          have Hca := Lib.hid hca
          have Hcb := Lib.hid hcb
          clear htwo hca hcb hk
          obtain ⟨i0, hi, hz0, hz1, hz2⟩ := info_parts info_en
          go_wp2_with fail
          refine (Hca.out _ HSr.out (by omega)).mono ?_
          rintro e wa ⟨va, rfl, hoa, hba⟩
          obtain ⟨Aa, capa, rfl, hra, hna⟩ := es_own hoa
          have HSa := Lib.hid (HSr.out.below hba)
          have HR5a := Lib.hid ((HR5r.out.below hba).more hba.size)
          have Hba := Lib.hid (HBr.out.trans (hba.mono HBr.out.size))
          have hsa : wr.heap.size ≤ wa.heap.size := hba.size
          have Hra := Lib.hid hra
          have Hna := Lib.hid hna
          clear hoa hba hra hna
          go_wp2_with (at_builtin; refine wpList_append_row (cells := EnC) rfl (.tmp 89) (.tmp 92) 41 rfl wa.heap.size 44 i0 _ 2 32 Try.underlying41 hi hz0 hz1 hz2 rfl (by decide) (.slice none 0 0) 0 [] rfl (World.ownsRow_nil _ _ _ _) Aa Ea.length capa wa.heap.size Ea rfl Hra.out Hna.out (fun _ _ => rfl) (fun y u hu => one_en y u hu) (by unfold maxLen; omega) (by omega) (Nat.le_refl _) ?_)
          intro vb wb howb hgb
          have HOb : Hid (OwnE wb wa.heap.size vb Ea) := Lib.hid (by unfold OwnE; simpa using howb)
          have Hbw : Hid (Below wa.heap.size wa wb) := Lib.hid (below_grown_own (World.ownsRow_nil wa _ 44 2) hgb (Nat.le_refl _))
          clear howb hgb
          go_wp2_with fail
          refine (Hcb.out _ (HSa.out.below Hbw.out) (by omega)).mono ?_
          rintro e wc ⟨vc, rfl, hoc, hbc⟩
          obtain ⟨Ac, capc, rfl, hrc, hnc⟩ := es_own hoc
          have HOc : Hid (OwnE wc wa.heap.size vb Ea) := Lib.hid (ownsRow_below HOb.out hbc)
          have Hbc : Hid (Below wa.heap.size wa wc) := Lib.hid (Hbw.out.trans (hbc.mono Hbw.out.size))
          have Hrc := Lib.hid hrc
          have Hnc := Lib.hid hnc
          clear hoc hbc hrc hnc
          go_wp2_with (at_builtin; refine wpList_append_row (cells := EnC) rfl (.tmp 94) (.tmp 97) 41 rfl wa.heap.size 44 i0 _ 2 32 Try.underlying41 hi hz0 hz1 hz2 rfl (by decide) vb Ea.length (Ea.flatMap EnC) rfl HOc.out Ac Eb.length capc wc.heap.size Eb rfl Hrc.out Hnc.out (fun _ _ => rfl) (fun y u hu => one_en y u hu) (by unfold maxLen; omega) (by omega) Hbc.out.size ?_)
          intro vd wd howd hgd
          have hod : OwnE wd wa.heap.size vd E0 := by rw [← Htwo.out]; unfold OwnE; simpa using howd
          have hbd2 : Below wa.heap.size wa wd := Hbc.out.trans (below_grown_own HOc.out hgd Hbc.out.size)
          obtain ⟨Ad, capd, rfl, hrd, -⟩ := es_own hod
          have hse := sameE_any Ad E0.length capd A5 cap5 E0 wd hrd ((HR5a.out.below hbd2).more hbd2.size) (by omega)
          have Hse := Lib.hid hse
          have Hbd := Lib.hid (Hba.out.trans (hbd2.mono Hba.out.size))
          clear howd hgd hod hbd2 hrd hse
          go_wp2_with fail
          refine Hse.out.mono ?_
          rintro e wf ⟨rfl, hbf⟩
          have Hbf := Lib.hid (Hbd.out.trans (hbf.mono Hbd.out.size))
          clear hbf
          go_wp2_with fail
          go_ret
          exact ⟨rfl, Hbf.out⟩
  · go_wp2_with fail
    refine (alive_any _).mono ?_
    rintro e w4 ⟨rfl, hb4⟩
    have Hb4 := Lib.hid (Hb3.out.trans (hb4.mono Hb3.out.size))
    clear hb4
    go_wp2_with fail
    go_ret
    exact ⟨rfl, Hb4.out⟩
end Go.Proofs.Ytogdanakcikdbaa

/- ShardOrders: the walk. -/
import Derived.Test.YtogdanakcikdbaaSl4
namespace Go.Proofs.Ytogdanakcikdbaa
open Go.RowKit
set_option linter.unusedVariables false
set_option linter.unusedSimpArgs false

set_option maxRecDepth 100000
theorem hds_len {w : World} {B n : Nat} {A : Option Addr} {hs : List HR} {L : Hs} (h : HdsAt w B A n hs) (hp : plainR hs = L) (hL : HsOk L) : ∀ x ∈ hs, x.len ≤ 4398046511104 := fun x hx => by
  have h1 : (x.key, x.vs) ∈ L := by rw [← hp]; exact List.mem_map.2 ⟨x, hx, rfl⟩
  have h2 := chkB_len (hL.chk _ h1)
  have h3 := (h.2 x hx).1.len
  simp only at h2
  omega
theorem turn_idx {m T i : Nat} (hi : i < m) : (((m : Int) - 1 - (i : Int) + (T : Int)) % (m : Int)) = ((turnI m T i : Nat) : Int) := by
  unfold turnI
  rw [show ((m : Int) - 1 - (i : Int) + (T : Int)) = ((m - 1 - i + T : Nat) : Int) from by omega]
  exact int_rem (by omega)
theorem ps_own {w : World} {B : Nat} {v : Value} {ps : List Part} (h : OwnP w B v ps) : ∃ A cap, v = .slice A ps.length cap ∧ PsAt w w.heap.size A ps.length ps := by
  obtain ⟨A, cap, h1, h2, -, -⟩ := rowAt_own (len_part _) h
  exact ⟨A, cap, h1, h2⟩
set_option maxHeartbeats 16000000 in
theorem laworders_any (A : Option Addr) (len cap : Nat) (ps : List Part) (T : Nat) (w : World) (hw : PsAt w w.heap.size A len ps) (hl : len * 48 ≤ 140737488351232) (hT : T ≤ 255)
    (hs : ∀ p ∈ ps, p.w.key.size ≤ 140737488351232 ∧ p.w.val.size ≤ 140737488351232) :
    Calls Try.prog 3 #[.slice A len cap, .int .u8 T] w fun e w' => e = .returned (.bool true) ∧ Below w.heap.size w w' := by
  have Hw := Lib.hid (fun X (hX : Below w.heap.size w X) => (hw.below hX).more hX.size)
  have Hs := Lib.hid hs
  have hbd := szP_bd ps len (by omega) (by omega) hs
  obtain ⟨sz, hsz⟩ : ∃ sz, sz = szP len ps := ⟨_, rfl⟩
  rw [← hsz] at hbd
  have Hsz := Lib.hid hsz
  obtain ⟨i0, hi, hz0, hz1, hz2⟩ := info_parts info_part
  have hF := Fill.nil.fill (ps.take 200)
  have hJl := fillH_len (ps.take 200) [] []
  have hJl2 : (fillH (ps.take 200) [] []).2.length ≤ 200 := by simp at hJl; omega
  have hol := orders_law (ps.take 200) T
  obtain ⟨L, hL⟩ : ∃ L, L = (fillH (ps.take 200) [] []).1 := ⟨_, rfl⟩
  obtain ⟨J, hJ⟩ : ∃ J, J = (fillH (ps.take 200) [] []).2 := ⟨_, rfl⟩
  rw [← hL, ← hJ] at hF hol
  rw [← hJ] at hJl2
  obtain ⟨htm, htl, htg⟩ := turnL_perm J T
  have hsize : sizeH L = J.length := hF.size
  have hLl := len_sizeH hF.ok
  have HF := Lib.hid hF
  have HL := Lib.hid hL
  have HJ := Lib.hid hJ
  have Htl := Lib.hid htl
  have Htg := Lib.hid htg
  have hol2 : fillH ((turnL J T).take 200) [] [] = (L, turnL J T) := by rw [List.take_of_length_le (by omega)]; exact hol
  have Hol := Lib.hid hol2
  have Hsize := Lib.hid hsize
  clear hw hs hsz hF hJl hol hL hJ htm htl htg hol2
  go_enter Try.func3, Try.ntmps3
  go_wp2_with fail
  refine (alive_any _).mono ?_
  rintro e w1 ⟨rfl, hb1⟩
  have Hb1 := Lib.hid hb1
  clear hb1
  go_wp2_with fail
  refine (size9_any A len cap ps _ (Hw.out _ Hb1.out) hl Hs.out).mono ?_
  rintro e w2 ⟨rfl, hb2⟩
  rw [← Hsz.out]
  have Hb2 := Lib.hid (Hb1.out.trans (hb2.mono Hb1.out.size))
  clear hb2
  go_wp2_with fail
  refine (beyondx_any (some ⟨w2.heap.size, 0, none⟩) 1 1 [sz] _ (rowAt_block [sz] (len_int _) (blk_new _ _) (by simp) (fun j u hu => by simpa [Icell] using hu)) (by omega) (fun x hx => by simp at hx; omega)).mono ?_
  rintro e w3 ⟨rfl, hb3⟩
  have Hb3 := Lib.hid ((bel_alloc Hb2.out (.cells #[.int .i64 sz] 3)).trans (hb3.mono (by have := Hb2.out.size; simp; omega)))
  clear hb3
  cases beyB 0 [sz]
  · go_wp2_with fail
    refine (filled_any A len cap ps _ (Hw.out _ Hb3.out) hl).mono ?_
    rintro e w4 ⟨t1, v1, rfl, hs1, ho1, hg1, hp1, -, hb4⟩
    rw [← HL.out] at hs1
    rw [← HJ.out] at ho1
    obtain ⟨A1, cap1, rfl, hr1⟩ := ps_own ho1
    have HS1 := Lib.hid hs1
    have HR1 := Lib.hid (fun X (hX : Below w4.heap.size w4 X) => (hr1.below hX).more hX.size)
    have Hb4 := Lib.hid (Hb3.out.trans (hb4.mono Hb3.out.size))
    clear hs1 ho1 hr1 hb4 hg1 hp1
    go_wp2_with fail
    go_loopw [7, 8] (fun v i wr => ∃ n : Nat, n ≤ J.length ∧ i = .int .i64 n ∧ Hid (OwnP wr w4.heap.size v ((turnL J T).take n)) ∧ Hid (Below w4.heap.size w4 wr)) (fun _ i _ => J.length - (RowKit.intOf i).toNat)
    case atStart => exact ⟨0, Nat.zero_le _, rfl, Lib.hid (World.ownsRow_nil _ _ _ _), Lib.hid (Below.refl _ _)⟩
    case round =>
      obtain ⟨n, hn, rfl, HO, HB⟩ := hrel
      have hsr := HB.out.size
      by_cases hlt : n < J.length
      · have hti := turnI_lt (n := J.length) (t := T) hlt
        obtain ⟨b, off, x, rfl, hbl, hx, x0, x1, x2, x3⟩ := PsAt.cell4 (HR1.out wr HB.out) hti
        have htx : (turnL J T)[n]? = some x := (Htg.out n hlt).trans hx
        have htk : (turnL J T).take (n + 1) = (turnL J T).take n ++ [x] := by rw [List.take_add_one, htx]; rfl
        have Htk := Lib.hid htk
        have hidx := turn_idx (T := T) hlt
        have hnl : ((turnL J T).take n).length ≤ 200 := by rw [List.length_take]; omega
        have e1 : (0 : Int) ≤ (J.length : Int) - 1 - (n : Int) + (T : Int) := by omega
        have e3 : (0 : Int) < (J.length : Int) := by omega
        have e4 : ((turnI J.length T n : Nat) : Int) < (J.length : Int) := by omega
        obtain ⟨num, ⟨wk, wv, wd⟩⟩ := x
        simp only at x0 x1 x2 x3
        clear hx htx htk
        go_wp2_with (at_builtin; refine wpList_append_row (cells := Part.cells) rfl _ _ 22 rfl w4.heap.size 32 i0 _ 4 48 Try.underlying22 hi hz0 hz1 hz2 rfl (by decide) _ _ _ rfl (HO.out.alloc _) (some ⟨wr.heap.size, 0, none⟩) 1 1 (wr.heap.size + 1) [⟨num, ⟨wk, wv, wd⟩⟩] rfl (rowAt_block [⟨num, ⟨wk, wv, wd⟩⟩] (len_part _) (blk_new wr (.cells #[.int .i64 num, .string wk, .string wv, .bool wd] 32)) (by simp) (fun j u hu => by simpa [Part.cells] using hu)) (fun h => by cases h) (fun _ _ => rfl) (fun y u hu => one_part y u hu) (by unfold maxLen; omega) (by omega) (by simp; omega) ?_)
        intro v' w5 hown5 hg5
        have HO5 := Lib.hid hown5
        have HB5 : Hid (Below w4.heap.size w4 w5) := Lib.hid ((HB.out.alloc hsr _).trans (below_grown_own (HO.out.alloc _) hg5 (by simp; omega)))
        clear hown5 hg5
        go_wp2_with fail
        exact ⟨⟨n + 1, by omega, by go_num, Lib.hid (by
          have := HO5.out
          rw [Htk.out]
          unfold OwnP
          simp only [List.length_append, List.flatMap_append]
          simpa using this), HB5⟩, by simp [RowKit.intOf]; omega⟩
      · obtain rfl : n = J.length := by omega
        have hO := HO.out
        rw [List.take_of_length_le (by rw [Htl.out]; exact Nat.le_refl _)] at hO
        obtain ⟨A2, cap2, hv2, hr2⟩ := ps_own hO
        rw [hv2]
        rw [Htl.out] at hr2 ⊢
        have hs4 := Hb4.out.size
        have HR2 := Lib.hid hr2
        have HBr := Lib.hid (Hb4.out.trans (HB.out.mono hs4))
        have HS1r := Lib.hid (HS1.out.below HB.out)
        clear hO hr2 hv2
        go_wp2_with fail
        refine (filled_any A2 J.length cap2 (turnL J T) _ HR2.out (by omega)).mono ?_
        rintro e w6 ⟨t2, v2, rfl, hs2, ho2, -, -, -, hb6⟩
        rw [Hol.out] at hs2 ho2
        obtain ⟨A3, cap3, rfl, -⟩ := ps_own ho2
        rw [show (L, turnL J T).2 = turnL J T from rfl, Htl.out]
        have HS2 : Hid (ShAt w6 t2 L) := Lib.hid hs2
        have HS16 := Lib.hid (HS1r.out.below hb6)
        have Hb6 := Lib.hid (HBr.out.trans (hb6.mono HBr.out.size))
        clear hs2 ho2 hb6
        go_wp2_with fail
        refine (all_any t1 L _ HS16.out (by omega)).mono ?_
        rintro e w7 ⟨v7, hs7, rfl, hh7, hp7, hb7⟩
        obtain ⟨A7, cap7, rfl, hr7, -, -⟩ := hh7.hds
        have hl7 : hs7.length = L.length := by rw [← hp7]; simp [plainR]
        have hld := load_any A7 hs7.length cap7 hs7 w7 hr7 (by omega) (hds_len hr7 hp7 HF.out.ok)
        rw [hp7] at hld
        have Hld := Lib.hid hld
        have HS17 := Lib.hid (HS16.out.below hb7)
        have HS27 := Lib.hid (HS2.out.below hb7)
        have Hb7 := Lib.hid (Hb6.out.trans (hb7.mono Hb6.out.size))
        clear hh7 hr7 hl7 hld hb7
        go_wp2_with fail
        refine Hld.out.mono ?_
        rintro e w8 ⟨hgd, -, hb8⟩
        obtain ⟨t3, rfl, hs3, -, -⟩ := hgd (mayH_iff.2 HF.out.ok)
        have HS18 := Lib.hid (HS17.out.below hb8)
        have HS28 := Lib.hid (HS27.out.below hb8)
        have HS38 := Lib.hid hs3
        have Hb8 := Lib.hid (Hb7.out.trans (hb8.mono Hb7.out.size))
        clear hgd hs3 hb8
        have hsz8 := size_any t1 L _ HS18.out (by omega)
        rw [Hsize.out] at hsz8
        have Hsz8 := Lib.hid hsz8
        clear hsz8
        go_wp2_with fail
        refine Hsz8.out.mono ?_
        rintro e w9 ⟨rfl, hb9⟩
        have HS19 := Lib.hid (HS18.out.below hb9)
        have HS29 := Lib.hid (HS28.out.below hb9)
        have HS39 := Lib.hid (HS38.out.below hb9)
        have Hb9 := Lib.hid (Hb8.out.trans (hb9.mono Hb8.out.size))
        clear hb9
        go_wp2_with fail
        refine (all_any t1 L _ HS19.out (by omega)).mono ?_
        rintro e wa ⟨va, hsa, rfl, hha, hpa, hba⟩
        obtain ⟨Aa, capa, rfl, hra, -, -⟩ := hha.hds
        have hla : hsa.length = L.length := by rw [← hpa]; simp [plainR]
        rw [hla] at hra ⊢
        have Hra := Lib.hid hra
        have HS1a := Lib.hid (HS19.out.below hba)
        have HS2a := Lib.hid (HS29.out.below hba)
        have HS3a := Lib.hid (HS39.out.below hba)
        have Hba := Lib.hid (Hb9.out.trans (hba.mono Hb9.out.size))
        have Hpa := Lib.hid hpa
        clear hha hra hba hpa hla
        go_wp2_with fail
        refine (all_any t2 L _ HS2a.out (by omega)).mono ?_
        rintro e wb ⟨vb, hsb, rfl, hhb, hpb, hbb⟩
        obtain ⟨Ab, capb, rfl, hrb, -, -⟩ := hhb.hds
        have hlb : hsb.length = L.length := by rw [← hpb]; simp [plainR]
        rw [hlb] at hrb ⊢
        have hra2 := (Hra.out.below hbb).more hbb.size
        have hsm := sameH_any Aa Ab L.length capa capb hsa hsb wb hra2 hrb (by rw [Hpa.out, hpb]) (by omega) (hds_len hra2 Hpa.out HF.out.ok)
        have Hsm := Lib.hid hsm
        have HS1b := Lib.hid (HS1a.out.below hbb)
        have HS3b := Lib.hid (HS3a.out.below hbb)
        have Hbb := Lib.hid (Hba.out.trans (hbb.mono Hba.out.size))
        clear hhb hrb hbb hpb hlb hra2 hsm
        go_wp2_with fail
        refine Hsm.out.mono ?_
        rintro e wc ⟨rfl, hbc⟩
        have HS1c := Lib.hid (HS1b.out.below hbc)
        have HS3c := Lib.hid (HS3b.out.below hbc)
        have Hbc := Lib.hid (Hbb.out.trans (hbc.mono Hbb.out.size))
        clear hbc
        go_wp2_with fail
        refine (all_any t1 L _ HS1c.out (by omega)).mono ?_
        rintro e wd ⟨vd, hsd, rfl, hhd, hpd, hbd2⟩
        obtain ⟨Ad, capd, rfl, hrd, -, -⟩ := hhd.hds
        have hld : hsd.length = L.length := by rw [← hpd]; simp [plainR]
        rw [hld] at hrd ⊢
        have Hrd := Lib.hid hrd
        have HS3d := Lib.hid (HS3c.out.below hbd2)
        have Hbd := Lib.hid (Hbc.out.trans (hbd2.mono Hbc.out.size))
        have Hpd := Lib.hid hpd
        clear hhd hrd hbd2 hpd hld
        go_wp2_with fail
        refine (all_any t3 L _ HS3d.out (by omega)).mono ?_
        rintro e we ⟨ve, hse, rfl, hhe, hpe, hbe⟩
        obtain ⟨Ae, cape, rfl, hre, -, -⟩ := hhe.hds
        have hle : hse.length = L.length := by rw [← hpe]; simp [plainR]
        rw [hle] at hre ⊢
        have hrd2 := (Hrd.out.below hbe).more hbe.size
        have hsm := sameH_any Ad Ae L.length capd cape hsd hse we hrd2 hre (by rw [Hpd.out, hpe]) (by omega) (hds_len hrd2 Hpd.out HF.out.ok)
        have Hsm := Lib.hid hsm
        have Hbe := Lib.hid (Hbd.out.trans (hbe.mono Hbd.out.size))
        clear hhe hre hbe hpe hle hrd2 hsm
        go_wp2_with fail
        refine Hsm.out.mono ?_
        rintro e wf ⟨rfl, hbf⟩
        have Hbf := Lib.hid (Hbe.out.trans (hbf.mono Hbe.out.size))
        clear hbf
        go_wp2_with fail
        go_ret
        exact ⟨rfl, Hbf.out⟩
  · go_wp2_with fail
    refine (alive_any _).mono ?_
    rintro e w4 ⟨rfl, hb4⟩
    have Hb4 := Lib.hid (Hb3.out.trans (hb4.mono Hb3.out.size))
    clear hb4
    go_wp2_with fail
    go_ret
    exact ⟨rfl, Hb4.out⟩
end Go.Proofs.Ytogdanakcikdbaa

/- towpathlaw09: what is filled. -/
import Derived.Test.YtogdanakcikdbaaSl2
namespace Go.Proofs.Ytogdanakcikdbaa
open Go.RowKit
set_option linter.unusedVariables false
set_option linter.unusedSimpArgs false

set_option maxRecDepth 100000
theorem info_part : (Try.prog.info? 32).map (fun i => (i.zero, i.size, i.bytes)) = some (some (.agg #[.int .i64 0, .string ⟨#[]⟩, .string ⟨#[]⟩, .bool false]), 4, 48) := by kernel_rfl
/-- What is the walk's own, of another type than versions, may grow. -/
theorem ShAt.owned {w w' : World} {t : SB} {L : Hs} {base size n : Nat} {e : TypeId} {v : Value} {xs : List Value} (h : ShAt w t L) (ho : w.ownsRow base e size v n xs) (hg : w.grownBy w' v.ownBlock) (he : e ≠ 55) (hb : t.g < base) (hp : t.p < base) : ShAt w' t L := by
  have k : Kept w w' (fun b => v.ownBlock = some b) := ⟨hg.os, hg.tape, hg.output, hg.size, fun i hi hx => hg.block i hi (fun e => hx e.symm)⟩
  refine h.keptV k fun b hbb => ?_
  have h1 := ho.lt b hbb
  refine ⟨by omega, by omega, fun cs fr hc => ?_⟩
  obtain ⟨-, ⟨rfl, -⟩ | ⟨g, cap, cur, rfl, -, h3, -⟩⟩ := ho
  · cases hbb
  · simp only [Value.ownBlock, Option.some.injEq] at hbb
    subst hbb
    rw [h3] at hc
    injection hc with hc; injection hc with _ hc _
    exact he hc
theorem ownsRow_kept {w w' : World} {X : Nat → Prop} {base size n : Nat} {e : TypeId} {v : Value} {xs : List Value} (h : w.ownsRow base e size v n xs) (k : Kept w w' X) (hX : ∀ b, X b → b < base) : w'.ownsRow base e size v n xs := by
  obtain ⟨h1, h2 | ⟨g, cap, cur, hv, hg, hh, r⟩⟩ := h
  · exact ⟨h1, Or.inl h2⟩
  · exact ⟨h1, Or.inr ⟨g, cap, cur, hv, hg, k.blk hh (blk_lt hh) (fun hx => by have := hX g hx; omega), r⟩⟩
abbrev OwnP (w : World) (B : Nat) (v : Value) (ps : List Part) : Prop := w.ownsRow B 32 4 v ps.length (ps.flatMap Part.cells)
def FillEnd (w : World) (ps : List Part) (e : Ending) (w' : World) : Prop :=
  ∃ (t : SB) (v : Value), e = .returned (.tuple #[.pointer (some ⟨t.g, 0, none⟩), v]) ∧ ShAt w' t (fillH ps [] []).1 ∧ OwnP w' (t.g + 1) v (fillH ps [] []).2 ∧ w.heap.size ≤ t.g ∧ w.heap.size ≤ t.p ∧ t.p ≤ t.g ∧ Below w.heap.size w w'
set_option maxHeartbeats 8000000 in
theorem filled_any (A : Option Addr) (len cap : Nat) (ps : List Part) (w : World) (hw : PsAt w w.heap.size A len ps) (hl : len * 48 ≤ 140737488351232) :
    Calls Try.prog 13 #[.slice A len cap] w (FillEnd w (ps.take 200)) := by
  have hlen := Lib.hid hw.len
  have Hw := Lib.hid (fun X (hX : Below w.heap.size w X) => hw.below hX)
  obtain ⟨i0, hi, hz0, hz1, hz2⟩ := info_parts info_part
  have hpost : ∀ (v : Value) (X : World) (n : Nat), ps.take 200 = ps.take n → ShAt X ⟨w.heap.size + 1, w.heap.size⟩ (fillH (ps.take n) [] []).1 → OwnP X (w.heap.size + 2) v (fillH (ps.take n) [] []).2 → Below w.heap.size w X → FillEnd w (ps.take 200) (.returned (.tuple #[.pointer (some ⟨w.heap.size + 1, 0, none⟩), v])) X := fun v X n h1 h2 h3 h4 => by
    rw [h1]; exact ⟨⟨w.heap.size + 1, w.heap.size⟩, v, rfl, h2, h3, Nat.le_succ _, Nat.le_refl _, Nat.le_succ _, h4⟩
  have Hpost := Lib.hid hpost
  clear hw hpost
  go_enter Try.func13, Try.ntmps13
  go_wp2_with fail
  refine (new_any _).mono ?_
  rintro e w1 ⟨rfl, hsh1, hb1⟩
  have HS1 := Lib.hid hsh1
  have Hb1 := Lib.hid hb1
  have hz1' : w.heap.size + 1 < w1.heap.size := hsh1.lt.1
  clear hsh1 hb1
  go_wp2_with fail
  go_loopw [5, 6] (fun v i wr => ∃ n : Nat, n ≤ len ∧ n ≤ 200 ∧ i = .int .i64 n ∧ Hid (ShAt wr ⟨w.heap.size + 1, w.heap.size⟩ (fillH (ps.take n) [] []).1) ∧ Hid (OwnP wr (w.heap.size + 2) v (fillH (ps.take n) [] []).2) ∧ Hid (Below w.heap.size w wr)) (fun _ i _ => 200 - (RowKit.intOf i).toNat)
  case atStart => exact ⟨0, Nat.zero_le _, by omega, rfl, HS1, Lib.hid (World.ownsRow_nil _ _ _ _), Hb1⟩
  case round =>
    obtain ⟨n, hnl, hn2, rfl, HS, HO, HB⟩ := hrel
    have hzr : w.heap.size + 1 < wr.heap.size := HS.out.lt.1
    by_cases hlt : n < len
    · by_cases hlt2 : n < 200
      · obtain ⟨b, off, x, rfl, hbl, hx, x0, x1, x2, x3⟩ := PsAt.cell4 (Hw.out wr HB.out) hlt
        have htk : ps.take (n + 1) = ps.take n ++ [x] := by rw [List.take_add_one, hx]; rfl
        have hfs := fillH_snoc (ps.take n) x [] []
        rw [← htk] at hfs
        have hfl := fillH_len (ps.take n) [] []
        have hfl2 : (fillH (ps.take n) [] []).2.length ≤ 200 := by simp at hfl; omega
        have hin := install_any ⟨w.heap.size + 1, w.heap.size⟩ (fillH (ps.take n) [] []).1 x wr.drew (HS.out.below (bel_drew (Below.refl _ _)))
        obtain ⟨Ln, hLn⟩ : ∃ Ln, Ln = (fillH (ps.take n) [] []).1 := ⟨_, rfl⟩
        obtain ⟨Jn, hJn⟩ : ∃ Jn, Jn = (fillH (ps.take n) [] []).2 := ⟨_, rfl⟩
        have hF : fillH (ps.take n) [] [] = (Ln, Jn) := by rw [hLn, hJn]
        rw [hF] at hfs hin hfl2 HS HO
        simp only at hfs hin hfl2 HS HO
        obtain ⟨num, ⟨wk, wv, wd⟩⟩ := x
        simp only at x0 x1 x2 x3
        have hin2 : Calls Try.prog 33 #[.pointer (some ⟨w.heap.size + 1, 0, none⟩), .int .i64 num, .agg #[.string wk, .string wv, .bool wd]] wr.drew (InstEnd wr.drew ⟨w.heap.size + 1, w.heap.size⟩ Ln ⟨num, ⟨wk, wv, wd⟩⟩) := hin
        have Hin := Lib.hid hin2
        have HC : Hid (∀ X, Below w.heap.size wr X → X.cell? ⟨b, off + n * 4, none⟩ = some (.int .i64 num) ∧ X.cell? ⟨b, off + n * 4 + 1, none⟩ = some (.string wk) ∧ X.cell? ⟨b, off + n * 4 + 2, none⟩ = some (.string wv) ∧ X.cell? ⟨b, off + n * 4 + 3, none⟩ = some (.bool wd)) := Lib.hid fun X hX =>
          ⟨(hX.cell (p := ⟨b, off + n * 4, none⟩) hbl).trans x0, (hX.cell (p := ⟨b, off + n * 4 + 1, none⟩) hbl).trans x1, (hX.cell (p := ⟨b, off + n * 4 + 2, none⟩) hbl).trans x2, (hX.cell (p := ⟨b, off + n * 4 + 3, none⟩) hbl).trans x3⟩
        have Hfs := Lib.hid hfs
        have e0 : (0 : Int) ≤ (n : Int) := by omega
        have e1 : (n : Int) < (len : Int) := by omega
        clear hx htk hfs hfl hin hin2 hLn hJn hF
        go_wp2_with fail
        go_region_held3 (fun X => X.cell? ⟨b, off + n * 4, none⟩ = some (.int .i64 num) ∧ X.cell? ⟨b, off + n * 4 + 1, none⟩ = some (.string wk) ∧ X.cell? ⟨b, off + n * 4 + 2, none⟩ = some (.string wv) ∧ X.cell? ⟨b, off + n * 4 + 3, none⟩ = some (.bool wd))
          (first | (refine HC.out _ ?_; (first | exact (Below.refl _ _).drew | exact HB2.out)))
          ((go_at_call 33; (with_reducible refine Hin.out.mono ?_); rintro e w2 ⟨rfl, hsh2, hk2⟩; have HB2 : Hid (Below w.heap.size wr w2) := Lib.hid (((Below.refl w.heap.size wr).drew).trans (hk2.below (by show w.heap.size ≤ wr.heap.size; omega) (fun q hq => by rw [hq]; exact Nat.le_refl _))); have HS2 := Lib.hid hsh2; have HO2 : Hid (OwnP w2 (w.heap.size + 2) _ Jn) := Lib.hid (ownsRow_kept HO.out (show Kept wr w2 _ from ⟨hk2.os, hk2.tape, hk2.output, hk2.size, hk2.block⟩) (fun q hq => by rw [hq]; show w.heap.size < _; omega)); have hzz2 : wr.heap.size ≤ w2.heap.size := hk2.size; clear hsh2 hk2))
        have hnp0 : newP Ln ⟨num, ⟨wk, wv, wd⟩⟩ = (okP ⟨num, ⟨wk, wv, wd⟩⟩ && !hasV (hget Ln wk) num) := rfl
        have hin0 : instH Ln ⟨num, ⟨wk, wv, wd⟩⟩ = if newP Ln ⟨num, ⟨wk, wv, wd⟩⟩ then hput Ln wk (putV (hget Ln wk) ⟨num, wv, wd⟩) else Ln := rfl
        have Hin0 := Lib.hid hin0
        generalize hnp : newP Ln ⟨num, ⟨wk, wv, wd⟩⟩ = np at hnp0 ⊢
        generalize okP ⟨num, ⟨wk, wv, wd⟩⟩ = ok at hnp0 ⊢
        have Hnp := Lib.hid hnp
        have hpn : n + 1 ≤ 200 := by omega
        obtain ⟨s0, s1, s2, s3⟩ := HC.out w2 HB2.out
        clear hnp hin0
        cases np
        · have hF2 : fillH (ps.take (n + 1)) [] [] = (Ln, Jn) := by rw [Hfs.out, Hnp.out]; exact if_neg Bool.false_ne_true
          have hL2 : instH Ln ⟨num, ⟨wk, wv, wd⟩⟩ = Ln := by rw [Hin0.out, Hnp.out]; exact if_neg Bool.false_ne_true
          have HF2 := Lib.hid hF2
          have HS3 : Hid (ShAt w2 ⟨w.heap.size + 1, w.heap.size⟩ Ln) := Lib.hid (by rw [← hL2]; exact HS2.out)
          clear hnp0 hF2 hL2
          go_wp2_with fail
          exact ⟨⟨n + 1, by omega, hpn, by go_num, Lib.hid (by rw [HF2.out]; exact HS3.out), Lib.hid (by rw [HF2.out]; exact HO2.out), Lib.hid (HB.out.trans HB2.out)⟩, by simp [RowKit.intOf]; omega⟩
        · obtain rfl : ok = true := by cases ok; cases hnp0; rfl
          have hF2 : fillH (ps.take (n + 1)) [] [] = (instH Ln ⟨num, ⟨wk, wv, wd⟩⟩, Jn ++ [⟨num, ⟨wk, wv, wd⟩⟩]) := by rw [Hfs.out, Hnp.out]; exact if_pos rfl
          have HF2 := Lib.hid hF2
          have hEe : errOf true = 0 := rfl
          rw [hEe]
          clear hnp0 hF2 hEe
          go_wp2_with (at_builtin; refine wpList_append_row (cells := Part.cells) rfl _ _ 22 rfl (w.heap.size + 2) 32 i0 _ 4 48 Try.underlying22 hi hz0 hz1 hz2 rfl (by decide) _ _ _ rfl (HO2.out.alloc _) (some ⟨w2.heap.size, 0, none⟩) 1 1 (w2.heap.size + 1) [⟨num, ⟨wk, wv, wd⟩⟩] rfl (rowAt_block [⟨num, ⟨wk, wv, wd⟩⟩] (len_part _) (blk_new w2 (.cells #[.int .i64 num, .string wk, .string wv, .bool wd] 32)) (by simp) (fun j u hu => by simpa [Part.cells] using hu)) (fun h => by cases h) (fun _ _ => rfl) (fun y u hu => one_part y u hu) (by unfold maxLen; omega) (by omega) (by simp; omega) ?_)
          intro v' w5 hown5 hg5
          have HO5 := Lib.hid hown5
          have HB5 : Hid (Below w.heap.size w2 w5) := Lib.hid (((Below.refl w.heap.size w2).alloc (by omega) _).trans ((below_grown_own (HO2.out.alloc _) hg5 (by simp; omega)).mono (by omega)))
          have HS5 : Hid (ShAt w5 ⟨w.heap.size + 1, w.heap.size⟩ (instH Ln ⟨num, ⟨wk, wv, wd⟩⟩)) := Lib.hid ((HS2.out.alloc _).owned (HO2.out.alloc _) hg5 (by decide) (by simp) (by simp))
          clear hown5 hg5
          go_wp2_with fail
          exact ⟨⟨n + 1, by omega, hpn, by go_num, Lib.hid (by rw [HF2.out]; exact HS5.out), Lib.hid (by
            have := HO5.out
            rw [HF2.out]
            unfold OwnP
            simp only [List.length_append, List.flatMap_append]
            simpa using this), Lib.hid (HB.out.trans (HB2.out.trans HB5.out))⟩, by simp [RowKit.intOf]; omega⟩
      · obtain rfl : n = 200 := by omega
        go_wp2_with fail
        go_ret2
        exact Hpost.out _ wr 200 rfl HS.out HO.out HB.out
    · obtain rfl : n = len := by omega
      go_wp2_with fail
      go_ret2
      exact Hpost.out _ wr n (by rw [List.take_of_length_le (by have := hlen.out; omega), List.take_of_length_le (by have := hlen.out; omega)]) HS.out HO.out HB.out
end Go.Proofs.Ytogdanakcikdbaa

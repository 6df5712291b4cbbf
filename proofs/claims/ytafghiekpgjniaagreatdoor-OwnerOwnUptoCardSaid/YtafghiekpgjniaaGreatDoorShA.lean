/- slices.Contains of numbers; chain.Dump; shard: Dump. -/
import Derived.Test.YtafghiekpgjniaaGreatDoorPT
import Derived.Deep.DeepCutAuto
namespace Go.Proofs.YtafghiekpgjniaaGreatDoor
open Go.RowKit
set_option linter.unusedVariables false
set_option linter.unusedSimpArgs false

set_option maxRecDepth 100000
def Icell (x : Int) : List Value := [.int .i64 x]
theorem len_int (xs : List Int) : ∀ x ∈ xs, (Icell x).length = 1 := fun _ _ => rfl
theorem one_int (x : Int) : ∀ u ∈ Icell x, u.oneCell' = true := by
  intro u hu; simp [Icell] at hu; subst hu; rfl
theorem int_at {w : World} {B n i : Nat} {A : Option Addr} {xs : List Int} (h : RowAt Icell 1 w B A n xs) (hi : i < n) : ∃ b off x, A = some ⟨b, off, none⟩ ∧ b < B ∧ xs[i]? = some x ∧ w.cell? ⟨b, off + i, none⟩ = some (.int .i64 x) := by
  obtain ⟨b, off, x, e, hb, hx, hc⟩ := h.at_ hi
  exact ⟨b, off, x, e, hb, hx, by have := hc 0 _ rfl; simpa using this⟩
def IdxI (W : World) (b : Bool) (e : Ending) (w' : World) : Prop := ∃ r : Int, e = .returned (.int .i64 r) ∧ -1 ≤ r ∧ decide (0 ≤ r) = b ∧ W = w'
theorem cont_take {xs : List Int} {k : Nat} {x n : Int} (h : xs[k]? = some x) : (xs.take (k + 1)).contains n = ((xs.take k).contains n || (n == x)) := by
  rw [List.take_add_one, h, Bool.eq_iff_iff]; simp
set_option maxHeartbeats 2000000 in
theorem index_any (A : Option Addr) (len cap : Nat) (xs : List Int) (n : Int) (w : World) (hw : RowAt Icell 1 w w.heap.size A len xs) (hl : len ≤ 17592186044416) :
    Calls Tryz.prog 221 #[.slice A len cap, .int .i64 n] w (IdxI w (xs.contains n)) := by
  have hlen := Lib.hid hw.len
  generalize hcn : xs.contains n = c
  have Hcn := Lib.hid hcn
  clear hcn
  have hpost : ∀ (r : Int), -1 ≤ r → decide (0 ≤ r) = c → IdxI w c (.returned (.int .i64 r)) w := fun r h1 h2 => ⟨r, rfl, h1, h2, rfl⟩
  have Hpost := Lib.hid hpost
  clear hpost
  go_enter Tryz.func221, Tryz.ntmps221
  go_wp2_with fail
  go_loop [8] (fun i => ∃ k : Nat, k ≤ len ∧ i = .int .i64 k ∧ Hid ((xs.take k).contains n = false)) (fun i => len - (RowKit.intOf i).toNat)
  case atStart => exact ⟨0, Nat.zero_le _, rfl, Lib.hid rfl⟩
  case round =>
    obtain ⟨k, hk, rfl, Hno⟩ := hrel
    by_cases hlt : k < len
    · obtain ⟨b, off, x, rfl, hbl, hx, x0⟩ := int_at hw hlt
      have hst := cont_take (n := n) hx
      have Hst := Lib.hid hst
      have hmem := List.mem_of_getElem? hx
      have Hmem := Lib.hid hmem
      clear hst hx hmem
      by_cases he : n = x
      · have h1 : (n == x) = true := by simpa using he
        have He := Lib.hid he
        clear he
        go_wp2_with fail
        go_ret
        exact Hpost.out (k : Int) (by omega) (by
          have := Hmem.out
          rw [← He.out] at this
          rw [← Hcn.out, show xs.contains n = true from by simpa using this]; simp)
      · have h1 : (n == x) = false := by simpa using he
        have H1 := Lib.hid h1
        clear he
        go_wp2_with fail
        exact ⟨⟨k + 1, by omega, by go_num, Lib.hid (by rw [Hst.out, Hno.out, H1.out]; rfl)⟩, by simp [RowKit.intOf]; omega⟩
    · obtain rfl : k = len := by omega
      go_wp2_with fail
      go_ret
      refine Hpost.out (-1) (by omega) ?_
      have := Hno.out
      rw [List.take_of_length_le (by rw [hlen.out]; exact Nat.le_refl _)] at this
      rw [← Hcn.out, this]; rfl
set_option maxHeartbeats 1000000 in
theorem contains_any (A : Option Addr) (len cap : Nat) (xs : List Int) (n : Int) (w : World) (hw : RowAt Icell 1 w w.heap.size A len xs) (hl : len ≤ 17592186044416) :
    Calls Tryz.prog 190 #[.slice A len cap, .int .i64 n] w fun e w' => e = .returned (.bool (xs.contains n)) ∧ w = w' := by
  have hi := index_any A len cap xs n w hw hl
  generalize xs.contains n = b at hi ⊢
  have Hi := Lib.hid hi
  clear hi hw
  go_enter Tryz.func190, Tryz.ntmps190
  go_wp2_with fail
  refine Hi.out.mono ?_
  rintro e w' ⟨r, rfl, hr1, hr2, rfl⟩
  have Hr2 := Lib.hid hr2
  clear hr2
  go_wp2_with fail
  go_ret
  exact ⟨ret_bool Hr2.out, rfl⟩
def DumpCEnd (w : World) (l : List Ver) (e : Ending) (w' : World) : Prop := ∃ v, e = .returned (.tuple #[v, .int .i64 0]) ∧ OwnV w' w.heap.size v l ∧ Below w.heap.size w w'
theorem dump_take {vs : List Ver} {u k : Nat} {x : Ver} {beyond : List Int} (h : (vs.drop u)[k]? = some x) :
    ((vs.drop u).take (k + 1)).filter (fun v => beyond.contains v.num) = ((vs.drop u).take k).filter (fun v => beyond.contains v.num) ++ if beyond.contains x.num then [x] else [] := by
  rw [List.take_add_one, h, List.filter_append]
  congr 1
  simp only [Option.toList_some, List.filter_cons, List.filter_nil]
set_option maxHeartbeats 8000000 in
theorem dumpc_any (A : Option Addr) (len cap : Nat) (vs : List Ver) (mark : Int) (Ab : Option Addr) (lb cb : Nat) (bs : List Int) (w : World) (hw : VsAt w w.heap.size A len vs) (hcap : len ≤ cap) (hl : len ≤ 65536) (hc : chkB vs = true)
    (hwb : RowAt Icell 1 w w.heap.size Ab lb bs) (hlb : lb ≤ 17592186044416) :
    Calls Tryz.prog 121 #[.slice A len cap, .int .i64 mark, .slice Ab lb cb] w (DumpCEnd w (dumpV vs mark bs)) := by
  have hasc := (chkB_iff.1 hc).2
  have hlen := Lib.hid hw.len
  have hlow : ∀ X, Below w.heap.size w X → VsAt X X.heap.size A len vs := fun X h => (hw.below h).more h.size
  have Hlow := Lib.hid hlow
  have hlowb : ∀ X, Below w.heap.size w X → RowAt Icell 1 X X.heap.size Ab lb bs := fun X h => (hwb.below h).more h.size
  have Hlowb := Lib.hid hlowb
  have hul := upto_le vs mark
  rw [hw.len] at hul
  have Hc := Lib.hid hc
  have Hasc := Lib.hid hasc
  have hup := upto_any A len cap vs mark
  have hat : atV vs mark = if upto vs mark = 0 then none else vs[upto vs mark - 1]? := rfl
  have hdv : dumpV vs mark bs = (match atV vs mark with | some v => if v.drop then [] else [v] | none => []) ++ (vs.drop (upto vs mark)).filter fun v => bs.contains v.num := rfl
  have Hup := Lib.hid hup
  obtain ⟨i0, hi, hz0, hz1, hz2⟩ := info_parts info_ver
  generalize hu : upto vs mark = u at *
  have Hat := Lib.hid hat
  have Hdv := Lib.hid hdv
  have Hul := Lib.hid hul
  clear hlow hasc hc hw hul hup hat hdv hu hlowb hwb
  go_enter Tryz.func121, Tryz.ntmps121
  go_wp2_with fail
  refine (chk_ok A len cap vs _ (Hlow.out _ (Below.refl _ _)) (by omega) Hc.out).mono ?_
  rintro e w1 ⟨rfl, hb1⟩
  have Hb1 := Lib.hid hb1
  clear hb1
  go_wp2_with fail
  refine (Hup.out _ (Hlow.out _ Hb1.out) (by omega) Hasc.out).mono ?_
  rintro e w2 ⟨rfl, hb2⟩
  have Hb2 := Lib.hid (Hb1.out.trans (hb2.mono Hb1.out.size))
  have hs2 := Hb2.out.size
  clear hb2
  have hul := Hul.out
  obtain ⟨pre, hpre⟩ : ∃ pre : List Ver, pre = (match atV vs mark with | some v => if v.drop then [] else [v] | none => []) := ⟨_, rfl⟩
  have Hdv2 : Hid (dumpV vs mark bs = pre ++ (vs.drop u).filter fun v => bs.contains v.num) := Lib.hid (by rw [hpre]; exact Hdv.out)
  have Hpre := Lib.hid hpre
  have hprel : pre.length ≤ 1 := by
    rw [hpre]
    split
    · split <;> simp
    · simp
  clear hpre
  have hnilE : ∀ X : World, X.ownsRow w2.heap.size 140 3 (.slice none 0 0) 0 [] := fun X => World.ownsRow_nil _ _ _ _
  have HnilE := Lib.hid hnilE
  clear hnilE
  rcases Nat.eq_zero_or_pos u with h0 | h0
  · have hp : pre = [] := by rw [Hpre.out, Hat.out, if_pos h0]
    have Hp := Lib.hid hp
    have d1 : decide ((0 : Int) < (u : Int)) = false := by simp; omega
    have d2 : decide (0 < u) = false := by simp; omega
    have d3 : ¬ (0 < u) := by omega
    have HO3 : Hid (OwnV w2 w2.heap.size (.slice none 0 0) pre) := Lib.hid (by rw [hp]; exact HnilE.out _)
    have HB3 : Hid (Below w2.heap.size w2 w2) := Lib.hid (Below.refl _ _)
    clear hp h0
    have hcu : u ≤ cap := by omega
    by_cases hck : cap = u
    · have hlu : len = u := by omega
      have Hlu := Lib.hid hlu
      have HF : Hid ((vs.drop u).filter (fun v => bs.contains v.num) = []) := Lib.hid (by rw [List.drop_eq_nil_of_le (by have := hlen.out; omega)]; rfl)
      have d9 : len - u = 0 := by omega
      clear hlu
      go_wp2_with fail
      go_loopw [9, 44] (fun v i wr => i = .int .i64 0 ∧ Hid (OwnV wr w2.heap.size v pre) ∧ Hid (Below w2.heap.size w2 wr)) (fun _ i _ => 0)
      case atStart => exact ⟨rfl, HO3, HB3⟩
      case round =>
        obtain ⟨rfl, HO, HB⟩ := hrel
        go_wp2_with fail
        go_ret2
        exact ⟨_, rfl, by rw [Hdv2.out, HF.out, List.append_nil]; exact ownsRow_base_a HO.out hs2, Hb2.out.trans (HB.out.mono hs2)⟩
    · have hrow : RowAt Ver.cells 3 w2 w2.heap.size (A.map (·.add (u * 3))) (len - u) (vs.drop u) := by
        have := (Hlow.out w2 Hb2.out).cut (k := u) (cap := cap) hul hcap
        rwa [if_neg hck] at this
      have Hrow := Lib.hid hrow
      have hdl : (vs.drop u).length = len - u := hrow.len
      have Hdl := Lib.hid hdl
      clear hrow hdl
      go_wp2_with fail
      go_loopw [9, 44] (fun v i wr => ∃ k : Nat, k ≤ len - u ∧ i = .int .i64 k ∧ Hid (OwnV wr w2.heap.size v (pre ++ ((vs.drop u).take k).filter fun v => bs.contains v.num)) ∧ Hid (Below w2.heap.size w2 wr)) (fun _ i _ => len - u - (RowKit.intOf i).toNat)
      case atStart => exact ⟨0, Nat.zero_le _, rfl, Lib.hid (by simpa using HO3.out), HB3⟩
      case round =>
        obtain ⟨k, hk, rfl, HO, HB⟩ := hrel
        have hsr := HB.out.size
        by_cases hlt : k < len - u
        · obtain ⟨b, off, x, hAx, hbl, hx, x0, x1, x2⟩ := VsAt.cell3 (Hrow.out.below HB.out) hlt
          have hst := dump_take (beyond := bs) hx
          have hfl : (((vs.drop u).take k).filter fun v => bs.contains v.num).length ≤ len := Nat.le_trans (List.length_filter_le _ _) (by rw [List.length_take]; omega)
          have hcon := contains_any Ab lb cb bs x.num
          have Hrb := Lib.hid (fun X hX => Hlowb.out X (Hb2.out.trans ((HB.out.trans hX).mono hs2) : Below w.heap.size w X))
          rw [hAx]
          generalize hcb : bs.contains x.num = c at hst hcon
          have Hcon := Lib.hid hcon
          have Hst := Lib.hid hst
          obtain ⟨num, val, drop⟩ := x
          simp only at x0 x1 x2 Hcon
          have HX : Hid (Below w2.heap.size w2 (wr.alloc (.cells #[.int .i64 num, .string val, .bool drop] 140))) := Lib.hid (HB.out.alloc hsr _)
          have hzx := blk_new wr (.cells #[.int .i64 num, .string val, .bool drop] 140)
          have HZx := Lib.hid hzx
          have HOx : Hid (OwnV (wr.alloc (.cells #[.int .i64 num, .string val, .bool drop] 140)) w2.heap.size _ _) := Lib.hid (HO.out.alloc _)
          clear hst hcon hx hcb hzx
          go_wp2_with fail
          refine (Hcon.out _ (Hlowb.out _ (Hb2.out.trans (HX.out.mono hs2))) hlb).mono ?_
          rintro e w9 ⟨rfl, rfl⟩
          cases c
          · go_wp2_with fail
            exact ⟨⟨k + 1, by omega, by go_num, Lib.hid (by rw [Hst.out]; simpa using HOx.out), HX⟩, by simp [RowKit.intOf]; omega⟩
          · have HO2x : Hid (OwnV ((wr.alloc (.cells #[.int .i64 num, .string val, .bool drop] 140)).alloc (.cells #[.int .i64 num, .string val, .bool drop] 140)) w2.heap.size _ _) := Lib.hid (HOx.out.alloc _)
            have hbk := blk_new2 wr (.cells #[.int .i64 num, .string val, .bool drop] 140) (.cells #[.int .i64 num, .string val, .bool drop] 140)
            have HBk := Lib.hid hbk
            have hple : (pre ++ ((vs.drop u).take k).filter fun v => bs.contains v.num).length ≤ len + 1 := by rw [List.length_append]; omega
            clear hbk
            go_wp2_with (at_builtin; refine wpList_append_row (cells := Ver.cells) rfl _ _ 130 rfl w2.heap.size 140 i0 (.agg #[.int .i64 0, .string ⟨#[]⟩, .bool false]) 3 32 Tryz.underlying130 hi hz0 hz1 hz2 rfl (by decide) _ _ _ rfl HO2x.out (some ⟨wr.heap.size + 1, 0, none⟩) 1 1 (wr.heap.size + 2) [⟨num, val, drop⟩] rfl (rowAt_block [⟨num, val, drop⟩] (len_ver _) HBk.out (by omega) (fun j u hu => by simpa [Ver.cells] using hu)) (fun h => by cases h) (fun _ _ => rfl) (fun y u hu => one_ver y u hu) (by unfold maxLen; omega) (by omega) (by simp; omega) ?_)
            intro v' w7 hown7 hg7
            have HO7 := Lib.hid hown7
            have HB7 : Hid (Below w2.heap.size w2 w7) := Lib.hid ((HX.out.alloc (by simp; omega) _).trans (below_grown_own HO2x.out hg7 (by simp; omega)))
            clear hown7 hg7
            go_wp2_with fail
            exact ⟨⟨k + 1, by omega, by go_num, Lib.hid (by
              have := HO7.out
              unfold OwnV
              have e := Hst.out
              simp only [if_true] at e
              rw [e, ← List.append_assoc, List.length_append, List.flatMap_append]
              simpa using this), HB7⟩, by simp [RowKit.intOf]; omega⟩
        · obtain rfl : k = len - u := by omega
          have hO := HO.out
          rw [List.take_of_length_le (by rw [Hdl.out]; exact Nat.le_refl _), ← Hdv2.out] at hO
          have HO9 := Lib.hid hO
          clear hO
          go_wp2_with fail
          go_ret2
          exact ⟨_, rfl, ownsRow_base_a HO9.out hs2, Hb2.out.trans (HB.out.mono hs2)⟩
  · have hlt : u - 1 < len := by omega
    obtain ⟨b, off, y, hAe, hbl, hy, y0, y1, y2⟩ := VsAt.cell3 (Hlow.out w2 Hb2.out) hlt
    subst hAe
    have d1 : decide ((0 : Int) < (u : Int)) = true := by simp; omega
    have d2 : decide (0 < u) = true := by simp; omega
    have d3 : (0 : Int) ≤ (u : Int) - 1 := by omega
    have d4 : (1 : Int) ≤ (u : Int) := by omega
    have d5 : ((u : Int) - 1).toNat = u - 1 := by omega
    have d6 : (u : Int) - 1 < (len : Int) := by omega
    have d7 : (u : Int) ≤ (len : Int) := by omega
    have ha : atV vs mark = some y := by rw [Hat.out, if_neg (by omega)]; exact hy
    have hp : pre = if y.drop then [] else [y] := by rw [Hpre.out, ha]
    have Hp := Lib.hid hp
    obtain ⟨num, val, drop⟩ := y
    simp only at y0 y1 y2 Hp
    clear hy ha hp
    cases drop
    · go_wp2_with (at_builtin; refine wpList_append_row (cells := Ver.cells) rfl _ _ 130 rfl w2.heap.size 140 i0 (.agg #[.int .i64 0, .string ⟨#[]⟩, .bool false]) 3 32 Tryz.underlying130 hi hz0 hz1 hz2 rfl (by decide) _ 0 [] rfl (HnilE.out _) (some ⟨w2.heap.size, 0, none⟩) 1 1 (w2.heap.size + 1) [⟨num, val, false⟩] rfl (rowAt_block [⟨num, val, false⟩] (len_ver _) (blk_new w2 (.cells #[.int .i64 num, .string val, .bool false] 140)) (by simp) (fun j u hu => by simpa [Ver.cells] using hu)) (fun h => by cases h) (fun _ _ => rfl) (fun y u hu => one_ver y u hu) (by unfold maxLen; omega) (by omega) (by simp) ?_)
      intro v' w5 hown5 hg5
      have HO3 : Hid (OwnV w5 w2.heap.size v' pre) := Lib.hid (by rw [Hp.out]; unfold OwnV; simpa using hown5)
      have HB3 : Hid (Below w2.heap.size w2 w5) := Lib.hid ((bel_alloc (Below.refl _ _) _).trans (below_grown_own (HnilE.out _) hg5 (by simp)))
      clear hown5 hg5 y0 y1 y2
      have hcu : u ≤ cap := by omega
      by_cases hck : cap = u
      · have hlu : len = u := by omega
        have Hlu := Lib.hid hlu
        have HF : Hid ((vs.drop u).filter (fun v => bs.contains v.num) = []) := Lib.hid (by rw [List.drop_eq_nil_of_le (by have := hlen.out; omega)]; rfl)
        have d9 : len - u = 0 := by omega
        clear hlu
        go_wp2_with fail
        go_loopw [9, 44] (fun v i wr => i = .int .i64 0 ∧ Hid (OwnV wr w2.heap.size v pre) ∧ Hid (Below w2.heap.size w2 wr)) (fun _ i _ => 0)
        case atStart => exact ⟨rfl, HO3, HB3⟩
        case round =>
          obtain ⟨rfl, HO, HB⟩ := hrel
          go_wp2_with fail
          go_ret2
          exact ⟨_, rfl, by rw [Hdv2.out, HF.out, List.append_nil]; exact ownsRow_base_a HO.out hs2, Hb2.out.trans (HB.out.mono hs2)⟩
      · have hrow : RowAt Ver.cells 3 w2 w2.heap.size ((some ⟨b, off, none⟩ : Option Addr).map (·.add (u * 3))) (len - u) (vs.drop u) := by
          have := (Hlow.out w2 Hb2.out).cut (k := u) (cap := cap) hul hcap
          rwa [if_neg hck] at this
        have Hrow := Lib.hid hrow
        have hdl : (vs.drop u).length = len - u := hrow.len
        have Hdl := Lib.hid hdl
        clear hrow hdl
        go_wp2_with fail
        go_loopw [9, 44] (fun v i wr => ∃ k : Nat, k ≤ len - u ∧ i = .int .i64 k ∧ Hid (OwnV wr w2.heap.size v (pre ++ ((vs.drop u).take k).filter fun v => bs.contains v.num)) ∧ Hid (Below w2.heap.size w2 wr)) (fun _ i _ => len - u - (RowKit.intOf i).toNat)
        case atStart => exact ⟨0, Nat.zero_le _, rfl, Lib.hid (by simpa using HO3.out), HB3⟩
        case round =>
          obtain ⟨k, hk, rfl, HO, HB⟩ := hrel
          have hsr := HB.out.size
          by_cases hlt : k < len - u
          · obtain ⟨b, off, x, hAx, hbl, hx, x0, x1, x2⟩ := VsAt.cell3 (Hrow.out.below HB.out) hlt
            have hst := dump_take (beyond := bs) hx
            have hfl : (((vs.drop u).take k).filter fun v => bs.contains v.num).length ≤ len := Nat.le_trans (List.length_filter_le _ _) (by rw [List.length_take]; omega)
            have hcon := contains_any Ab lb cb bs x.num
            have Hrb := Lib.hid (fun X hX => Hlowb.out X (Hb2.out.trans ((HB.out.trans hX).mono hs2) : Below w.heap.size w X))
            simp only [Option.map_some, Addr.add_lit, Option.some.injEq, Addr.mk.injEq, and_true] at hAx
            obtain ⟨rfl, rfl⟩ := hAx
            generalize hcb : bs.contains x.num = c at hst hcon
            have Hcon := Lib.hid hcon
            have Hst := Lib.hid hst
            obtain ⟨num, val, drop⟩ := x
            simp only at x0 x1 x2 Hcon
            have HX : Hid (Below w2.heap.size w2 (wr.alloc (.cells #[.int .i64 num, .string val, .bool drop] 140))) := Lib.hid (HB.out.alloc hsr _)
            have hzx := blk_new wr (.cells #[.int .i64 num, .string val, .bool drop] 140)
            have HZx := Lib.hid hzx
            have HOx : Hid (OwnV (wr.alloc (.cells #[.int .i64 num, .string val, .bool drop] 140)) w2.heap.size _ _) := Lib.hid (HO.out.alloc _)
            clear hst hcon hx hcb hzx
            go_wp2_with fail
            refine (Hcon.out _ (Hlowb.out _ (Hb2.out.trans (HX.out.mono hs2))) hlb).mono ?_
            rintro e w9 ⟨rfl, rfl⟩
            cases c
            · go_wp2_with fail
              exact ⟨⟨k + 1, by omega, by go_num, Lib.hid (by rw [Hst.out]; simpa using HOx.out), HX⟩, by simp [RowKit.intOf]; omega⟩
            · have HO2x : Hid (OwnV ((wr.alloc (.cells #[.int .i64 num, .string val, .bool drop] 140)).alloc (.cells #[.int .i64 num, .string val, .bool drop] 140)) w2.heap.size _ _) := Lib.hid (HOx.out.alloc _)
              have hbk := blk_new2 wr (.cells #[.int .i64 num, .string val, .bool drop] 140) (.cells #[.int .i64 num, .string val, .bool drop] 140)
              have HBk := Lib.hid hbk
              have hple : (pre ++ ((vs.drop u).take k).filter fun v => bs.contains v.num).length ≤ len + 1 := by rw [List.length_append]; omega
              clear hbk
              go_wp2_with (at_builtin; refine wpList_append_row (cells := Ver.cells) rfl _ _ 130 rfl w2.heap.size 140 i0 (.agg #[.int .i64 0, .string ⟨#[]⟩, .bool false]) 3 32 Tryz.underlying130 hi hz0 hz1 hz2 rfl (by decide) _ _ _ rfl HO2x.out (some ⟨wr.heap.size + 1, 0, none⟩) 1 1 (wr.heap.size + 2) [⟨num, val, drop⟩] rfl (rowAt_block [⟨num, val, drop⟩] (len_ver _) HBk.out (by omega) (fun j u hu => by simpa [Ver.cells] using hu)) (fun h => by cases h) (fun _ _ => rfl) (fun y u hu => one_ver y u hu) (by unfold maxLen; omega) (by omega) (by simp; omega) ?_)
              intro v' w7 hown7 hg7
              have HO7 := Lib.hid hown7
              have HB7 : Hid (Below w2.heap.size w2 w7) := Lib.hid ((HX.out.alloc (by simp; omega) _).trans (below_grown_own HO2x.out hg7 (by simp; omega)))
              clear hown7 hg7
              go_wp2_with fail
              exact ⟨⟨k + 1, by omega, by go_num, Lib.hid (by
                have := HO7.out
                unfold OwnV
                have e := Hst.out
                simp only [if_true] at e
                rw [e, ← List.append_assoc, List.length_append, List.flatMap_append]
                simpa using this), HB7⟩, by simp [RowKit.intOf]; omega⟩
          · obtain rfl : k = len - u := by omega
            have hO := HO.out
            rw [List.take_of_length_le (by rw [Hdl.out]; exact Nat.le_refl _), ← Hdv2.out] at hO
            have HO9 := Lib.hid hO
            clear hO
            go_wp2_with fail
            go_ret2
            exact ⟨_, rfl, ownsRow_base_a HO9.out hs2, Hb2.out.trans (HB.out.mono hs2)⟩
    · have HO3 : Hid (OwnV w2 w2.heap.size (.slice none 0 0) pre) := Lib.hid (by rw [Hp.out]; exact HnilE.out _)
      have HB3 : Hid (Below w2.heap.size w2 w2) := Lib.hid (Below.refl _ _)
      have hcu : u ≤ cap := by omega
      by_cases hck : cap = u
      · have hlu : len = u := by omega
        have Hlu := Lib.hid hlu
        have HF : Hid ((vs.drop u).filter (fun v => bs.contains v.num) = []) := Lib.hid (by rw [List.drop_eq_nil_of_le (by have := hlen.out; omega)]; rfl)
        have d9 : len - u = 0 := by omega
        clear hlu
        go_wp2_with fail
        go_loopw [9, 44] (fun v i wr => i = .int .i64 0 ∧ Hid (OwnV wr w2.heap.size v pre) ∧ Hid (Below w2.heap.size w2 wr)) (fun _ i _ => 0)
        case atStart => exact ⟨rfl, HO3, HB3⟩
        case round =>
          obtain ⟨rfl, HO, HB⟩ := hrel
          go_wp2_with fail
          go_ret2
          exact ⟨_, rfl, by rw [Hdv2.out, HF.out, List.append_nil]; exact ownsRow_base_a HO.out hs2, Hb2.out.trans (HB.out.mono hs2)⟩
      · have hrow : RowAt Ver.cells 3 w2 w2.heap.size ((some ⟨b, off, none⟩ : Option Addr).map (·.add (u * 3))) (len - u) (vs.drop u) := by
          have := (Hlow.out w2 Hb2.out).cut (k := u) (cap := cap) hul hcap
          rwa [if_neg hck] at this
        have Hrow := Lib.hid hrow
        have hdl : (vs.drop u).length = len - u := hrow.len
        have Hdl := Lib.hid hdl
        clear hrow hdl
        go_wp2_with fail
        go_loopw [9, 44] (fun v i wr => ∃ k : Nat, k ≤ len - u ∧ i = .int .i64 k ∧ Hid (OwnV wr w2.heap.size v (pre ++ ((vs.drop u).take k).filter fun v => bs.contains v.num)) ∧ Hid (Below w2.heap.size w2 wr)) (fun _ i _ => len - u - (RowKit.intOf i).toNat)
        case atStart => exact ⟨0, Nat.zero_le _, rfl, Lib.hid (by simpa using HO3.out), HB3⟩
        case round =>
          obtain ⟨k, hk, rfl, HO, HB⟩ := hrel
          have hsr := HB.out.size
          by_cases hlt : k < len - u
          · obtain ⟨b, off, x, hAx, hbl, hx, x0, x1, x2⟩ := VsAt.cell3 (Hrow.out.below HB.out) hlt
            have hst := dump_take (beyond := bs) hx
            have hfl : (((vs.drop u).take k).filter fun v => bs.contains v.num).length ≤ len := Nat.le_trans (List.length_filter_le _ _) (by rw [List.length_take]; omega)
            have hcon := contains_any Ab lb cb bs x.num
            have Hrb := Lib.hid (fun X hX => Hlowb.out X (Hb2.out.trans ((HB.out.trans hX).mono hs2) : Below w.heap.size w X))
            simp only [Option.map_some, Addr.add_lit, Option.some.injEq, Addr.mk.injEq, and_true] at hAx
            obtain ⟨rfl, rfl⟩ := hAx
            generalize hcb : bs.contains x.num = c at hst hcon
            have Hcon := Lib.hid hcon
            have Hst := Lib.hid hst
            obtain ⟨num, val, drop⟩ := x
            simp only at x0 x1 x2 Hcon
            have HX : Hid (Below w2.heap.size w2 (wr.alloc (.cells #[.int .i64 num, .string val, .bool drop] 140))) := Lib.hid (HB.out.alloc hsr _)
            have hzx := blk_new wr (.cells #[.int .i64 num, .string val, .bool drop] 140)
            have HZx := Lib.hid hzx
            have HOx : Hid (OwnV (wr.alloc (.cells #[.int .i64 num, .string val, .bool drop] 140)) w2.heap.size _ _) := Lib.hid (HO.out.alloc _)
            clear hst hcon hx hcb hzx
            go_wp2_with fail
            refine (Hcon.out _ (Hlowb.out _ (Hb2.out.trans (HX.out.mono hs2))) hlb).mono ?_
            rintro e w9 ⟨rfl, rfl⟩
            cases c
            · go_wp2_with fail
              exact ⟨⟨k + 1, by omega, by go_num, Lib.hid (by rw [Hst.out]; simpa using HOx.out), HX⟩, by simp [RowKit.intOf]; omega⟩
            · have HO2x : Hid (OwnV ((wr.alloc (.cells #[.int .i64 num, .string val, .bool drop] 140)).alloc (.cells #[.int .i64 num, .string val, .bool drop] 140)) w2.heap.size _ _) := Lib.hid (HOx.out.alloc _)
              have hbk := blk_new2 wr (.cells #[.int .i64 num, .string val, .bool drop] 140) (.cells #[.int .i64 num, .string val, .bool drop] 140)
              have HBk := Lib.hid hbk
              have hple : (pre ++ ((vs.drop u).take k).filter fun v => bs.contains v.num).length ≤ len + 1 := by rw [List.length_append]; omega
              clear hbk
              go_wp2_with (at_builtin; refine wpList_append_row (cells := Ver.cells) rfl _ _ 130 rfl w2.heap.size 140 i0 (.agg #[.int .i64 0, .string ⟨#[]⟩, .bool false]) 3 32 Tryz.underlying130 hi hz0 hz1 hz2 rfl (by decide) _ _ _ rfl HO2x.out (some ⟨wr.heap.size + 1, 0, none⟩) 1 1 (wr.heap.size + 2) [⟨num, val, drop⟩] rfl (rowAt_block [⟨num, val, drop⟩] (len_ver _) HBk.out (by omega) (fun j u hu => by simpa [Ver.cells] using hu)) (fun h => by cases h) (fun _ _ => rfl) (fun y u hu => one_ver y u hu) (by unfold maxLen; omega) (by omega) (by simp; omega) ?_)
              intro v' w7 hown7 hg7
              have HO7 := Lib.hid hown7
              have HB7 : Hid (Below w2.heap.size w2 w7) := Lib.hid ((HX.out.alloc (by simp; omega) _).trans (below_grown_own HO2x.out hg7 (by simp; omega)))
              clear hown7 hg7
              go_wp2_with fail
              exact ⟨⟨k + 1, by omega, by go_num, Lib.hid (by
                have := HO7.out
                unfold OwnV
                have e := Hst.out
                simp only [if_true] at e
                rw [e, ← List.append_assoc, List.length_append, List.flatMap_append]
                simpa using this), HB7⟩, by simp [RowKit.intOf]; omega⟩
          · obtain rfl : k = len - u := by omega
            have hO := HO.out
            rw [List.take_of_length_le (by rw [Hdl.out]; exact Nat.le_refl _), ← Hdv2.out] at hO
            have HO9 := Lib.hid hO
            clear hO
            go_wp2_with fail
            go_ret2
            exact ⟨_, rfl, ownsRow_base_a HO9.out hs2, Hb2.out.trans (HB.out.mono hs2)⟩
end Go.Proofs.YtafghiekpgjniaaGreatDoor

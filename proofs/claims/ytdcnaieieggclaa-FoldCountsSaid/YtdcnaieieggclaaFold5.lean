/- Lemmas and contracts of functions that a statement of this seat stands on; each holds under the premises typed in its head. -/
import Derived.Test.YtdcnaieieggclaaFold4
import Derived.Test.YtdcnaieieggclaaTwI
namespace Go.Proofs.Ytdcnaieieggclaa
open Go.RowKit
set_option linter.unusedVariables false
set_option linter.unusedSimpArgs false

open Go.Maps
def wsOf (rs : List RTx) (p : Nat) : List Wr := ((rs[p]?).map RTx.ws).getD []
def pairB (rs : List RTx) (q p : Nat) : Bool := neighB (wsOf rs q) (wsOf rs p)
/-- The places to which a chain leads from a, behind t steps. -/
def reachL (rs : List RTx) (a : Nat) : Nat → List Nat
  | 0 => [a]
  | t + 1 => if (reachL rs a t).any (fun q => pairB rs q (a + 1 + t)) = true then reachL rs a t ++ [a + 1 + t] else reachL rs a t
theorem reachL_bd (rs : List RTx) (a : Nat) : ∀ t, ∀ q ∈ reachL rs a t, a ≤ q ∧ q ≤ a + t
  | 0, q, h => by simp [reachL] at h; omega
  | t + 1, q, h => by
    rw [reachL] at h
    split at h
    · rcases List.mem_append.1 h with h | h
      · have := reachL_bd rs a t q h; omega
      · simp at h; omega
    · have := reachL_bd rs a t q h; omega
theorem reachL_len (rs : List RTx) (a : Nat) : ∀ t, 1 ≤ (reachL rs a t).length ∧ (reachL rs a t).length ≤ t + 1
  | 0 => by simp [reachL]
  | t + 1 => by
    have := reachL_len rs a t
    rw [reachL]
    split
    · simp; omega
    · omega
def placeI (q : Nat) : Int := (q : Int) + 1
abbrev Pcell (q : Nat) : List Value := [.int .i64 ((q : Int) + 1)]
theorem len_p (l : List Nat) : ∀ x ∈ l, (Pcell x).length = 1 := fun _ _ => rfl
theorem one_p (x : Nat) : ∀ (u : Value), u ∈ Pcell x → u.oneCell' = true := by
  intro u hu; simp only [Pcell, List.mem_cons, List.not_mem_nil, or_false] at hu; rw [hu]; rfl

theorem rchained_err (A : Option Addr) (len cap : Nat) (rs : List RTx) (i j : Int) (w : World) (hw : TxsAt w w.heap.size A len rs) (hl : len ≤ 4398046511104) (he : logErr rs 1 ≠ 0) :
    Calls Try.prog 16 #[.slice A len cap, .int .i64 i, .int .i64 j] w fun e w' => e = .returned (.tuple #[.bool false, .int .i64 (logErr rs 1)]) ∧ Below w.heap.size w w' := by
  have hne : (logErr rs 1 != 0) = true := by simpa using he
  go_enter Try.func16, Try.ntmps16
  go_wp2_with fail
  refine (ref07check_any A len cap rs _ hw hl).mono ?_
  rintro e w1 ⟨rfl, hb1⟩
  go_wp2_with fail
  go_ret2
  exact ⟨rfl, hb1⟩
theorem rchained_arg (A : Option Addr) (len cap : Nat) (rs : List RTx) (i j : Int) (w : World) (hw : TxsAt w w.heap.size A len rs) (hl : len ≤ 4398046511104) (he : logErr rs 1 = 0) (ha : i < 1 ∨ j ≤ i ∨ (len : Int) < j) :
    Calls Try.prog 16 #[.slice A len cap, .int .i64 i, .int .i64 j] w fun e w' => e = .returned (.tuple #[.bool false, .int .i64 1]) ∧ Below w.heap.size w w' := by
  have He := Lib.hid he
  clear he
  by_cases h1 : i < 1 <;> by_cases h2 : j ≤ i <;> by_cases h3 : (len : Int) < j
  all_goals first
    | (exfalso; omega)
    | (go_enter Try.func16, Try.ntmps16
       go_wp2_with fail
       refine (ref07check_any A len cap rs _ hw hl).mono ?_
       rintro e w1 ⟨rfl, hb1⟩
       rw [He.out]
       go_wp2_with fail
       go_ret2
       exact ⟨rfl, hb1⟩)

set_option maxHeartbeats 2000000 in
set_option maxRecDepth 4000 in
theorem rchained_good (A : Option Addr) (len cap : Nat) (rs : List RTx) (a b : Nat) (w : World) (hw : TxsAt w w.heap.size A len rs) (hl : len ≤ 4398046511104) (he : logErr rs 1 = 0) (hab : a < b) (hbl : b < len) :
    Calls Try.prog 16 #[.slice A len cap, .int .i64 ((a : Int) + 1), .int .i64 ((b : Int) + 1)] w fun e w' => e = .returned (.tuple #[.bool (decide ((reachL rs a (b - a)).getLast? = some b)), .int .i64 0]) ∧ Below w.heap.size w w' := by
  have hl6 : len ≤ 65536 := by have h1 := logErr_le he; have h2 := hw.1.len; omega
  have He := Lib.hid he
  clear he
  obtain ⟨i0, hi, hz0, hz1, hz2⟩ := info_parts info_int
  have hd1 : decide ((a : Int) + 1 < 1) = false := by rw [decide_eq_false_iff_not]; omega
  have hd2 : decide (b ≤ a) = false := by rw [decide_eq_false_iff_not]; omega
  have hd3 : decide ((len : Int) < (b : Int) + 1) = false := by rw [decide_eq_false_iff_not]; omega
  go_enter Try.func16, Try.ntmps16
  go_wp2_with fail
  refine (ref07check_any A len cap rs _ hw hl).mono ?_
  rintro e w1 ⟨rfl, hb1⟩
  rw [He.out]
  have hs1 := hb1.size
  have Hb1 := Lib.hid hb1
  clear hb1
  go_wp2_with fail
  have hown0 : (w1.alloc (.cells #[.int .i64 ((a : Int) + 1)] 3)).ownsRow w1.heap.size 3 1 (.slice (some ⟨w1.heap.size, 0, none⟩) 1 1) (reachL rs a 0).length ((reachL rs a 0).flatMap Pcell) :=
    ⟨by simp [reachL, Pcell], Or.inr ⟨w1.heap.size, 1, _, rfl, Nat.le_refl _, blk_new _ _, by simp [reachL], by simp [maxLen], by simp, by simp [reachL, Pcell]⟩⟩
  go_loopw [9, 10] (fun v n wr => ∃ t p : Nat, p = a + 1 + t ∧ p ≤ b + 1 ∧ n = .int .i64 ((p : Int) + 1) ∧ wr.ownsRow w1.heap.size 3 1 v (reachL rs a t).length ((reachL rs a t).flatMap Pcell) ∧ Below w1.heap.size w1 wr) (fun _ n _ => b + 2 - (intOf n).toNat)
  case atStart => exact ⟨0, a + 1, by omega, by omega, by go_num, hown0, (Below.refl _ _).alloc (Nat.le_refl _) _⟩
  case round =>
    obtain ⟨t, p, hp, hpb, rfl, hown, hb⟩ := hrel
    obtain ⟨wo, hwo⟩ : ∃ wo : World, wo = wr := ⟨_, rfl⟩
    subst hwo
    have hz := hb.size
    have hbw : Below w.heap.size w wo := Hb1.out.trans (hb.mono hs1)
    have hr := hw.below hbw
    obtain ⟨hn1, hn2⟩ := reachL_len rs a t
    have hbd := reachL_bd rs a t
    obtain ⟨L, hL⟩ : ∃ L, L = reachL rs a t := ⟨_, rfl⟩
    rw [← hL] at hown hn1 hn2 hbd
    obtain ⟨Ar, capr, rfl, hrow, -, hcapr⟩ := rowAt_own (len_p _) hown
    have HL := Lib.hid hL
    have Hown := Lib.hid hown
    have Hb := Lib.hid hb
    have Hbw := Lib.hid hbw
    have Hp := Lib.hid hp
    have Hbd := Lib.hid hbd
    have Hrow := Lib.hid hrow
    clear hL hown hb hbw hbd hrow
    by_cases hlt : p ≤ b
    · obtain ⟨bb, off, rp, rfl, hbl2, hx, x0, x1, hws, hrl⟩ := hr.cell2 (show p < len by omega)
      have hwp : wsOf rs p = rp.ws := by simp [wsOf, hx]
      have Hwp := Lib.hid hwp
      have Hx := Lib.hid hx
      clear hx hr hws hwp hp
      have hdec : decide (b < p) = false := by rw [decide_eq_false_iff_not]; omega
      go_wp2_with fail
      go_loopw [9, 11] (fun v i wi => ∃ kn : Nat, kn ≤ L.length ∧ i = .int .i64 kn ∧ v = .slice Ar L.length capr ∧ (L.take kn).any (fun q => pairB rs q p) = false ∧ Below wo.heap.size wo wi) (fun _ i _ => L.length - (intOf i).toNat)
      case atStart => exact ⟨0, Nat.zero_le _, rfl, rfl, rfl, Below.refl _ _⟩
      case round =>
        obtain ⟨kn, hkn, rfl, rfl, hany, hbi⟩ := hrel
        have hbiw : Below w.heap.size w wr := Hbw.out.trans (hbi.mono (by omega))
        have hri := hw.below hbiw
        have hrowi := Hrow.out.below hbi
        have hszi := hbi.size
        have z0 := (hbi.cell (p := ⟨bb, off + p * 2, none⟩) (by show bb < _; omega)).trans x0
        have z1 := (hbi.cell (p := ⟨bb, off + p * 2 + 1, none⟩) (by show bb < _; omega)).trans x1
        have hwsp := (hri.2 rp)
        have Hany := Lib.hid hany
        have Hbi := Lib.hid hbi
        have Hbiw := Lib.hid hbiw
        clear hany hbi hbiw hwsp
        by_cases hk2 : kn < L.length
        · obtain ⟨br, offr, q, hAr, hblr, hq, hqc⟩ := hrowi.at_ hk2
          have q0 := hqc 0 _ rfl
          simp only [Nat.mul_one, Nat.add_zero] at q0
          obtain ⟨hq1, hq2⟩ := Hbd.out q (List.mem_of_getElem? hq)
          have Hq := Lib.hid hq
          subst hAr
          have hql : q < len := by have := Hp.out; omega
          have hpl : p < len := by omega
          have htl : t ≤ len := by have := Hp.out; omega
          have hwq1 : IntKind.i64.wrap (q : Int) = q := (by rw [IntKind.wrap_i64]; omega)
          have hwp1 : IntKind.i64.wrap (p : Int) = p := (by rw [IntKind.wrap_i64]; omega)
          have hq0 : (0 : Int) ≤ (q : Int) := by omega
          have hp0 : (0 : Int) ≤ (p : Int) := by omega
          have hqI : (q : Int) < (len : Int) := by omega
          have hpI : (p : Int) < (len : Int) := by omega
          obtain ⟨b2, off2, rq, e2, hblq, hxq, y0, y1, hwsq, hrlq⟩ := hri.cell2 hql
          simp only [Option.some.injEq, Addr.mk.injEq, and_true] at e2
          obtain ⟨rfl, rfl⟩ := e2
          have hwsp := hri.2 rp (List.mem_of_getElem? Hx.out)
          have hpair : pairB rs q p = neighB rq.ws rp.ws := by unfold pairB; rw [Hwp.out]; simp [wsOf, hxq]
          have hwq : WsAt wr.drew wr.drew.heap.size rq.A rq.len rq.ws := hwsq.more (by have := Hbiw.out.size; exact this)
          have hwp2 : WsAt wr.drew wr.drew.heap.size rp.A rp.len rp.ws := hwsp.1.more (by have := Hbiw.out.size; exact this)
          have Hpair := Lib.hid hpair
          have Hwq := Lib.hid hwq
          have Hwp2 := Lib.hid hwp2
          have hzi2 : w.heap.size ≤ wr.heap.size := Hbiw.out.size
          clear hq hqc hxq hwsq hwsp hpair hwq hwp2 hrowi hri
          go_wp2_with fail
          go_region_held3 (fun w' => w'.cell? ⟨br, offr + kn, none⟩ = some (.int .i64 ((q : Int) + 1)) ∧ w'.cell? ⟨bb, off + q * 2, none⟩ = some (.int .i64 rq.number) ∧ w'.cell? ⟨bb, off + q * 2 + 1, none⟩ = some (.slice rq.A rq.len rq.cap) ∧ w'.cell? ⟨bb, off + p * 2, none⟩ = some (.int .i64 rp.number) ∧ w'.cell? ⟨bb, off + p * 2 + 1, none⟩ = some (.slice rp.A rp.len rp.cap))
            (first | exact ⟨q0, y0, y1, z0, z1⟩ | exact ⟨g1, g2, g3, g4, g5⟩)
            (first | (go_at_call 46; refine (neigh_any rq.number rq.A rq.len rq.cap rq.ws rp.number rp.A rp.len rp.cap rp.ws wr.drew Hwq.out Hwp2.out (by omega) (by omega)).mono ?_; rintro e w2 ⟨rfl, hb2⟩; have hbx : Below wr.heap.size wr w2 := (Below.refl _ _).drew.trans hb2; have Hbx := Lib.hid hbx; have g1 := (hbx.cell (p := ⟨br, offr + kn, none⟩) (by show br < _; omega)).trans q0; have g2 := (hbx.cell (p := ⟨bb, off + q * 2, none⟩) (by show bb < _; omega)).trans y0; have g3 := (hbx.cell (p := ⟨bb, off + q * 2 + 1, none⟩) (by show bb < _; omega)).trans y1; have g4 := (hbx.cell (p := ⟨bb, off + p * 2, none⟩) (by show bb < _; omega)).trans z0; have g5 := (hbx.cell (p := ⟨bb, off + p * 2 + 1, none⟩) (by show bb < _; omega)).trans z1; clear hb2 hbx))
          clear hwq1 hwp1 hq0 hp0 hqI hpI
          rw [← Hpair.out]
          have hb2 : Below wo.heap.size wo w2 := Hbi.out.trans (Hbx.out.mono hszi)
          have Hb2 := Lib.hid hb2
          have hsz2 := hb2.size
          clear hb2
          cases hc : pairB rs q p
          · have Hc := Lib.hid hc
            clear hc
            go_wp2_with fail
            exact ⟨⟨kn + 1, by omega, by go_num, rfl, by rw [any_take_succ Hq.out, Hany.out, Hc.out]; rfl, Hb2.out⟩, by simp [intOf]; omega⟩
          · have Hc := Lib.hid hc
            clear hc
            have hown2 := ownsRow_below Hown.out Hb2.out
            go_wp2_with (at_builtin; refine wpList_append_own _ rfl _ _ 62 rfl w1.heap.size 3 i0 _ 1 8 Try.underlying62 hi hz0 hz1 hz2 rfl (by decide) _ _ _ rfl (hown2.alloc _) ⟨w2.heap.size, 0, none⟩ 1 1 (Pcell p) rfl rfl ?c1 ?c2 ?c3 ?c4 ?c5 ?_)
            case c1 => exact cells_new _ _ _
            case c2 => exact one_p p
            case c3 => simp only [maxLen]; omega
            case c4 => omega
            case c5 => simp; omega
            intro v' w' hown' hg' hn'
            have hbl2 := below_grown_new hown2 hg' (by omega)
            have Hn := Lib.hid hn'
            clear hn' hg' hown2
            go_wp2_with fail
            refine ⟨⟨t + 1, p + 1, by have := Hp.out; omega, by omega, by go_num, ?_, (Hb.out.trans (Hb2.out.mono hz)).trans (hbl2.mono (by omega))⟩, by simp [intOf]; omega⟩
            have h1 : reachL rs a (t + 1) = L ++ [p] := by
              rw [reachL, ← HL.out, ← Hp.out, if_pos (List.any_eq_true.2 ⟨q, List.mem_of_getElem? Hq.out, Hc.out⟩)]
            rw [h1]
            simpa using hown'
        · obtain rfl : kn = L.length := by omega
          have hno : L.any (fun q => pairB rs q p) = false := by have := Hany.out; rwa [List.take_of_length_le (Nat.le_refl _)] at this
          have Hno := Lib.hid hno
          clear hno hri hrowi
          go_wp2_with fail
          refine ⟨⟨t + 1, p + 1, by have := Hp.out; omega, by omega, by go_num, ?_, Hb.out.trans (Hbi.out.mono hz)⟩, by simp [intOf]; omega⟩
          have h1 : reachL rs a (t + 1) = L := by
            rw [reachL, ← HL.out, ← Hp.out, if_neg (by rw [Hno.out]; simp)]
          rw [h1]
          exact ownsRow_below Hown.out Hbi.out
    · obtain rfl : p = b + 1 := by omega
      have hlast : ∃ z, L.getLast? = some z := by
        cases L with
        | nil => simp at hn1
        | cons x r => exact ⟨_, List.getLast?_cons ..⟩
      obtain ⟨z, hzl⟩ := hlast
      have hzi : L[L.length - 1]? = some z := by rw [← List.getLast?_eq_getElem?]; exact hzl
      obtain ⟨br, offr, q, hAr, hblr, hq, hqc⟩ := Hrow.out.at_ (show L.length - 1 < L.length by omega)
      have hqz : q = z := by rw [hq] at hzi; injection hzi
      subst hqz
      have q0 := hqc 0 _ rfl
      simp only [Nat.mul_one, Nat.add_zero] at q0
      subst hAr
      obtain ⟨M, hM⟩ : ∃ M, L.length = M + 1 := ⟨L.length - 1, by omega⟩
      have hM6 : M ≤ 65536 := by have := Hp.out; omega
      rw [hM] at q0 ⊢
      simp only [Nat.add_sub_cancel] at q0
      have hfin : Value.bool ((q : Int) + 1 == (b : Int) + 1) = .bool (decide ((reachL rs a (b - a)).getLast? = some b)) := by
        rw [show b - a = t from by have := Hp.out; omega, ← HL.out, hzl]
        congr 1
        by_cases hqb : q = b
        · rw [hqb]; exact (beq_self_eq_true _).trans (decide_eq_true rfl).symm
        · have h1 : ((q : Int) + 1 == (b : Int) + 1) = false := by rw [beq_eq_false_iff_ne]; omega
          rw [h1]; simp [hqb]
      have Hfin := Lib.hid hfin
      clear hfin hzl hzi hq hqc hr hp hM hn1 hn2 hcapr
      go_wp2_with fail
      go_ret2
      exact ⟨congrArg (fun x => Ending.returned (.tuple #[x, .int .i64 0])) Hfin.out, Hbw.out⟩
end Go.Proofs.Ytdcnaieieggclaa

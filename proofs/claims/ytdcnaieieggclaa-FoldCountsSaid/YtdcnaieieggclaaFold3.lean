/- Lemmas and contracts of functions that a statement of this seat stands on; each holds under the premises typed in its head. -/
import Derived.Test.YtdcnaieieggclaaFold1
import Derived.Test.YtdcnaieieggclaaFold2
namespace Go.Proofs.Ytdcnaieieggclaa
open Go.RowKit
set_option linter.unusedVariables false
set_option linter.unusedSimpArgs false

open Go.Maps
def puts (m : List (ByteArray × Bool)) (ws : List Wr) : List (ByteArray × Bool) := ws.foldl (fun m x => mput m x.key true) m
theorem puts_snoc {m : List (ByteArray × Bool)} {ws : List Wr} {k : Nat} {x : Wr} (h : ws[k]? = some x) : puts m (ws.take (k + 1)) = mput (puts m (ws.take k)) x.key true := by
  unfold puts; rw [List.take_add_one, h]; simp [List.foldl_append]
/-- The keys reached from the transaction at place a, behind t places. -/
def chainM (rs : List RTx) (a : Nat) : Nat → List (ByteArray × Bool)
  | 0 => []
  | t + 1 => match rs[a + t]? with
    | none => chainM rs a t
    | some r => if t = 0 ∨ (r.ws.any fun x => keysB (chainM rs a t) x.key) = true then puts (chainM rs a t) r.ws else chainM rs a t
theorem chainM_hit {rs : List RTx} {a t : Nat} {r : RTx} (h : rs[a + t]? = some r) (hc : t = 0 ∨ (r.ws.any fun x => keysB (chainM rs a t) x.key) = true) : chainM rs a (t + 1) = puts (chainM rs a t) r.ws := by
  rw [chainM, h]; simp only []; rw [if_pos hc]
theorem chainM_miss {rs : List RTx} {a t : Nat} {r : RTx} (h : rs[a + t]? = some r) (h0 : t ≠ 0) (hc : (r.ws.any fun x => keysB (chainM rs a t) x.key) = false) : chainM rs a (t + 1) = chainM rs a t := by
  rw [chainM, h]; simp only []; rw [if_neg (by simp [h0, hc])]
theorem KeysAt.upd {w w' : World} {g b : Nat} {m m' : List (ByteArray × Bool)} (h : KeysAt w g b m) (ho : OwnM Value.string Value.bool w' b m') (hg : w.grownBy w' (some b)) : KeysAt w' g b m' :=
  ⟨(hg.block g (blk_lt h.1) (by intro e; injection e with e; exact h.2.2 e)).trans h.1, ho, h.2.2⟩
theorem KeysAt.alloc {w : World} {g b : Nat} {m : List (ByteArray × Bool)} (h : KeysAt w g b m) (o : Obj) : KeysAt (w.alloc o) g b m := ⟨(Below.heap_alloc _ _ _ (blk_lt h.1)).trans h.1, h.2.1.alloc o, h.2.2⟩

theorem chained_err (A : Option Addr) (len cap : Nat) (rs : List RTx) (i j : Int) (w : World) (hw : TxsAt w w.heap.size A len rs) (hl : len ≤ 4398046511104) (he : logErr rs 1 ≠ 0) :
    Calls Try.prog 15 #[.slice A len cap, .int .i64 i, .int .i64 j] w fun e w' => e = .returned (.tuple #[.bool false, .int .i64 (logErr rs 1)]) ∧ Below w.heap.size w w' := by
  have hne : (logErr rs 1 != 0) = true := by simpa using he
  go_enter Try.func15, Try.ntmps15
  go_wp2_with fail
  refine (foldcheck_any A len cap rs _ hw hl).mono ?_
  rintro e w1 ⟨rfl, hb1⟩
  go_wp2_with fail
  go_ret2
  exact ⟨rfl, hb1⟩
theorem chained_arg (A : Option Addr) (len cap : Nat) (rs : List RTx) (i j : Int) (w : World) (hw : TxsAt w w.heap.size A len rs) (hl : len ≤ 4398046511104) (he : logErr rs 1 = 0) (ha : i < 1 ∨ j ≤ i ∨ (len : Int) < j) :
    Calls Try.prog 15 #[.slice A len cap, .int .i64 i, .int .i64 j] w fun e w' => e = .returned (.tuple #[.bool false, .int .i64 1]) ∧ Below w.heap.size w w' := by
  have He := Lib.hid he
  clear he
  by_cases h1 : i < 1 <;> by_cases h2 : j ≤ i <;> by_cases h3 : (len : Int) < j
  all_goals first
    | (exfalso; omega)
    | (go_enter Try.func15, Try.ntmps15
       go_wp2_with fail
       refine (foldcheck_any A len cap rs _ hw hl).mono ?_
       rintro e w1 ⟨rfl, hb1⟩
       rw [He.out]
       go_wp2_with fail
       go_ret2
       exact ⟨rfl, hb1⟩)

set_option maxHeartbeats 2000000 in
theorem chained_good (A : Option Addr) (len cap : Nat) (rs : List RTx) (a b : Nat) (w : World) (hw : TxsAt w w.heap.size A len rs) (hl : len ≤ 4398046511104) (he : logErr rs 1 = 0) (hab : a < b) (hbl : b < len) :
    Calls Try.prog 15 #[.slice A len cap, .int .i64 ((a : Int) + 1), .int .i64 ((b : Int) + 1)] w fun e w' => e = .returned (.tuple #[.bool (((rs[b]?).map fun r => r.ws.any fun x => keysB (chainM rs a (b - a)) x.key).getD false), .int .i64 0]) ∧ Below w.heap.size w w' := by
  have He := Lib.hid he
  clear he
  have hmm := @run_makeMap Try.prog
  have hd1 : decide ((a : Int) + 1 < 1) = false := by rw [decide_eq_false_iff_not]; omega
  have hd2 : decide (b ≤ a) = false := by rw [decide_eq_false_iff_not]; omega
  have hd3 : decide ((len : Int) < (b : Int) + 1) = false := by rw [decide_eq_false_iff_not]; omega
  go_enter Try.func15, Try.ntmps15
  go_wp2_with fail
  refine (foldcheck_any A len cap rs _ hw hl).mono ?_
  rintro e w1 ⟨rfl, hb1⟩
  rw [He.out]
  have hs1 := hb1.size
  have Hb1 := Lib.hid hb1
  clear hb1
  go_wp2_with fail
  have hk0 : KeysAt ((w1.alloc (.map #[] 0)).alloc (.cells #[.map (some w1.heap.size)] 75)) (w1.heap.size + 1) w1.heap.size [] :=
    ⟨blk_new2 _ _ _, (OwnM.made _ _ _).alloc _, by omega⟩
  go_loopw [11] (fun n wr => ∃ t p m : Nat, p = a + t ∧ p ≤ b ∧ n = .int .i64 ((p : Int) + 1) ∧ KeysAt wr (w1.heap.size + 1) w1.heap.size (chainM rs a t) ∧ Below w1.heap.size w1 wr) (fun n _ => b + 1 - (intOf n).toNat)
  case atStart => exact ⟨0, a, 0, rfl, by omega, rfl, hk0, ((Below.refl _ _).alloc (Nat.le_refl _) _).alloc (by simp) _⟩
  case round =>
    obtain ⟨t, p, -, hp, hpb, rfl, hks, hb⟩ := hrel
    obtain ⟨wo, hwo⟩ : ∃ wo : World, wo = wr := ⟨_, rfl⟩
    subst hwo
    have hz := hb.size
    obtain ⟨hkl1, hkl2⟩ := hks.lt
    have hbw : Below w.heap.size w wo := Hb1.out.trans (hb.mono hs1)
    have hr := hw.below hbw
    have Hks := Lib.hid hks
    have Hb := Lib.hid hb
    have Hbw := Lib.hid hbw
    have Hp := Lib.hid hp
    clear hks hb hbw
    by_cases hlt : p < b
    · obtain ⟨bb, off, r, rfl, hbl2, hx, x0, x1, hws, hrl⟩ := hr.cell2 (show p < len by omega)
      have hws2 : WsAt wo wo.heap.size r.A r.len r.ws := hws.more (by omega)
      have Hx := Lib.hid hx
      have Hws := Lib.hid hws
      clear hx hr hws
      by_cases ht : t = 0
      · obtain rfl : p = a := by omega
        subst ht
        clear hp Hp
        go_wp2_with fail
        go_loopw [59] (fun q wi => ∃ qn : Nat, qn ≤ r.len ∧ q = .int .i64 qn ∧ KeysAt wi (w1.heap.size + 1) w1.heap.size (puts (chainM rs p 0) (r.ws.take qn)) ∧ Below w1.heap.size w1 wi) (fun q _ => r.len - (intOf q).toNat)
        case atStart => exact ⟨0, by omega, rfl, Hks.out, Hb.out⟩
        case round =>
          obtain ⟨qn, hq, rfl, hki, hbi⟩ := hrel
          have hbiw : Below w.heap.size w wr := Hb1.out.trans (hbi.mono hs1)
          have hri : WsAt wr w.heap.size r.A r.len r.ws := ((hw.below hbiw).2 r (List.mem_of_getElem? Hx.out)).1
          have c0 := blk_cell hki.1 0
          simp only [List.getElem?_toArray, List.getElem?_cons_zero] at c0
          have hzi := hbi.size
          obtain ⟨hkl1, hkl2⟩ := hki.lt
          have Hki := Lib.hid hki
          have Hbi := Lib.hid hbi
          clear hki hbi hbiw
          by_cases hq2 : qn < r.len
          · obtain ⟨b2, off2, x, hA2, hbl3, hx2, y0, y1, y2⟩ := WsAt.cell3 hri hq2
            have Hx2 := Lib.hid hx2
            clear hx2 hri
            rw [hA2]
            go_wp2_with (at_mapUpdate; refine wpList_update_M (κ := Value.string) (ν := Value.bool) (b := w1.heap.size) (m := puts (chainM rs p 0) (r.ws.take qn)) rfl _ _ _ rfl (Hki.out.2.1.alloc _) kstr Try.underlying75 x.key true rfl rfl rfl ?_; intro w' hown' hg')
            refine ⟨⟨qn + 1, by omega, by go_num, by rw [puts_snoc Hx2.out]; exact (Hki.out.alloc _).upd hown' hg', ?_⟩, by simp [intOf]; omega⟩
            exact (Hbi.out.alloc (by omega) _).grown hg' (by simp; omega) (fun q hq => by injection hq; omega)
          · have hqr : qn = r.len := by omega
            have hfull : r.ws.take qn = r.ws := List.take_of_length_le (by rw [hri.len]; omega)
            have Hfull := Lib.hid hfull
            clear hfull hri
            go_wp2_with fail
            refine ⟨⟨0 + 1, p + 1, 0, by omega, by omega, by go_num, ?_, Hbi.out⟩, by simp [intOf]; omega⟩
            have h1 := Hki.out
            rw [Hfull.out, ← chainM_hit (rs := rs) (a := p) (t := 0) (by simpa using Hx.out) (Or.inl rfl)] at h1
            exact h1
      · have hne : ((p : Int) + 1 == (a : Int) + 1) = false := by rw [beq_eq_false_iff_ne]; omega
        have hne2 : ¬p = a := by omega
        clear hp
        go_wp2_with fail
        refine (reached_any (w1.heap.size + 1) w1.heap.size (chainM rs a t) r.number r.A r.len r.cap r.ws _ Hks.out hws2 (by omega)).mono ?_
        rintro e w2 ⟨rfl, hb2⟩
        have hblw : bb < wo.heap.size := by omega
        have z1 := (hb2.cell (p := ⟨bb, off + p * 2 + 1, none⟩) hblw).trans x1
        have hk2 := Hks.out.below hb2 hkl1 hkl2
        have hb12 := Hb.out.trans (hb2.mono hz)
        have Hk2 := Lib.hid hk2
        have Hb12 := Lib.hid hb12
        clear hk2 hb12 hb2 Hks
        cases hc : r.ws.any fun x => keysB (chainM rs a t) x.key
        · have Hc := Lib.hid hc
          clear hc
          go_wp2_with fail
          refine ⟨⟨t + 1, p + 1, 0, by have := Hp.out; omega, by omega, by go_num, ?_, Hb12.out⟩, by simp [intOf]; omega⟩
          rw [chainM_miss (by rw [← Hp.out]; exact Hx.out) ht Hc.out]
          exact Hk2.out
        · have Hc := Lib.hid hc
          clear hc
          go_wp2_with fail
          go_loopw [59] (fun q wi => ∃ qn : Nat, qn ≤ r.len ∧ q = .int .i64 qn ∧ KeysAt wi (w1.heap.size + 1) w1.heap.size (puts (chainM rs a t) (r.ws.take qn)) ∧ Below w1.heap.size w1 wi) (fun q _ => r.len - (intOf q).toNat)
          case atStart => exact ⟨0, by omega, rfl, Hk2.out, Hb12.out⟩
          case round =>
            obtain ⟨qn, hq, rfl, hki, hbi⟩ := hrel
            have hbiw : Below w.heap.size w wr := Hb1.out.trans (hbi.mono hs1)
            have hri : WsAt wr w.heap.size r.A r.len r.ws := ((hw.below hbiw).2 r (List.mem_of_getElem? Hx.out)).1
            have c0 := blk_cell hki.1 0
            simp only [List.getElem?_toArray, List.getElem?_cons_zero] at c0
            have hzi := hbi.size
            obtain ⟨hkl1, hkl2⟩ := hki.lt
            have Hki := Lib.hid hki
            have Hbi := Lib.hid hbi
            clear hki hbi hbiw
            by_cases hq2 : qn < r.len
            · obtain ⟨b2, off2, x, hA2, hbl3, hx2, y0, y1, y2⟩ := WsAt.cell3 hri hq2
              have Hx2 := Lib.hid hx2
              clear hx2 hri
              rw [hA2]
              go_wp2_with (at_mapUpdate; refine wpList_update_M (κ := Value.string) (ν := Value.bool) (b := w1.heap.size) (m := puts (chainM rs a t) (r.ws.take qn)) rfl _ _ _ rfl (Hki.out.2.1.alloc _) kstr Try.underlying75 x.key true rfl rfl rfl ?_; intro w' hown' hg')
              refine ⟨⟨qn + 1, by omega, by go_num, by rw [puts_snoc Hx2.out]; exact (Hki.out.alloc _).upd hown' hg', ?_⟩, by simp [intOf]; omega⟩
              exact (Hbi.out.alloc (by omega) _).grown hg' (by simp; omega) (fun q hq => by injection hq; omega)
            · have hqr : qn = r.len := by omega
              have hfull : r.ws.take qn = r.ws := List.take_of_length_le (by rw [hri.len]; omega)
              have Hfull := Lib.hid hfull
              clear hfull hri
              go_wp2_with fail
              refine ⟨⟨t + 1, p + 1, 0, by have := Hp.out; omega, by omega, by go_num, ?_, Hbi.out⟩, by simp [intOf]; omega⟩
              have h1 := Hki.out
              rw [Hfull.out, ← chainM_hit (rs := rs) (a := a) (t := t) (by rw [← Hp.out]; exact Hx.out) (Or.inr Hc.out)] at h1
              exact h1
    · obtain rfl : p = b := by omega
      obtain ⟨bb, off, r, rfl, hbl2, hx, x0, x1, hws, hrl⟩ := hr.cell2 hbl
      have hws2 : WsAt wo wo.heap.size r.A r.len r.ws := hws.more (by omega)
      have hfin : Value.bool (r.ws.any fun x => keysB (chainM rs a t) x.key) = .bool (((rs[p]?).map fun r => r.ws.any fun x => keysB (chainM rs a (p - a)) x.key).getD false) := by
        rw [hx, show p - a = t from by have := Hp.out; omega]; rfl
      have Hfin := Lib.hid hfin
      clear hx hr hws hp hfin
      go_wp2_with fail
      refine (reached_any (w1.heap.size + 1) w1.heap.size (chainM rs a t) r.number r.A r.len r.cap r.ws _ Hks.out hws2 (by omega)).mono ?_
      rintro e w2 ⟨rfl, hb2⟩
      have Hb2 := Lib.hid (Hbw.out.trans (hb2.mono (by omega)))
      clear hb2
      rw [Hfin.out]
      go_wp2_with fail
      go_ret2
      exact ⟨rfl, Hb2.out⟩
end Go.Proofs.Ytdcnaieieggclaa

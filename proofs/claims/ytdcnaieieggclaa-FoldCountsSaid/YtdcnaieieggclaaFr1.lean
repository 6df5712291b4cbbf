/- Lemmas and contracts of functions that a statement of this seat stands on; each holds under the premises typed in its head. -/
import Derived.Test.YtdcnaieieggclaaFr0
import Derived.Test.YtdcnaieieggclaaFold1
namespace Go.Proofs.Ytdcnaieieggclaa
open Go.RowKit
set_option linter.unusedVariables false
set_option linter.unusedSimpArgs false

open Go.Maps
abbrev SM := OwnM Value.string Value.string
theorem zstr (w : World) : (zeroValue 9).run Try.prog w = .ok (.string ⟨#[]⟩) w := by kernel_rfl
theorem fmay_any (k : ByteArray) (w : World) : Calls Try.prog 50 #[.string k] w fun e w' => e = .returned (.bool (keyB k)) ∧ w = w' := by
  go_enter Try.func50, Try.ntmps50
  go_wp2
  all_goals go_ret
  all_goals exact ⟨ret_bool (by have nk := toList_nil k; simp only [keyB, List.isEmpty_iff]; grind), rfl⟩
theorem values_err (A : Option Addr) (len cap : Nat) (rs : List RTx) (i : Int) (w : World) (hw : TxsAt w w.heap.size A len rs) (hl : len ≤ 4398046511104) (he : logErr rs 1 ≠ 0) :
    Calls Try.prog 49 #[.slice A len cap, .int .i64 i] w fun e w' => e = .returned (.tuple #[.map none, .int .i64 (logErr rs 1)]) ∧ Below w.heap.size w w' := by
  have hne : (logErr rs 1 != 0) = true := by simpa using he
  go_enter Try.func49, Try.ntmps49
  go_wp2_with fail
  refine (foldcheck_any A len cap rs _ hw hl).mono ?_
  rintro e w1 ⟨rfl, hb1⟩
  go_wp2_with fail
  go_ret2
  exact ⟨rfl, hb1⟩
theorem values_arg (A : Option Addr) (len cap : Nat) (rs : List RTx) (i : Int) (w : World) (hw : TxsAt w w.heap.size A len rs) (hl : len ≤ 4398046511104) (he : logErr rs 1 = 0) (ha : i < 0 ∨ (len : Int) < i) :
    Calls Try.prog 49 #[.slice A len cap, .int .i64 i] w fun e w' => e = .returned (.tuple #[.map none, .int .i64 1]) ∧ Below w.heap.size w w' := by
  have He := Lib.hid he
  clear he
  by_cases h1 : i < 0 <;> by_cases h3 : (len : Int) < i
  all_goals first
    | (exfalso; omega)
    | (go_enter Try.func49, Try.ntmps49
       go_wp2_with fail
       refine (foldcheck_any A len cap rs _ hw hl).mono ?_
       rintro e w1 ⟨rfl, hb1⟩
       rw [He.out]
       go_wp2_with fail
       go_ret2
       exact ⟨rfl, hb1⟩)
set_option maxHeartbeats 2000000 in
set_option maxRecDepth 8000 in
theorem values_good (A : Option Addr) (len cap : Nat) (rs : List RTx) (n : Nat) (w : World) (hw : TxsAt w w.heap.size A len rs) (hl : len ≤ 4398046511104) (hc : len ≤ cap) (he : logErr rs 1 = 0) (hn : n ≤ len) :
    Calls Try.prog 49 #[.slice A len cap, .int .i64 n] w fun e w' => ∃ b, e = .returned (.tuple #[.map (some b), .int .i64 0]) ∧ w.heap.size ≤ b ∧ SM w' b (foldM rs n) ∧ Below w.heap.size w w' := by
  have He := Lib.hid he
  clear he
  have hmm := @run_makeMap Try.prog
  have hd2 : decide (len < n) = false := by rw [decide_eq_false_iff_not]; omega
  go_enter Try.func49, Try.ntmps49
  go_wp2_with fail
  refine (foldcheck_any A len cap rs _ hw hl).mono ?_
  rintro e w1 ⟨rfl, hb1⟩
  rw [He.out]
  have hs1 := hb1.size
  have Hb1 := Lib.hid hb1
  clear hb1
  go_wp2_with fail
  have hk0 : SM (w1.alloc (.map #[] 0)) w1.heap.size (foldM rs 0) := OwnM.made _ _ _
  go_loopw [30] (fun v wr => ∃ t : Nat, t ≤ n ∧ v = .int .i64 t ∧ SM wr w1.heap.size (foldM rs t) ∧ Below w1.heap.size w1 wr) (fun v _ => n - (RowKit.intOf v).toNat)
  case atStart => exact ⟨0, by omega, rfl, hk0, (Below.refl _ _).alloc (Nat.le_refl _) _⟩
  case round =>
    obtain ⟨t, ht, rfl, hm, hb⟩ := hrel
    have hz := hb.size
    have hlt0 := hm.lt
    have hbw : Below w.heap.size w wr := Hb1.out.trans (hb.mono hs1)
    have hr := hw.below hbw
    have Hm := Lib.hid hm
    have Hb := Lib.hid hb
    have Hbw := Lib.hid hbw
    clear hm hb hbw
    by_cases hlt : t < n
    · obtain ⟨bb, off, r, rfl, hbl2, hx, x0, x1, hws, hrl⟩ := hr.cell2 (show t < len by omega)
      have Hx := Lib.hid hx
      clear hx hr hws
      go_wp2_with fail
      go_loopw [37] (fun q wi => ∃ qn : Nat, qn ≤ r.len ∧ q = .int .i64 qn ∧ SM wi w1.heap.size (playM (foldM rs t) (r.ws.take qn)) ∧ Below w1.heap.size w1 wi) (fun q _ => r.len - (RowKit.intOf q).toNat)
      case atStart => exact ⟨0, by omega, rfl, Hm.out.alloc _, Hb.out.alloc (by omega) _⟩
      case round =>
        obtain ⟨qn, hq, rfl, hmi, hbi⟩ := hrel
        have hbiw : Below w.heap.size w wr := Hb1.out.trans (hbi.mono hs1)
        have hri : WsAt wr w.heap.size r.A r.len r.ws := ((hw.below hbiw).2 r (List.mem_of_getElem? Hx.out)).1
        have hzi := hbi.size
        have hlti := hmi.lt
        have Hmi := Lib.hid hmi
        have Hbi := Lib.hid hbi
        clear hmi hbi hbiw
        by_cases hq2 : qn < r.len
        · obtain ⟨b2, off2, x, hA2, hbl3, hx2, y0, y1, y2⟩ := WsAt.cell3 hri hq2
          have Hx2 := Lib.hid hx2
          clear hx2 hri
          rw [hA2]
          have hbox : ∀ {w' : World}, World.grownBy (wr.alloc (.cells #[.string x.key, .string x.val, .bool x.drop] 39)) w' (some w1.heap.size) → Below w1.heap.size w1 w' := fun hg' =>
            (Hbi.out.alloc (by omega) _).grown hg' (by simp; omega) (fun q hq => by injection hq; omega)
          cases hd : x.drop
          · have Hd := Lib.hid hd
            rw [hd] at y2
            rw [hd] at hbox
            clear hd
            go_wp2_with (at_mapUpdate; refine wpList_update_M (κ := Value.string) (ν := Value.string) (b := w1.heap.size) (m := playM (foldM rs t) (r.ws.take qn)) rfl _ _ _ rfl (Hmi.out.alloc _) kstr Try.underlying80 x.key x.val rfl rfl rfl ?_; intro w' hown' hg')
            exact ⟨⟨qn + 1, by omega, by go_num, by rw [playM_snoc Hx2.out]; simp only [stepM, Hd.out]; exact hown', hbox hg'⟩, by simp [RowKit.intOf]; omega⟩
          · have Hd := Lib.hid hd
            rw [hd] at y2
            rw [hd] at hbox
            clear hd
            go_wp2_with (at_delete; refine wpList_delete_M (t := 80) (κ := Value.string) (ν := Value.string) (b := w1.heap.size) (m := playM (foldM rs t) (r.ws.take qn)) rfl _ _ _ rfl (Hmi.out.alloc _) kstr Try.underlying80 x.key rfl rfl ?_; intro w' hown' hg')
            exact ⟨⟨qn + 1, by omega, by go_num, by rw [playM_snoc Hx2.out]; simp only [stepM, Hd.out]; exact hown', hbox hg'⟩, by simp [RowKit.intOf]; omega⟩
        · have hqr : qn = r.len := by omega
          have hfull : r.ws.take qn = r.ws := List.take_of_length_le (by rw [hri.len]; omega)
          have Hfull := Lib.hid hfull
          clear hfull hri
          go_wp2_with fail
          refine ⟨⟨t + 1, by omega, by go_num, ?_, Hbi.out⟩, by simp [RowKit.intOf]; omega⟩
          have h1 := Hmi.out
          rw [Hfull.out] at h1
          rw [foldM_succ Hx.out]
          exact h1
    · obtain rfl : t = n := by omega
      clear hr
      go_wp2_with fail
      go_ret2
      exact ⟨w1.heap.size, rfl, hs1, Hm.out, Hbw.out⟩
theorem values_any (A : Option Addr) (len cap : Nat) (rs : List RTx) (i : Int) (w : World) (hw : TxsAt w w.heap.size A len rs) (hl : len ≤ 4398046511104) (hc : len ≤ cap) :
    Calls Try.prog 49 #[.slice A len cap, .int .i64 i] w fun e w' => ∃ v, e = .returned (.tuple #[v, .int .i64 (scanErr rs i)]) ∧ (scanErr rs i = 0 → ∃ b, v = .map (some b) ∧ w.heap.size ≤ b ∧ SM w' b (foldM rs i.toNat)) ∧ (scanErr rs i ≠ 0 → v = .map none) ∧ Below w.heap.size w w' := by
  have hlen := hw.1.len
  by_cases he : logErr rs 1 = 0
  · by_cases ha : i < 0 ∨ (len : Int) < i
    · have h1 : scanErr rs i = 1 := by unfold scanErr; rw [if_neg (by simpa using he), if_neg (by simp only [argB, Bool.and_eq_true, decide_eq_true_eq]; omega)]
      rw [h1]
      refine (values_arg A len cap rs i w hw hl he ha).mono ?_
      rintro e w' ⟨rfl, hb⟩
      exact ⟨_, rfl, (fun h => by cases h), fun _ => rfl, hb⟩
    · have h1 : scanErr rs i = 0 := by unfold scanErr; rw [if_neg (by simpa using he), if_pos (by simp only [argB, Bool.and_eq_true, decide_eq_true_eq]; omega)]
      rw [h1]
      obtain ⟨n, rfl⟩ : ∃ n : Nat, i = n := ⟨i.toNat, by omega⟩
      refine (values_good A len cap rs n w hw hl hc he (by omega)).mono ?_
      rintro e w' ⟨b, rfl, h2, h3, hb⟩
      exact ⟨_, rfl, fun _ => ⟨b, rfl, h2, by simpa using h3⟩, fun h => absurd rfl h, hb⟩
  · have h1 : scanErr rs i = logErr rs 1 := by unfold scanErr; rw [if_pos he]
    rw [h1]
    refine (values_err A len cap rs i w hw hl he).mono ?_
    rintro e w' ⟨rfl, hb⟩
    exact ⟨_, rfl, fun h => absurd h he, fun _ => rfl, hb⟩
end Go.Proofs.Ytdcnaieieggclaa

/- The reference's folds, reads, scans and last writers. -/
import Derived.Test.YtdcnaieieggclaaFr5
namespace Go.Proofs.Ytdcnaieieggclaa
open Go.RowKit
set_option linter.unusedVariables false
set_option linter.unusedSimpArgs false

open Go.Maps
theorem filter_two {α : Type} (p q : α → Bool) (h : ∀ x, p x = true → q x = true → False) (l : List α) : (l.filter p).length + (l.filter q).length ≤ l.length := by
  induction l with
  | nil => simp
  | cons x r ih =>
    cases hp : p x <;> cases hq : q x
    · simp [hp, hq]; omega
    · simp [hp, hq]; omega
    · simp [hp, hq]; omega
    · exact absurd hq (fun hq => h x hp hq)
theorem len_stepE (st : List Ent) (x : Wr) : (stepE st x).length ≤ st.length + 1 := by
  have := filter_two (fun e : Ent => ltB e.key x.key) (fun e => ltB x.key e.key) (fun e h1 h2 => by rw [ltB_asymm h1] at h2; cases h2) st
  unfold stepE
  rw [List.length_append, List.length_append]
  split <;> simp <;> omega
theorem len_playE (st : List Ent) (ws : List Wr) : (playE st ws).length ≤ st.length + ws.length := by
  induction ws generalizing st with
  | nil => simp [playE]
  | cons x r ih => have h1 := ih (stepE st x); have h2 := len_stepE st x; rw [show playE st (x :: r) = playE (stepE st x) r from rfl, List.length_cons]; omega
theorem rises_play {st : List Ent} (h : RisesE st) (ws : List Wr) : RisesE (playE st ws) := by
  induction ws generalizing st with
  | nil => exact h
  | cons x r ih => exact ih (rises_step h x)
theorem EntsOwn.row {w : World} {base : Nat} {v : Value} {xs : List Ent} (h : EntsOwn w base v xs) : ∃ A cap, v = .slice A xs.length cap ∧ EntsAt w w.heap.size A xs.length xs ∧ (A = none → cap = 0) ∧ xs.length ≤ cap := by
  obtain ⟨A, cap, h1, h2, h3, h4⟩ := rowAt_own (len_ent _) h
  exact ⟨A, cap, h1, h2, fun e => (h3 e).2, h4⟩
theorem EntsOwn.below {w w' : World} {base : Nat} {v : Value} {xs : List Ent} (h : EntsOwn w base v xs) (hb : Below w.heap.size w w') : EntsOwn w' base v xs := ownsRow_below h hb
set_option maxHeartbeats 2000000 in
set_option maxRecDepth 8000 in
theorem rfold_any (A : Option Addr) (len cap : Nat) (rs : List RTx) (n : Nat) (w : World) (hw : TxsAt w w.heap.size A len rs) (hl : len ≤ 4398046511104) (he : logErr rs 1 = 0) (hn : n ≤ len) :
    Calls Try.prog 52 #[.slice A len cap, .int .i64 n] w (WritePost w (foldE rs n)) := by
  have hlen := Lib.hid hw.1.len
  have He := Lib.hid he
  clear he
  go_enter Try.func52, Try.ntmps52
  go_wp2_with fail
  go_loopw [5, 6] (fun v i wr => ∃ t : Nat, t ≤ n ∧ i = .int .i64 t ∧ EntsOwn wr w.heap.size v (foldE rs t) ∧ Below w.heap.size w wr) (fun _ i _ => n - (RowKit.intOf i).toNat)
  case atStart => exact ⟨0, by omega, rfl, EntsOwn.nil _ _, Below.refl _ _⟩
  case round =>
    obtain ⟨t, ht, rfl, how, hb⟩ := hrel
    have hr := hw.below hb
    have How := Lib.hid how
    have Hb := Lib.hid hb
    clear how hb
    by_cases hlt : t < n
    · obtain ⟨bb, off, r, rfl, hbl2, hx, x0, x1, hws, hrl⟩ := hr.cell2 (show t < len by omega)
      have hr32 : r.ws.length ≤ 32 ∧ r.ws.length = r.len := by
        have h1 := (logErr_ok He.out hx).1
        simp only [txB, Bool.and_eq_true, decide_eq_true_eq] at h1
        exact ⟨h1.1.2, hws.len⟩
      have hfl : (foldE rs t).length ≤ 2097152 := len_foldE_le He.out (by have := hlen.out; omega)
      have Hr32 := Lib.hid hr32
      have Hx := Lib.hid hx
      clear hx hr hws hr32
      go_wp2_with fail
      go_loopw [5, 7] (fun v q wi => ∃ qn : Nat, qn ≤ r.len ∧ q = .int .i64 qn ∧ EntsOwn wi w.heap.size v (playE (foldE rs t) (r.ws.take qn)) ∧ Below w.heap.size w wi) (fun _ q _ => r.len - (RowKit.intOf q).toNat)
      case atStart => exact ⟨0, by omega, rfl, How.out, Hb.out⟩
      case round =>
        obtain ⟨qn, hq, rfl, hoi, hbi⟩ := hrel
        have hri := hw.below hbi
        have hrx := (hri.2 r (List.mem_of_getElem? Hx.out)).1
        have z1 := (hbi.cell (p := ⟨bb, off + t * 2 + 1, none⟩) hbl2).trans (((Hb.out.cell (p := ⟨bb, off + t * 2 + 1, none⟩) hbl2).symm).trans x1)
        have hpl := len_playE (foldE rs t) (r.ws.take qn)
        have htk : (r.ws.take qn).length ≤ 32 := Nat.le_trans (List.length_take_le _ _) (by have := Hr32.out; omega)
        have hsi := hbi.size
        have Hbi := Lib.hid hbi
        clear hbi
        by_cases hq2 : qn < r.len
        · obtain ⟨b2, off2, x, hA2, hbl3, hx2, y0, y1, y2⟩ := WsAt.cell3 hrx hq2
          have Hx2 := Lib.hid hx2
          obtain ⟨Ao, co, rfl, hrow, hnil, hcap⟩ := hoi.row
          have Hnil := Lib.hid hnil
          have hris := rises_play (agree_fold rs t).1 (r.ws.take qn)
          have Hris := Lib.hid hris
          clear hx2 hrx hoi hri hnil hris
          rw [hA2] at z1
          have y0' := y0
          go_wp2_with fail
          refine (rwrite_any Ao _ co _ x _ hrow (by omega) hcap Hnil.out Hris.out).mono ?_
          rintro e w1 ⟨v, rfl, hv, hb1⟩
          have hv2 := hv.more hsi
          have Hv2 := Lib.hid hv2
          have Hb1 := Lib.hid (Hbi.out.trans (hb1.mono hsi))
          clear hv hv2 hb1
          go_wp2_with fail
          exact ⟨⟨qn + 1, by omega, by go_num, by rw [playE_snoc Hx2.out]; exact Hv2.out, Hb1.out⟩, by simp [RowKit.intOf]; omega⟩
        · have hfull : r.ws.take qn = r.ws := List.take_of_length_le (by have := Hr32.out; omega)
          rw [hfull, ← foldE_succ Hx.out] at hoi
          have Hoi := Lib.hid hoi
          clear hoi hri hrx hfull
          go_wp2_with fail
          exact ⟨⟨t + 1, by omega, by go_num, Hoi.out, Hbi.out⟩, by simp [RowKit.intOf]; omega⟩
    · obtain rfl : t = n := by omega
      clear hr
      go_wp2_with fail
      go_ret
      exact ⟨_, rfl, How.out, Hb.out⟩
end Go.Proofs.Ytdcnaieieggclaa

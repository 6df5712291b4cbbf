/- Lemmas and contracts of functions that a statement of this seat stands on; each holds under the premises typed in its head. -/
import Derived.Test.YtfokcdgahiljdaaLog
import Derived.Test.YtfokcdgahiljdaaTwI
namespace Go.Proofs.Ytfokcdgahiljdaa
open Go.RowKit
set_option linter.unusedVariables false
set_option linter.unusedSimpArgs false

theorem logErr_ok : ∀ {rs : List RTx} {m : Int}, logErr rs m = 0 → ∀ {k : Nat} {r : RTx}, rs[k]? = some r → txB r.number r.ws = true ∧ r.number = m + k
  | [], _, _, k, r, h => by simp at h
  | r :: rest, m, he, k, x, h => by
    simp only [logErr] at he
    split at he
    · rename_i ht
      split at he
      · rename_i hn
        cases k with
        | zero => simp at h; subst h; exact ⟨ht, by simpa using hn⟩
        | succ k =>
          have := logErr_ok (m := m + 1) he (k := k) (r := x) (by simpa using h)
          exact ⟨this.1, by rw [this.2]; omega⟩
      · cases he
    · cases he
theorem logErr_le {rs : List RTx} (h : logErr rs 1 = 0) : rs.length ≤ 65536 := by
  rcases Nat.eq_zero_or_pos rs.length with h0 | h0
  · omega
  · have hx : rs[rs.length - 1]? = some (rs[rs.length - 1]'(by omega)) := List.getElem?_eq_getElem _
    have := logErr_ok h hx
    have h1 := this.1
    rw [this.2] at h1
    simp only [txB] at h1; grind

set_option maxHeartbeats 1000000 in
theorem reflog_any (A : Option Addr) (len cap : Nat) (rs : List RTx) (w : World) (hw : TxsAt w w.heap.size A len rs) (hl : len ≤ 4398046511104) :
    Calls Try.prog 34 #[.slice A len cap] w fun e w' => e = .returned (.int .i64 (logErr rs 1)) ∧ Below w.heap.size w w' := by
  have hlen := Lib.hid hw.1.len
  have hfin : ∀ (x : Int) (w' : World), logErr rs 1 = x → Below w.heap.size w w' → (Ending.returned (.int .i64 x) = .returned (.int .i64 (logErr rs 1)) ∧ Below w.heap.size w w') := fun x w' h h' => ⟨by rw [h], h'⟩
  have Hf := Lib.hid hfin
  clear hfin
  go_enter Try.func34, Try.ntmps34
  go_wp2_with fail
  go_loopw [3] (fun i wr => ∃ k : Nat, k ≤ len ∧ i = .int .i64 k ∧ logErr rs 1 = logErr (rs.drop k) ((k : Int) + 1) ∧ Below w.heap.size w wr) (fun i _ => len - (intOf i).toNat)
  case atStart => exact ⟨0, Nat.zero_le _, rfl, rfl, Below.refl _ _⟩
  case round =>
    obtain ⟨k, hk, rfl, herr, hb⟩ := hrel
    have hr := hw.below hb
    have Hb := Lib.hid hb
    have Herr := Lib.hid herr
    have hs := hb.size
    clear hb herr
    by_cases hlt : k < len
    · obtain ⟨b, off, r, rfl, hbl, hx, x0, x1, hws, hrl⟩ := hr.cell2 hlt
      have Hx := Lib.hid hx
      have hws2 := hws.more hs
      clear hx
      go_wp2_with fail
      refine (refcheck_any r.number r.A r.len r.cap r.ws _ hws2).mono ?_
      rintro e w1 ⟨rfl, hb1⟩
      have y0 := (hb1.cell (p := ⟨b, off + k * 2, none⟩) (by show b < _; omega)).trans x0
      have Hb1 := Lib.hid (Hb.out.trans (hb1.mono hs))
      clear hb1 x0 x1
      cases ht : txB r.number r.ws
      · have Ht := Lib.hid ht
        clear ht
        rw [show errOf false = 1 from rfl]
        go_wp2_with fail
        go_ret
        refine Hf.out _ _ ?_ Hb1.out
        have := (logErr_drop (m := (k : Int) + 1) Hx.out).2 (by simp [turnN, Ht.out])
        rw [Herr.out, this]; simp [turnN, Ht.out]
      · have Ht := Lib.hid ht
        clear ht
        rw [show errOf true = 0 from rfl]
        by_cases hn : r.number = (k : Int) + 1
        · have Hn := Lib.hid hn
          have hn2 : (r.number != (k : Int) + 1) = false := by simp [hn]
          clear hn
          go_wp2_with fail
          refine ⟨⟨k + 1, by omega, by go_num, ?_, Hb1.out⟩, by simp [intOf]; omega⟩
          have := (logErr_drop (m := (k : Int) + 1) Hx.out).1 (by have h1 := Ht.out; rw [Hn.out] at h1; simp [turnN, Hn.out, h1])
          rw [Herr.out, this]; simp
        · have Hn := Lib.hid hn
          have hn2 : (r.number != (k : Int) + 1) = true := by simp [hn]
          clear hn
          go_wp2_with fail
          go_ret
          refine Hf.out _ _ ?_ Hb1.out
          have := (logErr_drop (m := (k : Int) + 1) Hx.out).2 (by simp [turnN, Ht.out, Hn.out])
          rw [Herr.out, this]; simp [turnN, Ht.out, Hn.out]
    · have hkl : k = len := by omega
      subst hkl
      go_wp2_with fail
      go_ret
      refine Hf.out _ _ ?_ Hb.out
      rw [Herr.out, List.drop_of_length_le (by have := hlen.out; omega)]; rfl

/-- Rising numbers above 'than', none above n. -/
def risesB (n : Int) : List Int → Int → Bool
  | [], _ => true
  | x :: r, than => decide (than < x) && decide (x ≤ n) && risesB n r x
def placeB (n mark : Int) (l : List Int) : Bool := decide (0 ≤ mark) && decide (mark ≤ n) && risesB n l (mark + 1)
abbrev IsAt := RowAt Icell 1
theorem IsAt.cell1 {w : World} {B n i : Nat} {A : Option Addr} {l : List Int} (h : IsAt w B A n l) (hi : i < n) : ∃ b off x, A = some ⟨b, off, none⟩ ∧ b < B ∧ l[i]? = some x ∧ w.cell? ⟨b, off + i, none⟩ = some (.int .i64 x) := by
  obtain ⟨b, off, x, e, hb, hx, hc⟩ := h.at_ hi
  exact ⟨b, off, x, e, hb, hx, by simpa using hc 0 _ rfl⟩
theorem drop_get {α : Type} {l : List α} {k : Nat} {x : α} (h : l[k]? = some x) : l.drop k = x :: l.drop (k + 1) := by
  obtain ⟨hk, e⟩ := List.getElem?_eq_some_iff.1 h
  rw [List.drop_eq_getElem_cons hk, e]

set_option maxHeartbeats 1000000 in
theorem place_any (A : Option Addr) (len cap : Nat) (mark : Int) (A2 : Option Addr) (len2 cap2 : Nat) (l : List Int) (w : World) (hw : IsAt w w.heap.size A2 len2 l) (hl : len ≤ 4398046511104) (hl2 : len2 ≤ 4398046511104000) :
    Calls Try.prog 35 #[.slice A len cap, .int .i64 mark, .slice A2 len2 cap2] w fun e w' => e = .returned (.bool (placeB len mark l)) ∧ w = w' := by
  have hlen := Lib.hid hw.len
  have hfin : ∀ (b : Bool) (w' : World), placeB len mark l = b → w = w' → (Ending.returned (.bool b) = .returned (.bool (placeB len mark l)) ∧ w = w') := fun b w' h h' => ⟨by rw [h], h'⟩
  have Hf := Lib.hid hfin
  clear hfin
  by_cases hm : 0 ≤ mark ∧ mark ≤ (len : Int)
  · obtain ⟨hm0, hm1⟩ := hm
    go_enter Try.func35, Try.ntmps35
    go_wp2_with fail
    go_loop [7, 8] (fun t i => ∃ (k : Nat) (than : Int), k ≤ len2 ∧ i = .int .i64 k ∧ t = .int .i64 than ∧ risesB len l (mark + 1) = risesB len (l.drop k) than) (fun _ i => len2 - (intOf i).toNat)
    case atStart => exact ⟨0, _, Nat.zero_le _, rfl, rfl, rfl⟩
    case round =>
      obtain ⟨k, than, hk, rfl, rfl, hri⟩ := hrel
      have Hri := Lib.hid hri
      clear hri
      by_cases hlt : k < len2
      · obtain ⟨b, off, x, rfl, hbl, hx, x0⟩ := hw.cell1 hlt
        have Hx := Lib.hid hx
        clear hx
        have hri2 : risesB len (l.drop k) than = (decide (than < x) && decide (x ≤ len) && risesB len (l.drop (k + 1)) x) := by rw [drop_get Hx.out]; rfl
        have Hri2 := Lib.hid hri2
        clear hri2
        go_wp2_with fail
        case roundEnd =>
          go_round
          case rel => exact ⟨k + 1, x, by omega, by go_num, rfl, by rw [Hri.out, Hri2.out]; grind⟩
          case measure => simp [intOf]; omega
        all_goals
          go_ret
          refine Hf.out _ _ ?_ rfl
          have h1 := Hri.out
          have h2 := Hri2.out
          clear Hf hw
          simp only [placeB]
          grind
      · have hkl : k = len2 := by omega
        subst hkl
        go_wp2_with fail
        go_ret
        refine Hf.out _ _ ?_ rfl
        have h1 := Hri.out
        rw [List.drop_of_length_le (by have := hlen.out; omega)] at h1
        clear Hf hw
        simp only [placeB, h1, risesB]
        grind
  · go_enter Try.func35, Try.ntmps35
    go_wp2_with fail
    all_goals first
      | (exfalso; omega)
      | (go_ret
         refine Hf.out _ _ ?_ rfl
         clear Hf hw
         simp only [placeB]
         grind)

/-- The steps of transactions, some of whose numbers stand in a list. -/
def logSum (l : List Int) : List RTx → Int
  | [] => 0
  | r :: rest => txnN r.ws (l.contains r.number) + logSum l rest
theorem txnN_bd {ws : List Wr} {sk : Bool} (h : ws.length ≤ 32) : 0 ≤ txnN ws sk ∧ txnN ws sk ≤ 69 := by
  have := countingL_le ws
  unfold txnN; split <;> omega
/-- What a log's count answers. -/
def logCount (rs : List RTx) (mark : Int) (l : List Int) : Int × Int :=
  if logErr rs 1 = 0 ∧ placeB rs.length mark l = true then (logSum l (rs.drop mark.toNat), 0) else (0, 1)
end Go.Proofs.Ytfokcdgahiljdaa

/- Lemmas and contracts of functions that a statement of this seat stands on; each holds under the premises typed in its head. -/
import Derived.Test.YtfokcdgahiljdaaLog3
namespace Go.Proofs.Ytfokcdgahiljdaa
open Go.RowKit
set_option linter.unusedVariables false
set_option linter.unusedSimpArgs false

/-- In a rising list above 'than': what stands at k, and nothing of the rest below it. -/
theorem rises_ge {n : Int} : ∀ {l : List Int} {than : Int}, risesB n l than = true → ∀ x ∈ l, than < x
  | [], _, _, x, h => by simp at h
  | y :: r, than, he, x, h => by
    simp only [risesB, Bool.and_eq_true, decide_eq_true_eq] at he
    rcases List.mem_cons.1 h with rfl | h
    · exact he.1.1
    · have := rises_ge he.2 x h; omega
theorem rises_drop {n : Int} : ∀ {l : List Int} {than : Int}, risesB n l than = true → ∀ (k : Nat) (x : Int), l[k]? = some x → risesB n (l.drop (k + 1)) x = true
  | [], _, _, k, x, h => by simp at h
  | y :: r, than, he, 0, x, h => by
    simp only [risesB, Bool.and_eq_true] at he
    simp at h; subst h; exact he.2
  | y :: r, than, he, k + 1, x, h => by
    simp only [risesB, Bool.and_eq_true] at he
    exact rises_drop he.2 k x (by simpa using h)

theorem mem_split {l : List Int} (t : Nat) {x : Int} (h : x ∈ l) : x ∈ l.take t ∨ x ∈ l.drop t := by rw [← List.mem_append, List.take_append_drop]; exact h
theorem not_contains {l : List Int} {x : Int} (h : x ∉ l) : l.contains x = false := by simpa using h

set_option maxHeartbeats 2000000 in
theorem reflog2_any (A : Option Addr) (len cap : Nat) (rs : List RTx) (mark : Int) (A2 : Option Addr) (len2 cap2 : Nat) (l : List Int) (w : World) (hw : TxsAt w w.heap.size A len rs) (hi : IsAt w w.heap.size A2 len2 l) (hl : len ≤ 4398046511104) (hlc : len ≤ cap) (hl2 : len2 ≤ 4398046511104000) :
    Calls Try.prog 18 #[.slice A len cap, .int .i64 mark, .slice A2 len2 cap2] w fun e w' => e = .returned (pairV (logCount rs mark l)) ∧ Below w.heap.size w w' := by
  have hlen := Lib.hid hw.1.len
  have hlen2 := Lib.hid hi.len
  by_cases he : logErr rs 1 = 0
  case neg =>
    have hc : logCount rs mark l = (0, 1) := by unfold logCount; rw [if_neg (fun h => he h.1)]
    have hne : (logErr rs 1 != 0) = true := by simpa using he
    rw [hc]
    clear hc he
    go_enter Try.func18, Try.ntmps18
    go_wp2_with fail
    refine (reflog_any A len cap rs _ hw hl).mono ?_
    rintro e w1 ⟨rfl, hb1⟩
    go_wp2_with fail
    go_ret2
    exact ⟨rfl, hb1⟩
  case pos =>
    have hl6 : len ≤ 65536 := by have := logErr_le he; have := hlen.out; omega
    have He := Lib.hid he
    clear he
    cases hp : placeB len mark l
    · have hc : logCount rs mark l = (0, 1) := by unfold logCount; rw [if_neg (fun h => by have h2 := h.2; rw [hlen.out, hp] at h2; cases h2)]
      rw [hc]
      have Hp := Lib.hid hp
      clear hc hp
      go_enter Try.func18, Try.ntmps18
      go_wp2_with fail
      refine (reflog_any A len cap rs _ hw hl).mono ?_
      rintro e w1 ⟨rfl, hb1⟩
      rw [He.out]
      have hi1 := (hi.below hb1).more hb1.size
      go_wp2_with fail
      refine (place_any A len cap mark A2 len2 cap2 l _ hi1 hl hl2).mono ?_
      rintro e w2 ⟨rfl, rfl⟩
      rw [Hp.out]
      go_wp2_with fail
      go_ret2
      exact ⟨rfl, hb1⟩
    · have hp' := hp
      simp only [placeB, Bool.and_eq_true, decide_eq_true_eq] at hp'
      obtain ⟨⟨hm0, hm1⟩, hri⟩ := hp'
      obtain ⟨m, rfl⟩ := Int.eq_ofNat_of_zero_le hm0
      have hc : logCount rs m l = (logSum l (rs.drop m), 0) := by unfold logCount; rw [if_pos ⟨He.out, by rw [hlen.out]; exact hp⟩]; simp
      have Hc := Lib.hid hc
      have Hp := Lib.hid hp
      have Hri := Lib.hid hri
      clear hc hp hri hm0
      go_enter Try.func18, Try.ntmps18
      go_wp2_with fail
      refine (reflog_any A len cap rs _ hw hl).mono ?_
      rintro e w1 ⟨rfl, hb1⟩
      rw [He.out]
      have hi1 := (hi.below hb1).more hb1.size
      go_wp2_with fail
      refine (place_any A len cap m A2 len2 cap2 l _ hi1 hl hl2).mono ?_
      rintro e w2 ⟨rfl, rfl⟩
      rw [Hp.out]
      have Hb1 := Lib.hid hb1
      have hw1 := hw.below hb1
      have hi2 := hi.below hb1
      have hs1 := hb1.size
      clear hb1 hi1
      go_wp2_with fail
      go_loopw [8, 9, 10] (fun n k i wr => ∃ (q : Int) (t j : Nat), m + j ≤ len ∧ t ≤ len2 ∧ n = .int .i64 q ∧ k = .int .i64 t ∧ i = .int .i64 ((m + j : Nat) : Int) ∧ 0 ≤ q ∧ q ≤ 69 * (j : Int) ∧ q + logSum l (rs.drop (m + j)) = logSum l (rs.drop m) ∧ (∀ x ∈ l.take t, x ≤ ((m + j : Nat) : Int)) ∧ (∀ x ∈ l.drop t, ((m + j : Nat) : Int) < x) ∧ Below w1.heap.size w1 wr) (fun _ _ i _ => len - (intOf i).toNat)
      case atStart => exact ⟨0, 0, 0, by omega, by omega, rfl, rfl, by go_num, by omega, by omega, by simp, by simp, fun x hx => by have := rises_ge Hri.out x (by simpa using hx); omega, Below.refl _ _⟩
      case round =>
        obtain ⟨q, t, j, hj, ht, rfl, rfl, rfl, hq0, hq1, hsum, hlo, hhi, hby⟩ := hrel
        have hr := hw1.below (hby.mono hs1)
        have hir := hi2.below (hby.mono hs1)
        have Hby := Lib.hid hby
        have Hsum := Lib.hid hsum
        have Hlo := Lib.hid hlo
        have Hhi := Lib.hid hhi
        have hsy := hby.size
        clear hby hsum hlo hhi
        by_cases hlt : m + j < len
        · obtain ⟨b, off, r, rfl, hbl, hx, x0, x1, hws, hrl⟩ := hr.cell2 hlt
          have hok := logErr_ok He.out hx
          have hnum : r.number = ((m + j : Nat) : Int) + 1 := by rw [hok.2]; omega
          have Hnum := Lib.hid hnum
          have Htx := Lib.hid hok.1
          have Hx := Lib.hid hx
          have hwsr := hws.more (show w.heap.size ≤ wr.heap.size by omega)
          have hll : r.ws.length ≤ 32 := txB_len Htx.out
          have hwsd : ∀ n, WsAt (wr.drewN n) (wr.drewN n).heap.size r.A r.len r.ws := fun _ => hwsr
          clear hx hok hnum
          by_cases htl : t < len2
          · obtain ⟨b2, off2, y, rfl, hbl2, hy, y0⟩ := IsAt.cell1 hir htl
            have Hy := Lib.hid hy
            have htcast : (t : Int) < (len2 : Int) := by omega
            have hdec : decide ((t : Int) < (len2 : Int)) = true := by simpa using htl
            clear hy
            have hgt : ∀ x ∈ l.drop (t + 1), y < x := rises_ge (rises_drop Hri.out t y Hy.out)
            have Hgt := Lib.hid hgt
            have hym : ((m + j : Nat) : Int) < y := Hhi.out y (by rw [drop_get Hy.out]; simp)
            clear hgt
            by_cases hyr : y = r.number
            · have hyq := beq_iff_eq.2 hyr
              have hct : l.contains r.number = true := by rw [← hyr]; simpa using List.mem_of_getElem? Hy.out
              have Hyr := Lib.hid hyr
              have Hct := Lib.hid hct
              clear hyr hct hym
              go_wp2_with fail
              go_quiet (fail)
              go_wp2_with fail
              refine (reftxn_good r.number r.A r.len r.cap r.ws true _ (hwsd _) Htx.out).mono ?_
              rintro e w2 ⟨rfl, hb2⟩
              have hbd := txnN_bd (sk := true) hll
              have hb0 := hbd.1
              have hb1 := hbd.2
              clear hbd
              go_wp2_with fail
              refine ⟨⟨q + txnN r.ws true, t + 1, j + 1, by omega, by omega, rfl, by go_num, by go_num, by omega, by omega, ?_, ?_, ?_, (below_drewN Hby.out _).trans (hb2.mono (by show _ ≤ wr.heap.size; omega))⟩, by simp [intOf]; omega⟩
              · rw [← Hsum.out, drop_get Hx.out]; simp only [logSum, Hct.out]; rw [← Nat.add_assoc]; omega
              · intro x hx
                rw [List.take_add_one, Hy.out] at hx
                rcases List.mem_append.1 hx with h | h
                · have := Hlo.out x h; omega
                · simp at h; have h2 := Hyr.out; have h3 := Hnum.out; omega
              · intro x hx
                have h1 := Hgt.out x hx
                have h2 := Hyr.out; have h3 := Hnum.out; omega
            · have hyq := beq_eq_false_iff_ne.2 hyr
              have hct : l.contains r.number = false := by
                refine not_contains fun hm => ?_
                have h3 := Hnum.out
                rcases mem_split t hm with h | h
                · have := Hlo.out _ h; omega
                · rw [drop_get Hy.out] at h
                  rcases List.mem_cons.1 h with h | h
                  · exact hyr h.symm
                  · have := Hgt.out _ h; omega
              have Hyr := Lib.hid hyr
              have Hct := Lib.hid hct
              clear hyr hct
              go_wp2_with fail
              go_quiet (fail)
              go_wp2_with fail
              refine (reftxn_good r.number r.A r.len r.cap r.ws false _ (hwsd _) Htx.out).mono ?_
              rintro e w2 ⟨rfl, hb2⟩
              have hbd := txnN_bd (sk := false) hll
              have hb0 := hbd.1
              have hb1 := hbd.2
              clear hbd
              go_wp2_with fail
              refine ⟨⟨q + txnN r.ws false, t, j + 1, by omega, by omega, rfl, rfl, by go_num, by omega, by omega, ?_, ?_, ?_, (below_drewN Hby.out _).trans (hb2.mono (by show _ ≤ wr.heap.size; omega))⟩, by simp [intOf]; omega⟩
              · rw [← Hsum.out, drop_get Hx.out]; simp only [logSum, Hct.out]; rw [← Nat.add_assoc]; omega
              · intro x hx
                have := Hlo.out x hx; omega
              · intro x hx
                have h3 := Hnum.out
                rw [drop_get Hy.out] at hx
                rcases List.mem_cons.1 hx with h | h
                · have h2 := Hyr.out; subst h; omega
                · have := Hgt.out x h; have h2 := Hyr.out; omega
          · have hdec : decide ((t : Int) < (len2 : Int)) = false := by simpa using htl
            have htake : l.take t = l := List.take_of_length_le (by have := hlen2.out; omega)
            have hdrop : l.drop t = [] := List.drop_of_length_le (by have := hlen2.out; omega)
            have hct : l.contains r.number = false := by
              refine not_contains fun hm => ?_
              have h3 := Hnum.out
              have := Hlo.out r.number (by rw [htake]; exact hm); omega
            have Hct := Lib.hid hct
            have Htake := Lib.hid htake
            have Hdrop := Lib.hid hdrop
            clear hct htake hdrop
            go_wp2_with fail
            go_quiet (fail)
            go_wp2_with fail
            refine (reftxn_good r.number r.A r.len r.cap r.ws false _ (hwsd _) Htx.out).mono ?_
            rintro e w2 ⟨rfl, hb2⟩
            have hbd := txnN_bd (sk := false) hll
            have hb0 := hbd.1
            have hb1 := hbd.2
            clear hbd
            go_wp2_with fail
            refine ⟨⟨q + txnN r.ws false, t, j + 1, by omega, by omega, rfl, rfl, by go_num, by omega, by omega, ?_, ?_, ?_, (below_drewN Hby.out _).trans (hb2.mono (by show _ ≤ wr.heap.size; omega))⟩, by simp [intOf]; omega⟩
            · rw [← Hsum.out, drop_get Hx.out]; simp only [logSum, Hct.out]; rw [← Nat.add_assoc]; omega
            · intro x hx
              have := Hlo.out x hx; omega
            · intro x hx
              rw [Hdrop.out] at hx; simp at hx
        · have hjl : m + j = len := by omega
          go_wp2_with fail
          go_ret2
          refine ⟨ret_pair ?_, Hb1.out.trans (Hby.out.mono hs1)⟩
          rw [Hc.out, ← Hsum.out, List.drop_of_length_le (l := rs) (i := m + j) (by have := hlen.out; omega)]
          simp [logSum]
end Go.Proofs.Ytfokcdgahiljdaa

/- towpathref26: holds. -/
import Derived.Test.YtgkhgbeiploefaaDoorStatC
namespace Go.Proofs.YtgkhgbeiploefaaDoor
open Go.RowKit
set_option linter.unusedVariables false
set_option linter.unusedSimpArgs false

set_option maxRecDepth 100000
def hbStep (k : Int) (b : Bool) (e : Ev) : Bool := if e.task = k then (if e.kind = 4 then true else if e.kind = 6 then false else b) else b
/-- Does a lane hold one behind the events? -/
def hbRun (k : Int) (es : List Ev) : Bool := es.foldl (hbStep k) false
theorem hbRun_snoc {es : List Ev} {i : Nat} {e : Ev} {k : Int} (h : es[i]? = some e) : hbRun k (es.take (i + 1)) = hbStep k (hbRun k (es.take i)) e := by
  unfold hbRun
  rw [List.take_add_one, h]
  simp [List.foldl_append]
def hRun (es : List Ev) (n : Nat) : List Bool := es.foldl holdB (List.replicate n false)
theorem hRun_snoc {es : List Ev} {i n : Nat} {e : Ev} (h : es[i]? = some e) : hRun (es.take (i + 1)) n = holdB (hRun (es.take i) n) e := by
  unfold hRun
  rw [List.take_add_one, h]
  simp [List.foldl_append]
theorem hRun_len (es : List Ev) (n : Nat) : (hRun es n).length = n := by
  unfold hRun
  have : ∀ (l : List Ev) (h : List Bool), (l.foldl holdB h).length = h.length := fun l => by
    induction l with
    | nil => intro h; rfl
    | cons e r ih => intro h; rw [List.foldl_cons, ih, holdB_len]
  rw [this]; simp
theorem hRun_at (es : List Ev) (n m : Nat) (hm : m < n) : (hRun es n)[m]? = some (hbRun ((m : Int) + 1) es) := by
  unfold hRun hbRun
  have key : ∀ (l : List Ev) (h : List Bool) (b : Bool), h.length = n → h[m]? = some b → (l.foldl holdB h)[m]? = some (l.foldl (hbStep ((m : Int) + 1)) b) := fun l => by
    induction l with
    | nil => intro h b _ hb; exact hb
    | cons e r ih =>
      intro h b hl hb
      rw [List.foldl_cons, List.foldl_cons]
      refine ih _ _ (by rw [holdB_len, hl]) ?_
      unfold holdB hbStep
      by_cases h1 : e.task = (m : Int) + 1
      · have h2 : 1 ≤ e.task ∧ e.task ≤ (h.length : Int) := by omega
        have h3 : e.task.toNat - 1 = m := by omega
        rw [if_pos h2, if_pos h1, h3]
        split
        · rw [List.getElem?_set_self (by omega)]
        · split
          · rw [List.getElem?_set_self (by omega)]
          · exact hb
      · rw [if_neg h1]
        split
        · have h3 : e.task.toNat - 1 ≠ m := by omega
          split
          · rw [List.getElem?_set_ne h3]; exact hb
          · split
            · rw [List.getElem?_set_ne h3]; exact hb
            · exact hb
        · exact hb
  exact key es _ false (by simp) (by rw [List.getElem?_replicate, if_pos hm])
/-- How many lanes of the first m hold one. -/
def cntH (h : List Bool) (m : Nat) : Int := (((h.take m).filter id).length : Nat)
theorem cntH_succ {h : List Bool} {m : Nat} {b : Bool} (hb : h[m]? = some b) : cntH h (m + 1) = cntH h m + if b then 1 else 0 := by
  unfold cntH
  rw [List.take_add_one, hb]
  cases b <;> simp [List.filter_append]
theorem cntH_all (h : List Bool) : cntH h h.length = busyN h := by unfold cntH busyN; rw [List.take_length]
theorem cntH_bd (h : List Bool) (m : Nat) : 0 ≤ cntH h m ∧ cntH h m ≤ m := by
  unfold cntH
  have h1 := List.length_filter_le id (h.take m)
  have h2 : (h.take m).length ≤ m := by rw [List.length_take]; omega
  omega
set_option maxHeartbeats 2000000 in
theorem holds_any (A : Option Addr) (len cap : Nat) (es : List Ev) (k : Int) (w : World) (he : EsAt w w.heap.size A len es) (hl : len ≤ 4398046511104) :
    Calls Tryd.prog 18 #[.slice A len cap, .int .i64 k] w fun e w' => e = .returned (.bool (hbRun k es)) ∧ w = w' := by
  have hlen := Lib.hid he.len
  have He := Lib.hid he
  have hfin : ∀ q : Bool, hbRun k es = q → Ending.returned (.bool q) = .returned (.bool (hbRun k es)) := fun q h => by subst h; rfl
  have Hf := Lib.hid hfin
  clear he hfin
  go_enter Tryd.func18, Tryd.ntmps18
  go_wp2_with fail
  go_loop [5] (fun i => ∃ j : Nat, j ≤ len ∧ i = .int .i64 ((j : Int) - 1) ∧ Hid (hbRun k es = hbRun k (es.take j))) (fun i => (RowKit.intOf i + 1).toNat)
  case atStart => exact ⟨len, Nat.le_refl _, rfl, Lib.hid (by rw [List.take_of_length_le (by rw [hlen.out]; exact Nat.le_refl _)])⟩
  case round =>
    obtain ⟨j, hj, rfl, HR⟩ := hrel
    by_cases hj0 : j = 0
    · subst hj0
      go_wp2_with fail
      go_ret
      exact ⟨Hf.out false (by rw [HR.out]; rfl), rfl⟩
    · obtain ⟨m, rfl⟩ : ∃ m, j = m + 1 := ⟨j - 1, by omega⟩
      have e1 : ((m + 1 : Nat) : Int) - 1 = (m : Int) := by omega
      rw [e1]
      obtain ⟨b, off, x, rfl, hbl, hx, x0, x1, -⟩ := He.out.cell6 (show m < len by omega)
      have hsn := hbRun_snoc (k := k) hx
      have Hsn := Lib.hid hsn
      have hi1 : (0 : Int) ≤ (m : Int) := by omega
      have hi2 : (m : Int) < (len : Int) := by omega
      clear hx hsn e1
      obtain ⟨task, kind, num, sh, ct, mk⟩ := x
      simp only at x0 x1 Hsn
      by_cases ht : task = k
      · subst ht
        have hbt := beq_self_eq_true task
        by_cases h4 : kind = 4
        · subst h4
          go_wp2_with fail
          go_ret
          exact ⟨Hf.out true (by rw [HR.out, Hsn.out]; simp [hbStep]), rfl⟩
        · by_cases h6 : kind = 6
          · subst h6
            go_wp2_with fail
            go_ret
            exact ⟨Hf.out false (by rw [HR.out, Hsn.out]; simp [hbStep]), rfl⟩
          · have hb4 : (kind == 4) = false := by simpa using h4
            have hb6 : (kind == 6) = false := by simpa using h6
            have Hn : Hid (hbRun task es = hbRun task (es.take m)) := Lib.hid (by rw [HR.out, Hsn.out]; simp [hbStep, h4, h6])
            clear h4 h6
            go_wp2_with fail
            exact ⟨⟨m, by omega, by go_num, Hn⟩, by simp [RowKit.intOf]⟩
      · have hbt : (task == k) = false := by simpa using ht
        have Hn : Hid (hbRun k es = hbRun k (es.take m)) := Lib.hid (by rw [HR.out, Hsn.out]; simp [hbStep, ht])
        clear ht
        go_wp2_with fail
        exact ⟨⟨m, by omega, by go_num, Hn⟩, by simp [RowKit.intOf]⟩
end Go.Proofs.YtgkhgbeiploefaaDoor

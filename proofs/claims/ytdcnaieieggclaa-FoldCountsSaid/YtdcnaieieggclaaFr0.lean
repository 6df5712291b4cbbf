/- What point reads, scans and last writers answer: plain words; the order of keys as the code asks it. -/
import Derived.Test.YtdcnaieieggclaaFq
import Derived.Test.YtdcnaieieggclaaFold2
import Derived.Sort.Walk0
namespace Go.Proofs.Ytdcnaieieggclaa
open Go.RowKit
set_option linter.unusedVariables false
set_option linter.unusedSimpArgs false

theorem less_eq (a b : ByteArray) : Op.bytesLess a.toList b.toList = ltB a b := by
  rw [Go.Proofs.bytesLess_eq, ByteArray.toList_eq, ByteArray.toList_eq]; rfl
def argB (rs : List RTx) (first : Int) : Bool := decide (0 ≤ first) && decide (first ≤ (rs.length : Int))
def scanErr (rs : List RTx) (first : Int) : Int := if logErr rs 1 ≠ 0 then logErr rs 1 else if argB rs first then 0 else 1
def scanL (rs : List RTx) (first : Int) (key fin : ByteArray) : List Ent := if scanErr rs first = 0 then (foldE rs first.toNat).filter (fun e => inB key fin e.key) else []
def getErr (rs : List RTx) (first : Int) (key : ByteArray) : Int := if scanErr rs first ≠ 0 then scanErr rs first else if keyB key then 0 else 1
def getV (rs : List RTx) (first : Int) (key : ByteArray) : Option ByteArray := if getErr rs first key = 0 then mget (foldM rs first.toNat) key else none
def writerErr (rs : List RTx) (number : Int) (key : ByteArray) : Int := if logErr rs 1 ≠ 0 then logErr rs 1 else if decide (1 ≤ number) && decide (number ≤ (rs.length : Int) + 1) && keyB key then 0 else 1
def writerN (rs : List RTx) (number : Int) (key : ByteArray) : Int := if writerErr rs number key = 0 then (lastN rs key (number - 1).toNat : Nat) else 0
theorem scanErr_zero {rs : List RTx} {first : Int} (h : scanErr rs first = 0) : logErr rs 1 = 0 ∧ 0 ≤ first ∧ first ≤ (rs.length : Int) := by
  unfold scanErr at h
  split at h
  · rename_i hc; exact absurd h hc
  · rename_i hc
    split at h
    · rename_i ha; simp only [argB, Bool.and_eq_true, decide_eq_true_eq] at ha; exact ⟨Classical.byContradiction hc, ha.1, ha.2⟩
    · cases h
theorem logErr_012 (rs : List RTx) (m : Int) : logErr rs m = 0 ∨ logErr rs m = 1 ∨ logErr rs m = 6 := by
  induction rs generalizing m with
  | nil => exact Or.inl rfl
  | cons r rest ih =>
    simp only [logErr]
    split
    · split
      · exact ih _
      · exact Or.inr (Or.inr rfl)
    · exact Or.inr (Or.inl rfl)
/-- How many entries a fold can have; how long its keys. -/
theorem len_stepM (m : KV) (x : Wr) : (stepM m x).length ≤ m.length + 1 := by
  unfold stepM; split
  · exact Nat.le_succ_of_le (sub_mdel _ _).length_le
  · exact length_mput_le _ _ _
theorem len_playM (m : KV) (ws : List Wr) : (playM m ws).length ≤ m.length + ws.length := by
  induction ws generalizing m with
  | nil => simp [playM]
  | cons x r ih => have h1 := ih (stepM m x); have h2 := len_stepM m x; rw [show playM m (x :: r) = playM (stepM m x) r from rfl, List.length_cons]; omega
theorem len_allW {rs : List RTx} (he : logErr rs 1 = 0) (n : Nat) : (allW rs n).length ≤ 32 * n := by
  induction n with
  | zero => simp [allW]
  | succ n ih =>
    cases hx : rs[n]? with
    | none =>
      have : allW rs (n + 1) = allW rs n := by unfold allW; rw [List.take_add_one, hx]; simp
      rw [this]; omega
    | some r =>
      have h1 := (logErr_ok he hx).1
      simp only [txB, Bool.and_eq_true, decide_eq_true_eq] at h1
      rw [allW_succ hx, List.length_append]; omega
theorem len_foldM {rs : List RTx} (he : logErr rs 1 = 0) {n : Nat} (hn : n ≤ rs.length) : (foldM rs n).length ≤ 2097152 := by
  have h1 := len_playM [] (allW rs n)
  have h2 := len_allW he n
  have h3 := logErr_le he
  simp only [List.length_nil] at h1
  unfold foldM; omega
theorem len_foldE (rs : List RTx) (n : Nat) : (foldE rs n).length = (foldM rs n).length := by rw [← ents_fold]; simp [entsOf, len_sortedK]
theorem len_foldE_le {rs : List RTx} (he : logErr rs 1 = 0) {n : Nat} (hn : n ≤ rs.length) : (foldE rs n).length ≤ 2097152 := by rw [len_foldE]; exact len_foldM he hn
theorem key_foldM {rs : List RTx} (he : logErr rs 1 = 0) {n : Nat} : ∀ p ∈ foldM rs n, p.1.size ≤ 64 := fun p hp => by
  have h1 := mget_of_mem (foldM_nodup rs n) (k := p.1) (v := p.2) hp
  obtain ⟨r, hr, x, hx, e⟩ := fold_written h1
  obtain ⟨i, hi⟩ := List.getElem?_of_mem hr
  have h2 := (logErr_ok he hi).1
  simp only [txB, Bool.and_eq_true, List.all_eq_true] at h2
  have h3 := h2.2 x hx
  simp only [wrB, keyB, Bool.and_eq_true, decide_eq_true_eq] at h3
  rw [← e]; exact h3.1.1.2
end Go.Proofs.Ytdcnaieieggclaa

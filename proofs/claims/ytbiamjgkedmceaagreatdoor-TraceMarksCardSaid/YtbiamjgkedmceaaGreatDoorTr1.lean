/- deps where some numbers are never added: they have no writes and have ended. -/
import Derived.Test.YtbiamjgkedmceaaGreatDoorTr0
namespace Go.Proofs.YtbiamjgkedmceaaGreatDoor
open Go.RowKit
set_option linter.unusedVariables false
set_option linter.unusedSimpArgs false

theorem TInv.skip {rs : List RTx} {m : Nat} {E : Nat → Bool} {d : DT} (h : TInv rs m E d) (hw : wsOf rs m = []) : TInv rs (m + 1) (E1 E (m + 1)) { d with top := (m : Int) + 1 } := by
  have hnd : ∀ b, ¬ dep rs (m + 1) b := fun b hb => by
    obtain ⟨-, x, hx, -⟩ := hb
    rw [Nat.add_sub_cancel, hw] at hx; cases hx
  have hE : ∀ j, j ≠ m + 1 → E1 E (m + 1) j = E j := fun j hj => by simp [E1, hj]
  have hEm : E1 E (m + 1) (m + 1) = true := by simp [E1]
  have hdl : ∀ a, a ≤ m → depL rs (E1 E (m + 1)) a = depL rs E a := fun a ha => by
    rw [depL_E1]
    refine List.filter_eq_self.2 fun b hb => ?_
    have := (dep_lt (mem_depL.1 hb).1).2
    simp; omega
  refine ⟨by simp, fun k => ?_, h.lastb, fun z => ?_, fun k => ?_, fun a ha1 ha2 hea b hb => ?_, fun j hj => ?_, h.no, h.nw⟩
  · simp only
    rw [lastN, hw, h.last, if_neg (by simp [hasKey])]
  · simp only
    rw [h.opn]
    by_cases hz : 1 ≤ z ∧ z ≤ m ∧ E z.toNat = false
    · rw [if_pos hz, if_pos ⟨hz.1, by have := hz.2.1; simp; omega, by rw [hE _ (by omega)]; exact hz.2.2⟩, hdl _ (by omega)]
    · rw [if_neg hz, if_neg]
      rintro ⟨h1, h2, h3⟩
      by_cases e : z.toNat = m + 1
      · rw [e, hEm] at h3; cases h3
      · rw [hE _ e] at h3
        exact hz ⟨h1, by simp at h2; omega, h3⟩
  · simp only
    rw [h.wts]
    by_cases hk : 1 ≤ k.1.1 ∧ k.1.1 ≤ m ∧ 1 ≤ k.2.1 ∧ depB rs k.1.1.toNat k.2.1.toNat = true ∧ E k.2.1.toNat = false
    · have := (dep_lt (depB_iff.1 hk.2.2.2.1)).2
      rw [if_pos hk, if_pos ⟨hk.1, by have := hk.2.1; simp; omega, hk.2.2.1, hk.2.2.2.1, by rw [hE _ (by omega)]; exact hk.2.2.2.2⟩]
    · rw [if_neg hk, if_neg]
      rintro ⟨h1, h2, h3, h4, h5⟩
      have h6 := depB_iff.1 h4
      by_cases e : k.1.1.toNat = m + 1
      · rw [e] at h6; exact hnd _ h6
      · have := (dep_lt h6).2
        rw [hE _ (by simp at h2; omega)] at h5
        exact hk ⟨h1, by simp at h2; omega, h3, h4, h5⟩
  · by_cases ham : a = m + 1
    · subst ham; exact absurd hb (hnd b)
    · have hba := (dep_lt hb).2
      rw [hE _ ham] at hea
      rw [hE _ (by omega)]
      exact h.closed a ha1 (by omega) hea b hb
  · rw [hE _ (by omega)]; exact h.fut j (by omega)
/-- A table that was handed some of the first m. -/
def TIG (rs : List RTx) (m : Nat) (E : Nat → Bool) (d : DT) : Prop := TInv rs m E { d with top := m } ∧ d.top ≤ m
def E0 (M : Nat) (j : Nat) : Bool := decide (1 ≤ j) && decide (j ≤ M)
theorem E0_succ (M : Nat) : E1 (E0 M) (M + 1) = E0 (M + 1) := by
  funext j
  simp only [E1, E0]
  by_cases h : j = M + 1
  · subst h; simp
  · have : decide (j ≤ M + 1) = decide (j ≤ M) := by simp; omega
    simp [h, this]
theorem TIG.start (rs : List RTx) : ∀ M, (∀ i, i < M → wsOf rs i = []) → TIG rs M (E0 M) ⟨[], [], [], 0⟩
  | 0, _ => ⟨TInv.start rs (E0 0) (fun j => by simp [E0]; omega), by simp⟩
  | M + 1, h => by
    obtain ⟨h1, -⟩ := TIG.start rs M (fun i hi => h i (by omega))
    have h2 := h1.skip (h M (by omega))
    rw [E0_succ] at h2
    exact ⟨by simpa using h2, by simp; omega⟩
section
variable {rs : List RTx} {m : Nat} {E : Nat → Bool} {d : DT}
theorem TIG.skip (h : TIG rs m E d) (hw : wsOf rs m = []) : TIG rs (m + 1) (E1 E (m + 1)) d := by
  have h2 := h.1.skip hw
  exact ⟨by simpa using h2, by have := h.2; simp; omega⟩
theorem TIG.add (h : TIG rs m E d) (hm : m + 1 ≤ 65536) {r : RTx} (hr : rs[m]? = some r) :
    TIG rs (m + 1) E ⟨putL d.last ((m : Int) + 1) r.ws r.ws.length, mput d.opn ((m : Int) + 1) (addWs d ((m : Int) + 1) r.ws r.ws.length).2, (addWs d ((m : Int) + 1) r.ws r.ws.length).1, (m : Int) + 1⟩ ∧ (addWs d ((m : Int) + 1) r.ws r.ws.length).2 = (depL rs E (m + 1)).length := by
  obtain ⟨h1, h2⟩ := h.1.add hm hr
  have e : addWs { d with top := (m : Int) } ((m : Int) + 1) r.ws r.ws.length = addWs d ((m : Int) + 1) r.ws r.ws.length := rfl
  rw [e] at h1 h2
  exact ⟨⟨by simpa using h1, by simp⟩, h2⟩
end
/-- A log, some of whose transactions are never handed on. -/
def maskL (M : Nat) (by_ : List Int) (rs : List RTx) : List RTx := rs.mapIdx fun i r => if i + 1 ≤ M ∨ by_.contains ((i : Int) + 1) = true then { r with ws := [] } else r
theorem maskL_get (M : Nat) (by_ : List Int) (rs : List RTx) (i : Nat) : (maskL M by_ rs)[i]? = (rs[i]?).map fun r => if i + 1 ≤ M ∨ by_.contains ((i : Int) + 1) = true then { r with ws := [] } else r := by
  unfold maskL; rw [List.getElem?_mapIdx]
theorem maskL_ws {M : Nat} {by_ : List Int} {rs : List RTx} {i : Nat} (h : i + 1 ≤ M ∨ by_.contains ((i : Int) + 1) = true) : wsOf (maskL M by_ rs) i = [] := by
  unfold wsOf; rw [maskL_get]
  cases rs[i]? with
  | none => rfl
  | some r => simp only [Option.map_some, if_pos h, Option.getD_some]
theorem maskL_at {M : Nat} {by_ : List Int} {rs : List RTx} {i : Nat} {r : RTx} (h : ¬ (i + 1 ≤ M ∨ by_.contains ((i : Int) + 1) = true)) (hr : rs[i]? = some r) : (maskL M by_ rs)[i]? = some r := by
  rw [maskL_get, hr, Option.map_some, if_neg h]
theorem maskL_len (M : Nat) (by_ : List Int) (rs : List RTx) : (maskL M by_ rs).length = rs.length := by simp [maskL]
end Go.Proofs.YtbiamjgkedmceaaGreatDoor

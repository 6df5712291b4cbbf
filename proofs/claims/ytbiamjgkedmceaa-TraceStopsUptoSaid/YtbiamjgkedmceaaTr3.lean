/- TraceHolds, TraceStops: the plain laws. -/
import Derived.Test.YtbiamjgkedmceaaTr2
namespace Go.Proofs.Ytbiamjgkedmceaa
open Go.RowKit
set_option linter.unusedVariables false
set_option linter.unusedSimpArgs false

section
variable (c : Cfg) (rs rs' : List RTx) (by_ : List Int)
/-- How the story stands behind so many events. -/
def stN : Nat → List Ev → TS → TS
  | 0, _, s => s
  | _ + 1, [], s => s
  | n + 1, e :: r, s => stN n r (s.fits c rs rs' by_ e).2
theorem tale_le : ∀ (l : List Ev) (s : TS), tale c rs rs' by_ l s ≤ l.length
  | [], s => by simp [tale]
  | e :: r, s => by
    unfold tale
    split
    · have := tale_le r (s.fits c rs rs' by_ e).2; simp; omega
    · simp
theorem tale_at : ∀ (l : List Ev) (s : TS) (i : Nat), i < tale c rs rs' by_ l s → ∃ e, l[i]? = some e ∧ ((stN c rs rs' by_ i l s).fits c rs rs' by_ e).1 = true ∧ stN c rs rs' by_ (i + 1) l s = ((stN c rs rs' by_ i l s).fits c rs rs' by_ e).2
  | [], s, i, h => by simp [tale] at h
  | e :: r, s, i, h => by
    unfold tale at h
    split at h
    · rename_i hf
      cases i with
      | zero => exact ⟨e, rfl, hf, by simp [stN]⟩
      | succ i =>
        obtain ⟨e', h1, h2, h3⟩ := tale_at r (s.fits c rs rs' by_ e).2 i (by omega)
        exact ⟨e', by simpa using h1, h2, h3⟩
    · omega
theorem tale_stop : ∀ (l : List Ev) (s : TS), tale c rs rs' by_ (l.take (tale c rs rs' by_ l s)) s = tale c rs rs' by_ l s
  | [], s => rfl
  | e :: r, s => by
    by_cases hf : (s.fits c rs rs' by_ e).1 = true
    · have h1 : tale c rs rs' by_ (e :: r) s = tale c rs rs' by_ r (s.fits c rs rs' by_ e).2 + 1 := by rw [tale, if_pos hf]
      rw [h1, List.take_succ_cons, tale, if_pos hf, tale_stop r]
    · have h1 : tale c rs rs' by_ (e :: r) s = 0 := by rw [tale, if_neg hf]
      rw [h1]; rfl
theorem tale_more : ∀ (l : List Ev) (s : TS) (more : List Ev), tale c rs rs' by_ l s < l.length → tale c rs rs' by_ (l.take (tale c rs rs' by_ l s + 1) ++ more) s = tale c rs rs' by_ l s
  | [], s, more, h => by simp at h
  | e :: r, s, more, h => by
    by_cases hf : (s.fits c rs rs' by_ e).1 = true
    · have h1 : tale c rs rs' by_ (e :: r) s = tale c rs rs' by_ r (s.fits c rs rs' by_ e).2 + 1 := by rw [tale, if_pos hf]
      rw [h1] at h ⊢
      rw [List.take_succ_cons, List.cons_append, tale, if_pos hf, tale_more r _ more (by simpa using h)]
    · have h1 : tale c rs rs' by_ (e :: r) s = 0 := by rw [tale, if_neg hf]
      rw [h1]
      simp only [Nat.zero_add, List.take_succ_cons, List.take_zero, List.cons_append, List.nil_append]
      rw [tale, if_neg hf]
end
/-- How many wait for others. -/
def waitN (rs' : List RTx) (m : Nat) (E : Nat → Bool) : Nat := ((List.range (m + 1)).filter fun a => decide (1 ≤ a) && !E a && decide (depL rs' E a ≠ [])).length
def TS.out (rs' : List RTx) (s : TS) : Nat := s.line.length + waitN rs' s.m s.E
theorem waitN_add {rs' : List RTx} {m : Nat} {E : Nat → Bool} (hE : E (m + 1) = false) : waitN rs' (m + 1) E = waitN rs' m E + if depL rs' E (m + 1) = [] then 0 else 1 := by
  unfold waitN
  rw [show m + 1 + 1 = (m + 1) + 1 from rfl, List.range_succ, List.filter_append, List.length_append]
  congr 1
  by_cases h : depL rs' E (m + 1) = []
  · simp [h]
  · simp [h, hE]
theorem waitN_skip {rs' : List RTx} {m : Nat} {E : Nat → Bool} : waitN rs' (m + 1) (E1 E (m + 1)) = waitN rs' m E := by
  unfold waitN
  rw [show m + 1 + 1 = (m + 1) + 1 from rfl, List.range_succ, List.filter_append, List.length_append]
  have h2 : ([m + 1].filter fun a => decide (1 ≤ a) && !E1 E (m + 1) a && decide (depL rs' (E1 E (m + 1)) a ≠ [])) = [] := by simp [E1]
  rw [h2, List.length_nil, Nat.add_zero]
  congr 1
  refine List.filter_congr fun a ha => ?_
  have hlt := List.mem_range.1 ha
  have h3 : depL rs' (E1 E (m + 1)) a = depL rs' E a := by
    rw [depL_E1]
    refine List.filter_eq_self.2 fun b hb => ?_
    have := (dep_lt (mem_depL.1 hb).1).2
    simp; omega
  have h4 : E1 E (m + 1) a = E a := by
    have : a ≠ m + 1 := by omega
    simp [E1, this]
  rw [h3, h4]
theorem filter_ne_nil {l : List Nat} (hn : l.Nodup) (n : Nat) (h : l ≠ []) : (l.filter fun b => decide (b ≠ n)) = [] ↔ l = [n] := by
  constructor
  · intro h1
    have h2 : ∀ b ∈ l, b = n := fun b hb => by
      have := List.filter_eq_nil_iff.1 h1 b hb
      simpa using this
    cases l with
    | nil => exact absurd rfl h
    | cons a r =>
      have e1 := h2 a (by simp)
      subst e1
      cases r with
      | nil => rfl
      | cons b r =>
        have e2 := h2 b (by simp)
        subst e2
        simp at hn
  · rintro rfl; simp
theorem waitN_free {rs' : List RTx} {m n : Nat} {E : Nat → Bool} (hn : depL rs' E n = []) : waitN rs' m (E1 E n) + (freeL rs' m E n).length = waitN rs' m E := by
  unfold waitN freeL
  induction List.range (m + 1) with
  | nil => rfl
  | cons a r ih =>
    rw [List.filter_cons, List.filter_cons, List.filter_cons]
    have hd : depL rs' (E1 E n) a = (depL rs' E a).filter fun b => decide (b ≠ n) := depL_E1 _ _ _ _
    by_cases ha : a = n
    · subst ha
      have p1 : (decide (1 ≤ a) && !E1 E a a && decide (depL rs' (E1 E a) a ≠ [])) = false := by simp [E1]
      have p2 : (decide (1 ≤ a) && !E a && decide (depL rs' E a = [a])) = false := by rw [hn]; simp
      have p3 : (decide (1 ≤ a) && !E a && decide (depL rs' E a ≠ [])) = false := by rw [hn]; simp
      rw [p1, p2, p3]
      simpa using ih
    · have he : E1 E n a = E a := by simp [E1, ha]
      by_cases hb : (decide (1 ≤ a) && !E a) = true
      · by_cases h0 : depL rs' E a = []
        · have p1 : (decide (1 ≤ a) && !E1 E n a && decide (depL rs' (E1 E n) a ≠ [])) = false := by rw [hd, h0]; simp
          have p2 : (decide (1 ≤ a) && !E a && decide (depL rs' E a = [n])) = false := by rw [h0]; simp
          have p3 : (decide (1 ≤ a) && !E a && decide (depL rs' E a ≠ [])) = false := by rw [h0]; simp
          rw [p1, p2, p3]
          simpa using ih
        · have hf := filter_ne_nil (depL_nodup rs' E a) n h0
          have p3 : (decide (1 ≤ a) && !E a && decide (depL rs' E a ≠ [])) = true := by rw [hb]; simp [h0]
          by_cases h1 : depL rs' E a = [n]
          · have p1 : (decide (1 ≤ a) && !E1 E n a && decide (depL rs' (E1 E n) a ≠ [])) = false := by rw [hd, hf.2 h1]; simp
            have p2 : (decide (1 ≤ a) && !E a && decide (depL rs' E a = [n])) = true := by rw [hb]; simp [h1]
            rw [p1, p2, p3]
            simp only [Bool.false_eq_true, if_false, if_true, List.length_cons]
            omega
          · have p1 : (decide (1 ≤ a) && !E1 E n a && decide (depL rs' (E1 E n) a ≠ [])) = true := by
              rw [he, hb, hd, Bool.true_and]
              exact decide_eq_true fun h => h1 (hf.1 h)
            have p2 : (decide (1 ≤ a) && !E a && decide (depL rs' E a = [n])) = false := by simp [h1]
            rw [p1, p2, p3]
            simp only [Bool.false_eq_true, if_false, if_true, List.length_cons]
            omega
      · have hb2 : (decide (1 ≤ a) && !E a) = false := by simpa using hb
        rw [he, hb2]
        simpa using ih
/-- What a step that is one tells. -/
def Tells (c : Cfg) (rs' : List RTx) (s : TS) (a : TrA × TS) : Prop := a.1.2.2 = true →
  s.G.mark ≤ a.2.G.mark ∧ (a.1.1 = 1 → a.1.2.1.number = (s.at_ : Int) + 1 ∧ a.2.at_ = s.at_ + 1) ∧ (a.1.1 ≠ 1 → a.2.at_ = s.at_) ∧
    (a.1.1 = 3 → a.1.2.1.number = s.at_ ∧ (s.at_ : Int) - s.G.mark ≤ c.window ∧ a.2.out rs' = s.out rs' + 1) ∧ (a.1.1 = 4 → a.2.out rs' + 1 = s.out rs') ∧ (a.1.1 ≠ 3 → a.1.1 ≠ 4 → a.2.out rs' = s.out rs')
theorem Tells.no {c : Cfg} {rs' : List RTx} {s : TS} {k : Int} {e : Ev} {s' : TS} : Tells c rs' s ((k, e, false), s') := fun h => by cases h
theorem Tells.still {c : Cfg} {rs' : List RTx} {s : TS} {k : Int} {e : Ev} {b : Bool} {s' : TS} (h1 : k ≠ 1) (h3 : k ≠ 3) (h4 : k ≠ 4) (hG : s'.G = s.G) (ha : s'.at_ = s.at_) (ho : s'.out rs' = s.out rs') : Tells c rs' s ((k, e, b), s') := fun _ =>
  ⟨by rw [hG]; exact Nat.le_refl _, fun h => absurd h h1, fun _ => ha, fun h => absurd h h3, fun h => absurd h h4, fun _ _ => ho⟩
section
variable {c : Cfg} {rs rs' : List RTx} {by_ : List Int} {M k : Nat} {s : TS}
theorem tells_feed (h : SInv c rs rs' M k s) : Tells c rs' s (s.feed c rs rs' by_) := by
  unfold TS.feed
  by_cases hh : s.holds = false
  · rw [if_pos hh]
    by_cases hl : rs.length ≤ s.at_
    · rw [if_pos hl]; exact Tells.no
    · rw [if_neg hl]
      intro _
      have hm : s.m = s.at_ := by unfold TS.m; rw [hh]; simp
      have hm2 : TS.m { s with at_ := s.at_ + 1, holds := true } = s.m := by rw [hm]; simp [TS.m]
      refine ⟨Nat.le_refl _, fun _ => ⟨rfl, rfl⟩, fun h => absurd rfl h, fun h => by simp at h, fun h => by simp at h, fun _ _ => ?_⟩
      unfold TS.out; rw [hm2]
  · have hh2 : s.holds = true := by simpa using hh
    rw [if_neg hh]
    have hat := h.hat hh2
    have hm : s.m = s.at_ - 1 := by unfold TS.m; rw [hh2]; simp
    by_cases hb : by_.contains (s.at_ : Int) = true
    · rw [if_pos hb]
      refine Tells.still (by omega) (by omega) (by omega) rfl rfl ?_
      have hm2 : TS.m { s with holds := false, E := E1 s.E s.at_ } = s.m + 1 := by rw [hm]; simp [TS.m]; omega
      unfold TS.out
      rw [hm2]
      have e : s.at_ = s.m + 1 := by omega
      simp only
      rw [e, waitN_skip]
    · rw [if_neg hb]
      by_cases hw : c.window < (s.at_ : Int) - s.G.mark
      · rw [if_pos hw]; exact Tells.no
      · rw [if_neg hw]
        intro _
        refine ⟨Nat.le_refl _, fun h => by simp at h, fun _ => rfl, fun _ => ⟨rfl, by omega, ?_⟩, fun h => by simp at h, fun h => absurd rfl h⟩
        have hm2 : ∀ l, TS.m { s with holds := false, line := l } = s.m + 1 := fun l => by rw [hm]; simp [TS.m]; omega
        unfold TS.out
        rw [hm2]
        have e : s.at_ = s.m + 1 := by omega
        simp only
        rw [waitN_add (h.fut _ (by omega)), ← e]
        by_cases hd : depL rs' s.E s.at_ = []
        · rw [if_pos hd, hd, List.length_nil, if_pos rfl, List.length_append]; simp; omega
        · rw [if_neg hd, if_neg (fun h => hd (List.length_eq_zero_iff.1 h))]; omega
theorem tells_lane {i : Nat} : Tells c rs' s (s.lane c rs i) := by
  unfold TS.lane
  cases hi : s.lanes[i]? with
  | none => exact Tells.no
  | some l =>
    simp only
    split
    · cases hl : s.line with
      | nil => exact Tells.no
      | cons n r =>
        simp only
        intro _
        refine ⟨Nat.le_refl _, fun h => by simp at h, fun _ => rfl, fun h => by simp at h, fun _ => ?_, fun _ h => absurd rfl h⟩
        unfold TS.out TS.m
        simp only [hl, List.length_cons]; omega
    · cases hx : l.ws[l.sent]? with
      | some x =>
        simp only
        split
        · exact Tells.no
        · exact Tells.still (by omega) (by omega) (by omega) rfl rfl rfl
      | none =>
        simp only
        split
        · exact Tells.no
        · exact Tells.still (by omega) (by omega) (by omega) rfl rfl rfl
theorem tells_owner {i : Nat} : Tells c rs' s (s.owner i) := by
  unfold TS.owner
  cases hi : s.qs[i]? with
  | none => exact Tells.no
  | some q =>
    cases q with
    | nil => exact Tells.no
    | cons a r =>
      simp only
      split
      · exact Tells.still (by omega) (by omega) (by omega) rfl rfl rfl
      · exact Tells.still (by omega) (by omega) (by omega) rfl rfl rfl
theorem tells_gates (h : SInv c rs rs' M k s) : Tells c rs' s (s.gates rs') := by
  unfold TS.gates
  cases hg : s.gone with
  | nil => exact Tells.no
  | cons n r =>
    simp only
    intro _
    have hn := (h.busy n (by rw [hg]; simp)).2.2.2
    refine ⟨(h.ok.done n).2.1, fun h => by simp at h, fun _ => rfl, fun h => by simp at h, fun h => by simp at h, fun _ _ => ?_⟩
    have := waitN_free (m := s.m) hn
    unfold TS.out
    simp only [List.length_append]
    have e : TS.m { s with gone := r, line := s.line ++ freeL rs' s.m s.E n, E := E1 s.E n, G := (s.G.done n).1 } = s.m := rfl
    rw [e]
    omega
theorem tells_call {e : Ev} : Tells c rs' s (s.call c e) := by
  unfold TS.call
  cases hc : mget s.calls e.task with
  | none => exact Tells.still (by omega) (by omega) (by omega) rfl rfl rfl
  | some x =>
    simp only
    repeat (first | exact Tells.no | exact Tells.still (by omega) (by omega) (by omega) rfl rfl rfl | split)
theorem tells_step {e : Ev} (h : SInv c rs rs' M k s) : Tells c rs' s (s.step c rs rs' by_ e) := by
  unfold TS.step
  by_cases h1 : e.task < 0
  · rw [if_pos h1]; exact tells_call
  rw [if_neg h1]
  by_cases h2 : e.task = 0
  · rw [if_pos h2]; exact tells_feed h
  rw [if_neg h2]
  by_cases h3 : e.task ≤ c.lanes
  · rw [if_pos h3]; exact tells_lane
  rw [if_neg h3]
  by_cases h4 : e.task ≤ c.lanes + c.shards
  · rw [if_pos h4]; exact tells_owner
  rw [if_neg h4]
  by_cases h5 : e.task = c.lanes + c.shards + 1
  · rw [if_pos h5]; exact tells_gates h
  rw [if_neg h5]; exact Tells.no
/-- What an event that passes tells. -/
theorem fits_tell {e : Ev} (h : SInv c rs rs' M k s) (hf : (s.fits c rs rs' by_ e).1 = true) :
    e.mark = (s.fits c rs rs' by_ e).2.G.mark ∧ s.G.mark ≤ (s.fits c rs rs' by_ e).2.G.mark ∧ (e.kind = 1 → e.number = (s.at_ : Int) + 1 ∧ (s.fits c rs rs' by_ e).2.at_ = s.at_ + 1) ∧ (e.kind ≠ 1 → (s.fits c rs rs' by_ e).2.at_ = s.at_) ∧
      (e.kind = 3 → e.number = s.at_ ∧ (s.at_ : Int) - s.G.mark ≤ c.window ∧ (s.fits c rs rs' by_ e).2.out rs' = s.out rs' + 1) ∧ (e.kind = 4 → (s.fits c rs rs' by_ e).2.out rs' + 1 = s.out rs') ∧ (e.kind ≠ 3 → e.kind ≠ 4 → (s.fits c rs rs' by_ e).2.out rs' = s.out rs') := by
  unfold TS.fits at hf
  simp only [Bool.and_eq_true, decide_eq_true_eq] at hf
  obtain ⟨h1, h2⟩ := hf
  have ht := tells_step (by_ := by_) (e := e) h h1
  have hk : e.kind = (s.step c rs rs' by_ e).1.1 := by have := congrArg Ev.kind h2; exact this
  have hn : e.number = (s.step c rs rs' by_ e).1.2.1.number := by have := congrArg Ev.number h2; exact this
  have hm : e.mark = (s.step c rs rs' by_ e).2.G.mark := by have := congrArg Ev.mark h2; exact this
  have hs : (s.fits c rs rs' by_ e).2 = (s.step c rs rs' by_ e).2 := rfl
  rw [hs, hk, hn, hm]
  exact ⟨rfl, ht⟩
theorem SInv.fits {e : Ev} (h : SInv c rs rs' M k s) (hM : ∀ b ∈ by_, (M : Int) + 2 ≤ b) (hw : ∀ p, (wsOf rs p).length ≤ 32 ∧ ∀ x ∈ wsOf rs p, wrB x = true) : SInv c rs rs' M (k + 1) (s.fits c rs rs' by_ e).2 := h.step hM hw
end
end Go.Proofs.Ytbiamjgkedmceaa

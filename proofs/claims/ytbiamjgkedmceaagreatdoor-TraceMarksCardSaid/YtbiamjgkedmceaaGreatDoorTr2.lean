/- A trace's story: what holds of it at any time, and stays so. -/
import Derived.Test.YtbiamjgkedmceaaGreatDoorTr1
namespace Go.Proofs.YtbiamjgkedmceaaGreatDoor
open Go.RowKit
set_option linter.unusedVariables false
set_option linter.unusedSimpArgs false

def nums (l : List Ln) : List Nat := (l.map Ln.num).filter fun n => decide (n ≠ 0)
theorem nums_cons (h : Ln) (l : List Ln) : nums (h :: l) = if h.num = 0 then nums l else h.num :: nums l := by
  unfold nums; rw [List.map_cons, List.filter_cons]; simp only [decide_eq_true_eq, ne_eq]
  by_cases hz : h.num = 0
  · simp [hz]
  · simp [hz]
theorem nums_take {h : Ln} {n : Nat} (h' : Ln) (hn : h'.num = n) (h0 : n ≠ 0) : ∀ {l : List Ln} {i : Nat}, l[i]? = some h → h.num = 0 → (nums (l.set i h')).Perm (n :: nums l)
  | [], i, hi, _ => by simp at hi
  | x :: l, 0, hi, hz => by
    simp at hi; subst hi
    rw [List.set_cons_zero, nums_cons, nums_cons, if_pos hz, if_neg (by rw [hn]; exact h0), hn]
  | x :: l, i + 1, hi, hz => by
    have ih := nums_take h' hn h0 (l := l) (i := i) (by simpa using hi) hz
    rw [List.set_cons_succ, nums_cons, nums_cons]
    by_cases hx : x.num = 0
    · rw [if_pos hx, if_pos hx]; exact ih
    · rw [if_neg hx, if_neg hx]
      exact (ih.cons _).trans (List.Perm.swap _ _ _)
theorem nums_done {h : Ln} (h' : Ln) (hn : h'.num = 0) : ∀ {l : List Ln} {i : Nat}, l[i]? = some h → h.num ≠ 0 → (nums l).Perm (h.num :: nums (l.set i h'))
  | [], i, hi, _ => by simp at hi
  | x :: l, 0, hi, hz => by
    simp at hi; subst hi
    rw [List.set_cons_zero, nums_cons, nums_cons, if_neg hz, if_pos hn]
  | x :: l, i + 1, hi, hz => by
    have ih := nums_done h' hn (l := l) (i := i) (by simpa using hi) hz
    rw [List.set_cons_succ, nums_cons, nums_cons]
    by_cases hx : x.num = 0
    · rw [if_pos hx, if_pos hx]; exact ih
    · rw [if_neg hx, if_neg hx]
      exact (ih.cons _).trans (List.Perm.swap _ _ _)
theorem nums_same {h : Ln} (h' : Ln) (hn : h'.num = h.num) : ∀ {l : List Ln} {i : Nat}, l[i]? = some h → nums (l.set i h') = nums l
  | [], i, hi => by simp at hi
  | x :: l, 0, hi => by
    simp at hi; subst hi
    rw [List.set_cons_zero, nums_cons, nums_cons, hn]
  | x :: l, i + 1, hi => by
    rw [List.set_cons_succ, nums_cons, nums_cons, nums_same h' hn (l := l) (i := i) (by simpa using hi)]
theorem nums_modify (i : Nat) (f : Ln → Ln) (hf : ∀ h, (f h).num = h.num) : ∀ (l : List Ln), nums (l.modify i f) = nums l := by
  intro l
  unfold nums
  congr 1
  refine List.ext_getElem? fun j => ?_
  rw [List.getElem?_map, List.getElem?_map, List.getElem?_modify]
  cases l[j]? with
  | none => rfl
  | some x => by_cases h : i = j <;> simp [h, hf]
/-- What holds of a story behind k steps. -/
structure SInv (c : Cfg) (rs rs' : List RTx) (M k : Nat) (s : TS) : Prop where
  atl : s.at_ ≤ rs.length
  hM : M ≤ s.m
  hat : s.holds = true → 1 ≤ s.at_
  fut : ∀ j, s.m < j → s.E j = false
  busy : ∀ n ∈ s.line ++ (s.gone ++ nums s.lanes), 1 ≤ n ∧ n ≤ s.m ∧ s.E n = false ∧ depL rs' s.E n = []
  nodup : (s.line ++ (s.gone ++ nums s.lanes)).Nodup
  ll : (s.lanes.length : Int) = c.lanes
  lw : ∀ h ∈ s.lanes, h.sent ≤ h.ws.length ∧ h.ws.length ≤ 32 ∧ h.ack ≤ k ∧ ∀ x ∈ h.ws, wrB x = true
  ql : (s.qs.length : Int) = c.shards
  qw : ∀ q ∈ s.qs, (q.length : Int) ≤ c.queue ∧ ∀ p ∈ q, (0 < p.1 ∧ p.1 ≤ c.lanes) ∨ (p.1 < 0 ∧ (mget s.calls p.1).isSome = true)
  cw : ∀ t x, mget s.calls t = some x → t < 0 ∧ -(k : Int) ≤ x.1 ∧ x.1 ≤ k
  ok : s.G.Ok
section
variable {c : Cfg} {rs rs' : List RTx} {M k : Nat} {s : TS}
theorem SInv.more (h : SInv c rs rs' M k s) : SInv c rs rs' M (k + 1) s :=
  ⟨h.atl, h.hM, h.hat, h.fut, h.busy, h.nodup, h.ll, fun l hl => ⟨(h.lw l hl).1, (h.lw l hl).2.1, by have := (h.lw l hl).2.2.1; omega, (h.lw l hl).2.2.2⟩, h.ql, h.qw, fun t x hx => by have := h.cw t x hx; omega, h.ok⟩
theorem SInv.line_len (h : SInv c rs rs' M k s) : s.line.length ≤ s.m + 1 := by
  have := nodup_le (l := s.line) (l' := List.range (s.m + 1)) (List.nodup_append.1 h.nodup).1 (fun n hn => by
    have := (h.busy n (by simp [hn])).2.1
    simp; omega)
  simpa using this
theorem SInv.gone_len (h : SInv c rs rs' M k s) : s.gone.length ≤ s.m + 1 := by
  have := nodup_le (l := s.gone) (l' := List.range (s.m + 1)) (List.nodup_append.1 (List.nodup_append.1 h.nodup).2.1).1 (fun n hn => by
    have := (h.busy n (by simp [hn])).2.1
    simp; omega)
  simpa using this
theorem SInv.ml (h : SInv c rs rs' M k s) : s.m ≤ rs.length := by
  have := h.atl; unfold TS.m; split <;> omega
theorem SInv.feed {by_ : List Int} (h : SInv c rs rs' M k s) (hM : ∀ b ∈ by_, (M : Int) + 2 ≤ b) : SInv c rs rs' M (k + 1) (s.feed c rs rs' by_).2 := by
  unfold TS.feed
  by_cases hh : s.holds = false
  · rw [if_pos hh]
    by_cases hl : rs.length ≤ s.at_
    · rw [if_pos hl]; exact h.more
    · rw [if_neg hl]
      have hm : s.m = s.at_ := by unfold TS.m; rw [hh]; simp
      have hm2 : TS.m { s with at_ := s.at_ + 1, holds := true } = s.m := by rw [hm]; simp [TS.m]
      obtain ⟨a1, a2, a3, a4, a5, a6, a7, a8, a9, a10, a11, a12⟩ := h.more
      exact ⟨by simp; omega, by rw [hm2]; exact a2, fun _ => by simp, fun j hj => a4 j (by rw [hm2] at hj; exact hj), fun n hn => by rw [hm2]; exact a5 n hn, a6, a7, a8, a9, a10, a11, a12⟩
  · have hh2 : s.holds = true := by simpa using hh
    rw [if_neg hh]
    have hat := h.hat hh2
    have hm : s.m = s.at_ - 1 := by unfold TS.m; rw [hh2]; simp
    by_cases hb : by_.contains (s.at_ : Int) = true
    · rw [if_pos hb]
      have hm2 : TS.m { s with holds := false, E := E1 s.E s.at_ } = s.m + 1 := by rw [hm]; simp [TS.m]; omega
      obtain ⟨a1, a2, a3, a4, a5, a6, a7, a8, a9, a10, a11, a12⟩ := h.more
      refine ⟨a1, by rw [hm2]; omega, fun h => by simp at h, fun j hj => ?_, fun n hn => ?_, a6, a7, a8, a9, a10, a11, a12⟩
      · rw [hm2] at hj
        have : j ≠ s.at_ := by omega
        simp only [E1, this, decide_false, Bool.false_or]
        exact a4 j (by omega)
      · obtain ⟨b1, b2, b3, b4⟩ := a5 n hn
        refine ⟨b1, by rw [hm2]; omega, ?_, ?_⟩
        · have : n ≠ s.at_ := by omega
          simp only [E1, this, decide_false, Bool.false_or]; exact b3
        · rw [depL_E1, b4]; rfl
    · rw [if_neg hb]
      by_cases hw : c.window < (s.at_ : Int) - s.G.mark
      · rw [if_pos hw]; exact h.more
      · rw [if_neg hw]
        obtain ⟨a1, a2, a3, a4, a5, a6, a7, a8, a9, a10, a11, a12⟩ := h.more
        have hm2 : ∀ l, TS.m { s with holds := false, line := l } = s.m + 1 := fun l => by rw [hm]; simp [TS.m]; omega
        refine ⟨a1, by rw [hm2]; omega, fun h => by simp at h, fun j hj => a4 j (by rw [hm2] at hj; omega), fun n hn => ?_, ?_, a7, a8, a9, a10, a11, a12⟩
        · rw [hm2]
          simp only at hn ⊢
          by_cases hd : (depL rs' s.E s.at_).length = 0
          · rw [if_pos hd] at hn
            rw [List.append_assoc] at hn
            rcases List.mem_append.1 hn with hn | hn
            · obtain ⟨b1, b2, b3, b4⟩ := a5 n (by simp [hn]); exact ⟨b1, by omega, b3, b4⟩
            · rcases List.mem_append.1 hn with hn | hn
              · simp at hn; subst hn
                exact ⟨hat, by omega, a4 _ (by omega), List.length_eq_zero_iff.1 hd⟩
              · obtain ⟨b1, b2, b3, b4⟩ := a5 n (by rw [List.mem_append]; exact Or.inr hn); exact ⟨b1, by omega, b3, b4⟩
          · rw [if_neg hd] at hn
            obtain ⟨b1, b2, b3, b4⟩ := a5 n hn; exact ⟨b1, by omega, b3, b4⟩
        · simp only
          split
          · have hp : (s.line ++ [s.at_] ++ (s.gone ++ nums s.lanes)).Perm (s.at_ :: (s.line ++ (s.gone ++ nums s.lanes))) := by
              rw [List.append_assoc]; exact List.perm_middle
            rw [hp.nodup_iff, List.nodup_cons]
            exact ⟨fun hx => by have := (a5 _ hx).2.1; omega, a6⟩
          · exact a6
theorem cntW_sub : ∀ (ws : List Wr), (cntW ws).length ≤ ws.length ∧ ∀ x ∈ cntW ws, x ∈ ws
  | [] => ⟨Nat.le_refl _, fun x hx => hx⟩
  | x :: r => by
    obtain ⟨h1, h2⟩ := cntW_sub r
    unfold cntW
    split
    · exact ⟨by simp; omega, fun y hy => by simp [h2 y hy]⟩
    · exact ⟨by simpa using h1, fun y hy => by
        rcases List.mem_cons.1 hy with rfl | hy
        · simp
        · simp [h2 y hy]⟩
theorem SInv.lane {i : Nat} (h : SInv c rs rs' M k s) (hw : ∀ p, (wsOf rs p).length ≤ 32 ∧ ∀ x ∈ wsOf rs p, wrB x = true) : SInv c rs rs' M (k + 1) (s.lane c rs i).2 := by
  unfold TS.lane
  cases hi : s.lanes[i]? with
  | none => exact h.more
  | some l =>
    simp only
    have hil := (List.getElem?_eq_some_iff.1 hi).1
    have hlm := List.mem_of_getElem? hi
    by_cases h0 : l.num = 0
    · rw [if_pos h0]
      cases hl : s.line with
      | nil => simp only; exact h.more
      | cons n r =>
        simp only
        obtain ⟨a1, a2, a3, a4, a5, a6, a7, a8, a9, a10, a11, a12⟩ := h.more
        rw [hl] at a5 a6
        have hn0 : n ≠ 0 := by have := (a5 n (by simp)).1; omega
        have hp := nums_take (h := l) (⟨n, cntW (wsOf rs (n - 1)), 0, 0⟩ : Ln) rfl hn0 hi h0
        have hp2 : (r ++ (s.gone ++ nums (s.lanes.set i ⟨n, cntW (wsOf rs (n - 1)), 0, 0⟩))).Perm (n :: r ++ (s.gone ++ nums s.lanes)) := by
          refine ((hp.append_left s.gone).append_left r).trans ?_
          refine (List.Perm.append_left r List.perm_middle).trans ?_
          exact List.perm_middle
        refine ⟨a1, a2, a3, a4, fun q hq => a5 q (hp2.mem_iff.1 hq), hp2.nodup_iff.2 a6, by simpa using a7, fun h' hh => ?_, a9, a10, a11, a12⟩
        rcases List.mem_or_eq_of_mem_set hh with hh | rfl
        · exact a8 h' hh
        · obtain ⟨c1, c2⟩ := cntW_sub (wsOf rs (n - 1))
          exact ⟨Nat.zero_le _, by have := (hw (n - 1)).1; simp only; omega, Nat.zero_le _, fun x hx => (hw (n - 1)).2 x (c2 x hx)⟩
    · rw [if_neg h0]
      cases hx : l.ws[l.sent]? with
      | some x =>
        simp only
        split
        · exact h.more
        · obtain ⟨a1, a2, a3, a4, a5, a6, a7, a8, a9, a10, a11, a12⟩ := h.more
          have hsl := (List.getElem?_eq_some_iff.1 hx).1
          rename_i hq
          refine ⟨a1, a2, a3, a4, ?_, ?_, by simpa using a7, fun h' hh => ?_, by simpa using a9, fun q hq' => ?_, a11, a12⟩
          · simp only [nums_same (h := l) ({ l with sent := l.sent + 1 } : Ln) rfl hi]; exact a5
          · simp only [nums_same (h := l) ({ l with sent := l.sent + 1 } : Ln) rfl hi]; exact a6
          · rcases List.mem_or_eq_of_mem_set hh with hh | rfl
            · exact a8 h' hh
            · exact ⟨hsl, (a8 l hlm).2⟩
          · obtain ⟨j, hj⟩ := List.getElem?_of_mem hq'
            simp only [List.getElem?_modify] at hj
            cases hqj : s.qs[j]? with
            | none => rw [hqj] at hj; simp at hj
            | some q0 =>
              rw [hqj] at hj
              by_cases hjk : shd c x.key = j
              · simp [hjk] at hj
                subst hj
                obtain ⟨q1, q2⟩ := a10 q0 (List.mem_of_getElem? hqj)
                rw [hjk, hqj] at hq
                simp at hq
                refine ⟨by simp; omega, fun p hp => ?_⟩
                rcases List.mem_append.1 hp with hp | hp
                · exact q2 p hp
                · simp at hp; subst hp; exact Or.inl ⟨by simp only; omega, by simp only; omega⟩
              · simp [hjk] at hj
                subst hj
                exact a10 q0 (List.mem_of_getElem? hqj)
      | none =>
        simp only
        split
        · exact h.more
        · obtain ⟨a1, a2, a3, a4, a5, a6, a7, a8, a9, a10, a11, a12⟩ := h.more
          have hp := nums_done (h := l) ({ l with num := 0 } : Ln) rfl hi h0
          have hp2 : (s.line ++ (s.gone ++ [l.num] ++ nums (s.lanes.set i { l with num := 0 }))).Perm (s.line ++ (s.gone ++ nums s.lanes)) := by
            refine List.Perm.append_left _ ?_
            rw [List.append_assoc]
            exact List.Perm.append_left _ hp.symm
          refine ⟨a1, a2, a3, a4, fun q hq => a5 q (hp2.mem_iff.1 hq), hp2.nodup_iff.2 a6, by simpa using a7, fun h' hh => ?_, a9, a10, a11, a12⟩
          rcases List.mem_or_eq_of_mem_set hh with hh | rfl
          · exact a8 h' hh
          · exact a8 l hlm
theorem SInv.owner {i : Nat} (h : SInv c rs rs' M k s) : SInv c rs rs' M (k + 1) (s.owner i).2 := by
  unfold TS.owner
  cases hi : s.qs[i]? with
  | none => exact h.more
  | some q =>
    cases q with
    | nil => exact h.more
    | cons a r =>
      simp only
      obtain ⟨q1, q2⟩ := h.qw _ (List.mem_of_getElem? hi)
      have hset : ∀ q ∈ s.qs.set i r, (q.length : Int) ≤ c.queue ∧ ∀ p ∈ q, (0 < p.1 ∧ p.1 ≤ c.lanes) ∨ (p.1 < 0 ∧ (mget s.calls p.1).isSome = true) := fun q hq => by
        rcases List.mem_or_eq_of_mem_set hq with hq | rfl
        · exact h.qw q hq
        · exact ⟨by simp at q1; omega, fun p hp => q2 p (by simp [hp])⟩
      split
      · obtain ⟨a1, a2, a3, a4, a5, a6, a7, a8, a9, a10, a11, a12⟩ := h.more
        refine ⟨a1, a2, a3, a4, ?_, ?_, by simpa using a7, fun h' hh => ?_, by simpa using a9, hset, a11, a12⟩
        · simp only [nums_modify _ (fun h : Ln => { h with ack := h.ack + 1 }) (fun _ => rfl)]; exact a5
        · simp only [nums_modify _ (fun h : Ln => { h with ack := h.ack + 1 }) (fun _ => rfl)]; exact a6
        · obtain ⟨j, hj⟩ := List.getElem?_of_mem hh
          simp only [List.getElem?_modify] at hj
          cases hlj : s.lanes[j]? with
          | none => rw [hlj] at hj; simp at hj
          | some l =>
            rw [hlj] at hj
            have := h.lw l (List.mem_of_getElem? hlj)
            by_cases hjk : (a.1 - 1).toNat = j
            · simp only [Option.map_eq_map, Option.map_some, Option.some.injEq, if_pos hjk] at hj; subst hj; exact ⟨this.1, this.2.1, by simp only; omega, this.2.2.2⟩
            · simp only [Option.map_eq_map, Option.map_some, Option.some.injEq, if_neg hjk] at hj; subst hj; exact ⟨this.1, this.2.1, by omega, this.2.2.2⟩
      · obtain ⟨a1, a2, a3, a4, a5, a6, a7, a8, a9, a10, a11, a12⟩ := h.more
        have hk : ∀ t, (mget s.calls t).isSome = true → (mget (match mget s.calls a.1 with | some x => mput s.calls a.1 (x.1 - 1, x.2) | none => s.calls) t).isSome = true := fun t ht => by
          cases hc : mget s.calls a.1 with
          | none => simpa [hc] using ht
          | some x =>
            simp only
            rw [mget_mput]
            split
            · rfl
            · exact ht
        refine ⟨a1, a2, a3, a4, a5, a6, a7, a8, by simpa using a9, fun q hq => ?_, fun t x hx => ?_, a12⟩
        · obtain ⟨b1, b2⟩ := hset q hq
          exact ⟨b1, fun p hp => (b2 p hp).imp id fun hb => ⟨hb.1, hk _ hb.2⟩⟩
        · simp only at hx
          cases hc : mget s.calls a.1 with
          | none => rw [hc] at hx; exact a11 t x hx
          | some y =>
            rw [hc] at hx
            simp only [mget_mput] at hx
            split at hx
            · rename_i e
              injection hx with hx
              subst hx e
              have := h.cw _ _ hc
              simp only; omega
            · exact a11 t x hx
theorem freeL_mem {m : Nat} {E : Nat → Bool} {n a : Nat} : a ∈ freeL rs' m E n ↔ 1 ≤ a ∧ a ≤ m ∧ E a = false ∧ depL rs' E a = [n] := by
  simp only [freeL, List.mem_filter, List.mem_range, Bool.and_eq_true, Bool.not_eq_true', decide_eq_true_eq]
  exact ⟨fun h => ⟨h.2.1.1, by omega, h.2.1.2, h.2.2⟩, fun h => ⟨by omega, ⟨h.1, h.2.2.1⟩, h.2.2.2⟩⟩
theorem freeL_nodup (m : Nat) (E : Nat → Bool) (n : Nat) : (freeL rs' m E n).Nodup := List.nodup_range.filter _
theorem SInv.gates (h : SInv c rs rs' M k s) : SInv c rs rs' M (k + 1) (s.gates rs').2 := by
  unfold TS.gates
  cases hg : s.gone with
  | nil => exact h.more
  | cons n r =>
    simp only
    obtain ⟨a1, a2, a3, a4, a5, a6, a7, a8, a9, a10, a11, a12⟩ := h.more
    rw [hg] at a5 a6
    obtain ⟨n1, n2, n3, n4⟩ := a5 n (by simp)
    have hm2 : ∀ l g E G, TS.m { s with gone := l, line := g, E := E, G := G } = s.m := fun l g E G => rfl
    have hp : (s.line ++ (n :: r ++ nums s.lanes)).Perm (n :: (s.line ++ (r ++ nums s.lanes))) := List.perm_middle
    have hnd := hp.nodup_iff.1 a6
    rw [List.nodup_cons] at hnd
    have hold : ∀ q ∈ s.line ++ (r ++ nums s.lanes), q ≠ n ∧ 1 ≤ q ∧ q ≤ s.m ∧ s.E q = false ∧ depL rs' s.E q = [] := fun q hq => ⟨fun e => hnd.1 (e ▸ hq), a5 q (hp.mem_iff.2 (by simp [hq]))⟩
    have hp2 : (s.line ++ freeL rs' s.m s.E n ++ (r ++ nums s.lanes)).Perm (freeL rs' s.m s.E n ++ (s.line ++ (r ++ nums s.lanes))) := by
      have e1 : freeL rs' s.m s.E n ++ (s.line ++ (r ++ nums s.lanes)) = freeL rs' s.m s.E n ++ s.line ++ (r ++ nums s.lanes) := by rw [List.append_assoc]
      rw [e1]
      exact List.Perm.append_right _ List.perm_append_comm
    refine ⟨a1, a2, a3, fun j hj => ?_, fun q hq => ?_, hp2.nodup_iff.2 (List.nodup_append.2 ⟨freeL_nodup _ _ _, hnd.2, fun a ha b hb e => ?_⟩), a7, a8, a9, a10, a11, (a12.done n).1⟩
    · have hj' : s.m < j := hj
      have : j ≠ n := by omega
      simp only [E1, this, decide_false, Bool.false_or]
      exact a4 j hj
    · rcases List.mem_append.1 (hp2.mem_iff.1 hq) with hq | hq
      · obtain ⟨f1, f2, f3, f4⟩ := freeL_mem.1 hq
        have hqn : q ≠ n := fun e => by rw [e, n4] at f4; cases f4
        refine ⟨f1, f2, ?_, ?_⟩
        · simp only [E1, hqn, decide_false, Bool.false_or]; exact f3
        · simp only [depL_E1, f4]; simp
      · obtain ⟨o1, o2, o3, o4, o5⟩ := hold q hq
        refine ⟨o2, o3, ?_, ?_⟩
        · simp only [E1, o1, decide_false, Bool.false_or]; exact o4
        · simp only [depL_E1, o5]; rfl
    · subst e
      have := (freeL_mem.1 ha).2.2.2
      rw [(hold a hb).2.2.2.2] at this
      cases this
theorem mput_some {K V : Type} [DecidableEq K] {m : List (K × V)} {a t : K} {v : V} (h : (mget m t).isSome = true) : (mget (mput m a v) t).isSome = true := by
  rw [mget_mput]; split
  · rfl
  · exact h
theorem SInv.call {e : Ev} (h : SInv c rs rs' M k s) (ht : e.task < 0) : SInv c rs rs' M (k + 1) (s.call c e).2 := by
  unfold TS.call
  obtain ⟨a1, a2, a3, a4, a5, a6, a7, a8, a9, a10, a11, a12⟩ := h.more
  have hq : ∀ v, ∀ q ∈ s.qs, (q.length : Int) ≤ c.queue ∧ ∀ p ∈ q, (0 < p.1 ∧ p.1 ≤ c.lanes) ∨ (p.1 < 0 ∧ (mget (mput s.calls e.task v) p.1).isSome = true) := fun v q hq => ⟨(a10 q hq).1, fun p hp => ((a10 q hq).2 p hp).imp id fun hb => ⟨hb.1, mput_some hb.2⟩⟩
  cases hc : mget s.calls e.task with
  | none =>
    simp only
    refine ⟨a1, a2, a3, a4, a5, a6, a7, a8, a9, hq _, fun t x hx => ?_, a12⟩
    simp only [mget_mput] at hx
    split at hx
    · rename_i e2
      injection hx with hx
      subst hx e2
      simp only; omega
    · exact a11 t x hx
  | some x =>
    simp only
    have hx0 := h.cw _ _ hc
    by_cases h2 : x.2 = true
    · rw [if_pos h2]; exact h.more
    · rw [if_neg h2]
      by_cases k10 : e.kind = 10
      · rw [if_pos k10]
        split
        · exact h.more
        · rename_i hn
          refine ⟨a1, a2, a3, a4, a5, a6, a7, a8, by simpa using a9, fun q hq' => ?_, fun t y hy => ?_, a12⟩
          · obtain ⟨j, hj⟩ := List.getElem?_of_mem hq'
            simp only [List.getElem?_modify] at hj
            cases hqj : s.qs[j]? with
            | none => rw [hqj] at hj; simp at hj
            | some q0 =>
              rw [hqj] at hj
              obtain ⟨q1, q2⟩ := hq (x.1 + 1, x.2) q0 (List.mem_of_getElem? hqj)
              by_cases hjk : e.shard.toNat = j
              · simp [hjk] at hj
                subst hj
                rw [hjk, hqj] at hn
                simp at hn
                refine ⟨by simp; omega, fun p hp => ?_⟩
                rcases List.mem_append.1 hp with hp | hp
                · exact q2 p hp
                · simp at hp; subst hp; exact Or.inr ⟨ht, by simp [mget_mput]⟩
              · simp [hjk] at hj
                subst hj
                exact ⟨q1, q2⟩
          · simp only [mget_mput] at hy
            split at hy
            · rename_i e2
              injection hy with hy
              subst hy e2
              simp only; omega
            · exact a11 t y hy
      · rw [if_neg k10]
        by_cases k11 : e.kind = 11
        · rw [if_pos k11]; exact h.more
        · rw [if_neg k11]
          by_cases k12 : e.kind = 12
          · rw [if_pos k12]
            refine ⟨a1, a2, a3, a4, a5, a6, a7, a8, a9, hq _, fun t y hy => ?_, a12⟩
            simp only [mget_mput] at hy
            split at hy
            · rename_i e2
              injection hy with hy
              subst hy e2
              simp only; omega
            · exact a11 t y hy
          · rw [if_neg k12]; exact h.more
theorem SInv.step {by_ : List Int} {e : Ev} (h : SInv c rs rs' M k s) (hM : ∀ b ∈ by_, (M : Int) + 2 ≤ b) (hw : ∀ p, (wsOf rs p).length ≤ 32 ∧ ∀ x ∈ wsOf rs p, wrB x = true) : SInv c rs rs' M (k + 1) (s.step c rs rs' by_ e).2 := by
  unfold TS.step
  by_cases h1 : e.task < 0
  · rw [if_pos h1]; exact h.call h1
  rw [if_neg h1]
  by_cases h2 : e.task = 0
  · rw [if_pos h2]; exact h.feed hM
  rw [if_neg h2]
  by_cases h3 : e.task ≤ c.lanes
  · rw [if_pos h3]; exact h.lane hw
  rw [if_neg h3]
  by_cases h4 : e.task ≤ c.lanes + c.shards
  · rw [if_pos h4]; exact h.owner
  rw [if_neg h4]
  by_cases h5 : e.task = c.lanes + c.shards + 1
  · rw [if_pos h5]; exact h.gates
  rw [if_neg h5]; exact h.more
end
end Go.Proofs.YtbiamjgkedmceaaGreatDoor

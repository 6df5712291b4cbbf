/- The document's story at memory: lanes, queues and calls are written anew. -/
import Derived.Test.YtcjmppjppmiggaaGreatRu1
namespace Go.Proofs.YtcjmppjppmiggaaGreat
open Go.RowKit
set_option linter.unusedVariables false
set_option linter.unusedSimpArgs false

open Go.Maps
set_option maxRecDepth 100000
theorem len_rlane (p : Ln × RL) : (rlaneC p.1 p.2).length = 5 := rfl
theorem rlanes_get {ls : List Ln} {sl : List RL} {i : Nat} {h : Ln} {l : RL} (h1 : ls[i]? = some h) (h2 : sl[i]? = some l) {j : Nat} {u : Value} (hu : (rlaneC h l)[j]? = some u) : (rlanesC ls sl)[i * 5 + j]? = some u :=
  flat_get (cells := fun p : Ln × RL => rlaneC p.1 p.2) (ls.zip sl) (fun x _ => len_rlane x) i (h, l) (by rw [List.getElem?_zip_eq_some]; exact ⟨h1, h2⟩) j u hu
theorem rlanes_set {ls : List Ln} {sl : List RL} {i : Nat} {h h' : Ln} {l l' : RL} (h1 : ls[i]? = some h) (h2 : sl[i]? = some l) {j : Nat} {v : Value} (hj : j < 5) (he : (rlaneC h l).set j v = rlaneC h' l') : (rlanesC ls sl).set (i * 5 + j) v = rlanesC (ls.set i h') (sl.set i l') := by
  unfold rlanesC
  rw [← zip_set]
  exact flat_set (f := fun p : Ln × RL => rlaneC p.1 p.2) (x := (h, l)) (x' := (h', l')) len_rlane hj he _ _ (by rw [List.getElem?_zip_eq_some]; exact ⟨h1, h2⟩)
section
variable {w w' : World} {φ φ' : Nat → Nat} {Bo : Nat} {I J : Nat → Prop} {c : Cfg} {rs rs' : List RTx} {by_ : List Int} {a : RA} {x : RG} {s : TS}
theorem RsH.setLane (h : RsAt w φ Bo c rs rs' by_ a x s) {i : Nat} {h' : Ln} {l' : RL} (k : Kept w w' (fun b => φ b = 2)) (hb : w'.heap[a.ln]? = some (.cells (rlanesC (s.lanes.set i h') (x.LA.set i l')).toArray 149 (0, 0)))
    (hw : h'.num ≠ 0 → l'.num = h'.num ∧ l'.ws = wsOf rs (h'.num - 1) ∧ h'.ws = cntW l'.ws ∧ WsAt w Bo l'.W.A l'.W.n l'.ws ∧ l'.W.n ≤ l'.W.c ∧ l'.W.n ≤ 32) : RsAt w' φ Bo c rs rs' by_ a { x with LA := x.LA.set i l' } { s with lanes := s.lanes.set i h' } := by
  have g1 := h.kept (I := fun j => j = 2) k (by omega) (by omega) (fun _ h => h.elim)
  have hB : Below Bo w w' := k.below h.lo (fun b hb => Nat.not_lt.1 fun hlt => by have := h.zero b hlt; omega)
  refine ⟨g1.lo, g1.zero, g1.log, g1.bey, fun _ => g1.st (by omega), g1.fst, fun _ => ⟨hb, ?_⟩, g1.fln, fun j hh l e1 e2 e3 => ?_, fun _ => g1.qb (by omega), g1.fqb, fun i q l e1 e2 _ => g1.qw i q l e1 e2 (by omega), fun _ => g1.line (by omega), fun _ => g1.gone (by omega), fun _ => g1.calls (by omega), fun _ => g1.gt (by omega), g1.fgt, fun _ => g1.tb (by omega), g1.ftb, g1.fr⟩
  · have := (h.ln (fun h => h)).2
    simpa using this
  · simp only [List.getElem?_set] at e1 e2
    by_cases hij : i = j
    · rw [if_pos hij] at e1 e2
      split at e1
      · split at e2
        · injection e1 with e1; injection e2 with e2; subst e1 e2
          obtain ⟨q1, q2, q3, q4, q5, q6⟩ := hw e3
          exact ⟨q1, q2, q3, q4.below hB, q5, q6⟩
        · cases e2
      · cases e1
    · rw [if_neg hij] at e1 e2; exact g1.lw j hh l e1 e2 e3
theorem RsH.putLane (h : RsAt w φ Bo c rs rs' by_ a x s) {i : Nat} {h0 h' : Ln} {l l' : RL} (hh : s.lanes[i]? = some h0) (hl : x.LA[i]? = some l) (j : Nat) (v : Value) (hj : j < 5) (he : (rlaneC h0 l).set j v = rlaneC h' l')
    (hw : h'.num ≠ 0 → l'.num = h'.num ∧ l'.ws = wsOf rs (h'.num - 1) ∧ h'.ws = cntW l'.ws ∧ WsAt w Bo l'.W.A l'.W.n l'.ws ∧ l'.W.n ≤ l'.W.c ∧ l'.W.n ≤ 32) :
    RsAt (w.setCell ⟨a.ln, i * 5 + j, none⟩ v) φ Bo c rs rs' by_ a { x with LA := x.LA.set i l' } { s with lanes := s.lanes.set i h' } ∧ Kept w (w.setCell ⟨a.ln, i * 5 + j, none⟩ v) (fun b => b = a.ln) := by
  have k : Kept w (w.setCell ⟨a.ln, i * 5 + j, none⟩ v) (fun b => b = a.ln) := (Kept.refl w (fun b => b = a.ln)).setCell (p := ⟨a.ln, i * 5 + j, none⟩) (Or.inl rfl) v
  refine ⟨h.setLane (k.mono fun b hb => by rw [hb]; exact h.fln.1) ?_ hw, k⟩
  rw [blk_set (h.ln (fun h => h)).1, ← rlanes_set hh hl hj he, List.setIfInBounds_toArray]
theorem RsH.lcell (h : RsAt w φ Bo c rs rs' by_ a x s) {i : Nat} {h0 : Ln} {l : RL} (hh : s.lanes[i]? = some h0) (hl : x.LA[i]? = some l) (j : Nat) (u : Value) (hu : (rlaneC h0 l)[j]? = some u) : w.cell? ⟨a.ln, i * 5 + j, none⟩ = some u ∧ w.frozen? ⟨a.ln, i * 5 + j, none⟩ = false :=
  ⟨(blk_cell (h.ln (fun h => h)).1 _).trans (by simpa using rlanes_get hh hl hu), blk_frozen (h.ln (fun h => h)).1 _⟩
theorem RsH.setQ (h : RsH w φ Bo J c rs rs' by_ a x s) {k : Nat} (hJ : ∀ i, J i → i = 100 + k) {A : Option Addr} {n cp : Nat} {q' : List (Int × Int)} (hT : TkAt askC 2 146 w Bo A n cp q') (hA : At φ (100 + k) A) :
    RsAt (w.setCell ⟨a.qb, k, none⟩ (.slice A n cp)) φ Bo c rs rs' by_ a { x with QA := x.QA.set k ⟨A, n, cp⟩ } { s with qs := s.qs.set k q' } := by
  have kk : Kept w (w.setCell ⟨a.qb, k, none⟩ (.slice A n cp)) (fun b => (fun j => j = 3 ∨ J j) (φ b)) := (Kept.refl w _).setCell (p := ⟨a.qb, k, none⟩) (Or.inl (Or.inl h.fqb.1)) _
  have g1 := h.kept (I := fun j => j = 3 ∨ J j) kk (fun h => by rcases h with h | h; omega; have := hJ _ h; omega) (fun h => by rcases h with h | h; omega; have := hJ _ h; omega) (fun _ h => Or.inr h)
  have nj : ∀ i, i ≠ 3 → i ≠ 100 + k → ¬ (i = 3 ∨ J i) := fun i h1 h2 h => by rcases h with h | h; exact h1 h; exact h2 (hJ _ h)
  obtain ⟨q1, q2⟩ := h.qb (fun h => by have := hJ _ h; omega)
  refine ⟨g1.lo, g1.zero, g1.log, g1.bey, fun _ => g1.st (nj 1 (by omega) (by omega)), g1.fst, fun _ => g1.ln (nj 2 (by omega) (by omega)), g1.fln, g1.lw, fun _ => ⟨?_, by simpa using q2⟩, g1.fqb, fun i q l e1 e2 _ => ?_, fun _ => g1.line (nj 10 (by omega) (by omega)), fun _ => g1.gone (nj 11 (by omega) (by omega)), fun _ => g1.calls (nj 4 (by omega) (by omega)), fun _ => g1.gt (nj 9 (by omega) (by omega)), g1.fgt, fun _ => g1.tb (nj 8 (by omega) (by omega)), g1.ftb, g1.fr⟩
  · have := blk_set q1 k (.slice A n cp)
    rw [this]
    simp [List.map_set, SL.v]
  · simp only [List.getElem?_set] at e1 e2
    by_cases hki : k = i
    · rw [if_pos hki] at e1 e2
      split at e1
      · split at e2
        · injection e1 with e1; injection e2 with e2; subst e1 e2 hki
          exact ⟨kept_at hT hA h.fqb.1 (by omega) _ _, hA⟩
        · cases e2
      · cases e1
    · rw [if_neg hki] at e1 e2
      exact g1.qw i q l e1 e2 (nj (100 + i) (by omega) (by omega))
theorem RsH.setCalls (h : RsAt w φ Bo c rs rs' by_ a x s) {cs' : List RC} {m' : List (Int × (Int × Bool))} {bd' : Nat} (k : Kept w w' (fun b => φ b = 4)) (hT : TkAt RC.cells 4 142 w' Bo x.C.A x.C.n x.C.c cs') (hF : CallsFit bd' m' cs') :
    RsAt w' φ Bo c rs rs' by_ a { x with cs := cs', bd := bd' } { s with calls := m' } := by
  have g1 := h.kept (I := fun j => j = 4) k (by omega) (by omega) (fun _ h => h.elim)
  exact ⟨g1.lo, g1.zero, g1.log, g1.bey, fun _ => g1.st (by omega), g1.fst, fun _ => g1.ln (by omega), g1.fln, g1.lw, fun _ => g1.qb (by omega), g1.fqb, fun i q l e1 e2 _ => g1.qw i q l e1 e2 (by omega), fun _ => g1.line (by omega), fun _ => g1.gone (by omega), fun _ => ⟨hT, (h.calls (fun h => h)).2.1, hF⟩, fun _ => g1.gt (by omega), g1.fgt, fun _ => g1.tb (by omega), g1.ftb, g1.fr⟩
theorem RsH.setC (h : RsH w φ Bo J c rs rs' by_ a x s) (hJ : ∀ i, J i → i = 4) {A : Option Addr} {n cp : Nat} {cs' : List RC} {m' : List (Int × (Int × Bool))} {bd' : Nat} (hT : TkAt RC.cells 4 142 w Bo A n cp cs') (hA : At φ 4 A) (hF : CallsFit bd' m' cs') :
    RsAt (w.setCell ⟨a.g, 14, none⟩ (.slice A n cp)) φ Bo c rs rs' by_ a { x with C := ⟨A, n, cp⟩, cs := cs', bd := bd' } { s with calls := m' } := by
  obtain ⟨g1, g2⟩ := h.setc (fun h => by have := hJ _ h; omega) (fun h => by have := hJ _ h; omega) (fun h => by have := hJ _ h; omega) 14 (.slice A n cp)
  have nj : ∀ i, i ≠ 1 → i ≠ 4 → ¬ (i = 1 ∨ J i) := fun i h1 h2 h => by rcases h with h | h; exact h1 h; exact h2 (hJ _ h)
  exact ⟨g1.lo, g1.zero, g1.log, g1.bey, fun _ => g2, g1.fst, fun _ => g1.ln (nj 2 (by omega) (by omega)), g1.fln, g1.lw, fun _ => g1.qb (nj 3 (by omega) (by omega)), g1.fqb, fun i q l e1 e2 _ => g1.qw i q l e1 e2 (nj (100 + i) (by omega) (by omega)), fun _ => g1.line (nj 10 (by omega) (by omega)), fun _ => g1.gone (nj 11 (by omega) (by omega)), fun _ => ⟨kept_at hT hA h.fst.1 (by omega) _ _, hA, hF⟩, fun _ => g1.gt (nj 9 (by omega) (by omega)), g1.fgt, fun _ => g1.tb (nj 8 (by omega) (by omega)), g1.ftb, g1.fr⟩
end
def updC (f : Int) (g : RC → RC) (r : RC) : RC := if r.num = f then g r else r
theorem updC_num {f : Int} {g : RC → RC} (hg : ∀ r, (g r).num = r.num) (r : RC) : (updC f g r).num = r.num := by
  unfold updC; split
  · exact hg r
  · rfl
theorem CallsFit.upd {k k' : Nat} {m : List (Int × (Int × Bool))} {cs : List RC} (h : CallsFit k m cs) {f : Int} {g : RC → RC} {v v' : Int × Bool} (hg : ∀ r, (g r).num = r.num) (hv : mget m f = some v)
    (hval : ∀ r ∈ cs, r.num = f → ((r.asked : Int) - r.served, r.ended) = v → (((g r).asked : Int) - (g r).served, (g r).ended) = v') (hk : k ≤ k') (hs : ∀ r ∈ cs, r.num = f → (g r).asked ≤ k' ∧ (g r).served ≤ k') : CallsFit k' (mput m f v') (cs.map (updC f g)) := by
  refine ⟨by rw [List.length_map]; exact Nat.le_trans h.len hk, fun r hr => ?_, ?_, fun t => ?_⟩
  · obtain ⟨r0, hr0, rfl⟩ := List.mem_map.1 hr
    unfold updC
    split
    · rename_i e; exact hs r0 hr0 e
    · have := h.small r0 hr0; omega
  · rw [List.map_map]
    have : (RC.num ∘ updC f g) = RC.num := by funext r; exact updC_num hg r
    rw [this]; exact h.nodup
  · rw [mget_mput, List.find?_map]
    have hp : ((fun r : RC => decide (r.num = t)) ∘ updC f g) = fun r => decide (r.num = t) := by funext r; simp only [Function.comp, updC_num hg]
    rw [hp]
    have hft := h.fit t
    by_cases e : f = t
    · subst e
      rw [if_pos rfl]
      rw [hv] at hft
      cases hr : cs.find? (fun r => decide (r.num = f)) with
      | none => rw [hr] at hft; cases hft
      | some r =>
        rw [hr] at hft
        simp only [Option.map_some, Option.some.injEq] at hft ⊢
        have hm := List.mem_of_find?_eq_some hr
        have hn : r.num = f := by simpa using List.find?_some hr
        have := hval r hm hn hft.symm
        rw [← this]
        unfold updC
        rw [if_pos hn]
    · rw [if_neg e, hft]
      cases hr : cs.find? (fun r => decide (r.num = t)) with
      | none => rfl
      | some r =>
        have hn : r.num = t := by simpa using List.find?_some hr
        simp only [Option.map_some]
        unfold updC
        rw [if_neg (by rw [hn]; exact fun h => e h.symm)]
theorem CallsFit.add {k : Nat} {m : List (Int × (Int × Bool))} {cs : List RC} (h : CallsFit k m cs) {t : Int} (ht : mget m t = none) : CallsFit (k + 1) (mput m t (0, false)) (cs ++ [⟨t, 0, 0, false⟩]) := by
  have hno : ∀ r ∈ cs, r.num ≠ t := fun r hr e => by
    have hft := h.fit t
    rw [ht] at hft
    cases hf : cs.find? (fun r => decide (r.num = t)) with
    | none => rw [List.find?_eq_none] at hf; exact hf r hr (by simpa using e)
    | some q => rw [hf] at hft; cases hft
  refine ⟨by have := h.len; simp; omega, fun r hr => ?_, ?_, fun u => ?_⟩
  · rcases List.mem_append.1 hr with hr | hr
    · have := h.small r hr; omega
    · simp at hr; subst hr; simp
  · rw [List.map_append, List.nodup_append]
    refine ⟨h.nodup, by simp, fun a ha b hb => ?_⟩
    obtain ⟨r, hr, rfl⟩ := List.mem_map.1 ha
    simp at hb; subst hb
    exact hno r hr
  · rw [mget_mput, List.find?_append]
    by_cases e : t = u
    · subst e
      rw [if_pos rfl]
      have : cs.find? (fun r => decide (r.num = t)) = none := by rw [List.find?_eq_none]; exact fun r hr => by simpa using hno r hr
      rw [this]; simp
    · rw [if_neg e, h.fit u]
      have : ([⟨t, 0, 0, false⟩] : List RC).find? (fun r => decide (r.num = u)) = none := by simp [e]
      rw [this, Option.or_none]
end Go.Proofs.YtcjmppjppmiggaaGreat

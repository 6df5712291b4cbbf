/- A trace's story at memory: lanes, queues, calls, the reader. -/
import Derived.Test.YtcjmppjppmiggaaGreatSt1
namespace Go.Proofs.YtcjmppjppmiggaaGreat
open Go.RowKit
set_option linter.unusedVariables false
set_option linter.unusedSimpArgs false

open Go.Maps
set_option maxRecDepth 100000
theorem flat_set {α : Type} {f : α → List Value} {z : Nat} (hf : ∀ x, (f x).length = z) {x x' : α} {j : Nat} {v : Value} (hj : j < z) (he : (f x).set j v = f x') : ∀ (l : List α) (i : Nat), l[i]? = some x → (l.flatMap f).set (i * z + j) v = (l.set i x').flatMap f
  | [], i, h => by simp at h
  | y :: l, 0, h => by
    simp at h; subst h
    rw [List.flatMap_cons, List.set_cons_zero, List.flatMap_cons, Nat.zero_mul, Nat.zero_add, List.set_append_left _ _ (by rw [hf]; exact hj), he]
  | y :: l, i + 1, h => by
    have ih := flat_set hf hj he l i (by simpa using h)
    rw [List.flatMap_cons, List.set_cons_succ, List.flatMap_cons, List.set_append_right _ _ (by rw [hf, Nat.succ_mul]; omega), hf, ← ih]
    congr 2
    rw [Nat.succ_mul]; omega
theorem zip_set {α β : Type} (x : α) (y : β) : ∀ (l : List α) (m : List β) (i : Nat), (l.zip m).set i (x, y) = (l.set i x).zip (m.set i y)
  | [], m, i => by simp
  | a :: l, [], i => by cases i <;> simp
  | a :: l, b :: m, 0 => by simp
  | a :: l, b :: m, i + 1 => by simp [zip_set x y l m i]
theorem len_lane (p : Ln × SL) : (laneC p.1 p.2).length = 4 := rfl
theorem lanes_get {ls : List Ln} {sl : List SL} {i : Nat} {h : Ln} {l : SL} (h1 : ls[i]? = some h) (h2 : sl[i]? = some l) {j : Nat} {u : Value} (hu : (laneC h l)[j]? = some u) : (lanesC ls sl)[i * 4 + j]? = some u :=
  flat_get (cells := fun p : Ln × SL => laneC p.1 p.2) (ls.zip sl) (fun x _ => len_lane x) i (h, l) (by rw [List.getElem?_zip_eq_some]; exact ⟨h1, h2⟩) j u hu
theorem lanes_set {ls : List Ln} {sl : List SL} {i : Nat} {h h' : Ln} {l l' : SL} (h1 : ls[i]? = some h) (h2 : sl[i]? = some l) {j : Nat} {v : Value} (hj : j < 4) (he : (laneC h l).set j v = laneC h' l') : (lanesC ls sl).set (i * 4 + j) v = lanesC (ls.set i h') (sl.set i l') := by
  unfold lanesC
  rw [← zip_set]
  exact flat_set (f := fun p : Ln × SL => laneC p.1 p.2) (x := (h, l)) (x' := (h', l')) len_lane hj he _ _ (by rw [List.getElem?_zip_eq_some]; exact ⟨h1, h2⟩)
section
variable {w w' : World} {φ φ' : Nat → Nat} {Bo : Nat} {I J : Nat → Prop} {c : Cfg} {rs rs' : List RTx} {by_ : List Int} {a : SA} {x : SG} {s : TS}
theorem StH.setLane (h : StAt w φ Bo c rs rs' by_ a x s) {i : Nat} {h' : Ln} {l' : SL} (k : Kept w w' (fun b => φ b = 2)) (hb : w'.heap[a.ln]? = some (.cells (lanesC (s.lanes.set i h') (x.LA.set i l')).toArray 126 (0, 0)))
    (hT : TkAt Wr.cells 3 85 w' Bo l'.A l'.n l'.c h'.ws) (hA : At φ 20 l'.A) : StAt w' φ Bo c rs rs' by_ a { x with LA := x.LA.set i l' } { s with lanes := s.lanes.set i h' } := by
  have g1 := h.kept (I := fun j => j = 2) k (by omega) (by omega) (fun _ h => h.elim)
  have nj : ∀ i : Nat, i ≠ 2 → i ≠ 2 → ¬ (i = 2) := fun i h1 _ h => h1 h
  refine ⟨g1.lo, g1.zero, g1.log, g1.bey, fun _ => g1.st (nj 1 (by omega) (by omega)), g1.fst, fun _ => hb, g1.fln, fun _ => ?_, fun _ => g1.qb (nj 3 (by omega) (by omega)), g1.fqb, fun i q l e1 e2 _ => g1.qw i q l e1 e2 (nj (100 + 2 * i) (by omega) (by omega)), fun _ => g1.line (nj 10 (by omega) (by omega)), fun _ => g1.gone (nj 11 (by omega) (by omega)), fun _ => g1.cb (nj 4 (by omega) (by omega)), g1.fcb, fun t p v e1 e2 _ => g1.cw t p v e1 e2 (nj (101 + 2 * (-t).toNat) (by omega) (by omega)), fun _ => g1.gt (nj 9 (by omega) (by omega)), g1.fgt, fun _ => g1.tb (nj 8 (by omega) (by omega)), g1.ftb, g1.fr⟩
  obtain ⟨q1, q2⟩ := g1.lw (nj 20 (by omega) (by omega))
  refine ⟨by simpa using q1, fun j hh l e1 e2 => ?_⟩
  simp only [List.getElem?_set] at e1 e2
  by_cases hij : i = j
  · rw [if_pos hij] at e1 e2
    split at e1
    · split at e2
      · injection e1 with e1; injection e2 with e2; subst e1 e2; exact ⟨hT, hA⟩
      · cases e2
    · cases e1
  · rw [if_neg hij] at e1 e2; exact q2 j hh l e1 e2
theorem StH.setQ (h : StH w φ Bo J c rs rs' by_ a x s) {k : Nat} (hJ : ∀ i, J i → i = 100 + 2 * k) {A : Option Addr} {n cp : Nat} {q' : List (Int × Int)} (hT : TkAt askC 2 131 w Bo A n cp q') (hA : At φ (100 + 2 * k) A) :
    StAt (w.setCell ⟨a.qb, k, none⟩ (.slice A n cp)) φ Bo c rs rs' by_ a { x with QA := x.QA.set k ⟨A, n, cp⟩ } { s with qs := s.qs.set k q' } := by
  have kk : Kept w (w.setCell ⟨a.qb, k, none⟩ (.slice A n cp)) (fun b => (fun j => j = 3 ∨ J j) (φ b)) := (Kept.refl w _).setCell (p := ⟨a.qb, k, none⟩) (Or.inl (Or.inl h.fqb.1)) _
  have g1 := h.kept (I := fun j => j = 3 ∨ J j) kk (fun h => by rcases h with h | h; omega; have := hJ _ h; omega) (fun h => by rcases h with h | h; omega; have := hJ _ h; omega) (fun _ h => Or.inr h)
  have nj : ∀ i, i ≠ 3 → i ≠ 100 + 2 * k → ¬ (i = 3 ∨ J i) := fun i h1 h2 h => by rcases h with h | h; exact h1 h; exact h2 (hJ _ h)
  obtain ⟨q1, q2⟩ := h.qb (fun h => by have := hJ _ h; omega)
  refine ⟨g1.lo, g1.zero, g1.log, g1.bey, fun _ => g1.st (nj 1 (by omega) (by omega)), g1.fst, fun _ => g1.ln (nj 2 (by omega) (by omega)), g1.fln, fun _ => g1.lw (nj 20 (by omega) (by omega)), fun _ => ⟨?_, by simpa using q2⟩, g1.fqb, fun i q l e1 e2 _ => ?_, fun _ => g1.line (nj 10 (by omega) (by omega)), fun _ => g1.gone (nj 11 (by omega) (by omega)), fun _ => g1.cb (nj 4 (by omega) (by omega)), g1.fcb, fun t p v e1 e2 _ => ?_, fun _ => g1.gt (nj 9 (by omega) (by omega)), g1.fgt, fun _ => g1.tb (nj 8 (by omega) (by omega)), g1.ftb, g1.fr⟩
  · have := blk_set q1 k (.slice A n cp)
    rw [this]
    simp [List.map_set, SL.v]
  · simp only [List.getElem?_set] at e1 e2
    by_cases hki : k = i
    · rw [if_pos hki] at e1 e2
      split at e1
      · split at e2
        · injection e1 with e1; injection e2 with e2; subst e1 e2 hki
          exact ⟨kept_at hT hA h.fqb.1 (by omega) _ _, hA⟩
        · cases e2
      · cases e1
    · rw [if_neg hki] at e1 e2
      exact g1.qw i q l e1 e2 (nj (100 + 2 * i) (by omega) (by omega))
  · exact g1.cw t p v e1 e2 (nj (101 + 2 * (-t).toNat) (by omega) (by omega))
theorem StH.setCalled (h : StAt w φ Bo c rs rs' by_ a x s) (hneg : ∀ t v, mget s.calls t = some v → t < 0) {t : Int} {p : Nat} {v v' : Int × Bool} (hp : mget x.m t = some p) (hv : mget s.calls t = some v) (k : Kept w w' (fun b => b = p))
    (hb : w'.heap[p]? = some (.cells #[.int .i64 v'.1, .bool v'.2] 133 (0, 0))) : StAt w' φ Bo c rs rs' by_ a x { s with calls := mput s.calls t v' } := by
  obtain ⟨c1, c2, c3⟩ := h.cw t p v hp hv (fun h => h)
  have g1 := h.kept (I := fun j => j = 101 + 2 * (-t).toNat) (k.mono fun b hb => by rw [hb]; exact c2) (by omega) (by omega) (fun _ h => h.elim)
  have nj : ∀ i : Nat, i ≠ 101 + 2 * (-t).toNat → i ≠ 101 + 2 * (-t).toNat → ¬ (i = 101 + 2 * (-t).toNat) := fun i h1 _ h => h1 h
  refine ⟨g1.lo, g1.zero, g1.log, g1.bey, fun _ => g1.st (nj 1 (by omega) (by omega)), g1.fst, fun _ => g1.ln (nj 2 (by omega) (by omega)), g1.fln, fun _ => g1.lw (nj 20 (by omega) (by omega)), fun _ => g1.qb (nj 3 (by omega) (by omega)), g1.fqb, fun i q l e1 e2 _ => g1.qw i q l e1 e2 (nj (100 + 2 * i) (by omega) (by omega)), fun _ => g1.line (nj 10 (by omega) (by omega)), fun _ => g1.gone (nj 11 (by omega) (by omega)), fun _ => ⟨(g1.cb (nj 4 (by omega) (by omega))).1, fun u => ?_⟩, g1.fcb, fun u q z e1 e2 _ => ?_, fun _ => g1.gt (nj 9 (by omega) (by omega)), g1.fgt, fun _ => g1.tb (nj 8 (by omega) (by omega)), g1.ftb, g1.fr⟩
  · rw [← (g1.cb (nj 4 (by omega) (by omega))).2 u]
    simp only [mget_mput]
    by_cases htu : t = u
    · subst htu; rw [if_pos rfl, hv]; simp
    · rw [if_neg htu]
  · simp only [mget_mput] at e2
    by_cases htu : t = u
    · subst htu
      rw [if_pos rfl] at e2; injection e2 with e2; subst e2
      rw [hp] at e1; injection e1 with e1; subst e1
      exact ⟨hb, c2, c3⟩
    · rw [if_neg htu] at e2
      have h1 := hneg t _ hv
      have h2 := hneg u _ e2
      exact g1.cw u q z e1 e2 (nj (101 + 2 * (-u).toNat) (by omega) (by omega))
theorem StH.newCall (h : StAt w φ Bo c rs rs' by_ a x s) (hneg : ∀ t v, mget s.calls t = some v → t < 0) {t : Int} {p : Nat} {v' : Int × Bool} (ht : t < 0) (k : Kept w w' (fun b => φ b = 4)) (hm : OwnM (Value.int .i64) ptrV w' a.cb (mput x.m t p))
    (hb : w'.heap[p]? = some (.cells #[.int .i64 v'.1, .bool v'.2] 133 (0, 0))) (hφ : φ p = 101 + 2 * (-t).toNat) (hp : Bo ≤ p) : StAt w' φ Bo c rs rs' by_ a { x with m := mput x.m t p } { s with calls := mput s.calls t v' } := by
  have g1 := h.kept (I := fun j => j = 4) k (by omega) (by omega) (fun _ h => h.elim)
  have nj : ∀ i : Nat, i ≠ 4 → i ≠ 4 → ¬ (i = 4) := fun i h1 _ h => h1 h
  refine ⟨g1.lo, g1.zero, g1.log, g1.bey, fun _ => g1.st (nj 1 (by omega) (by omega)), g1.fst, fun _ => g1.ln (nj 2 (by omega) (by omega)), g1.fln, fun _ => g1.lw (nj 20 (by omega) (by omega)), fun _ => g1.qb (nj 3 (by omega) (by omega)), g1.fqb, fun i q l e1 e2 _ => g1.qw i q l e1 e2 (nj (100 + 2 * i) (by omega) (by omega)), fun _ => g1.line (nj 10 (by omega) (by omega)), fun _ => g1.gone (nj 11 (by omega) (by omega)), fun _ => ⟨hm, fun u => ?_⟩, g1.fcb, fun u q z e1 e2 _ => ?_, fun _ => g1.gt (nj 9 (by omega) (by omega)), g1.fgt, fun _ => g1.tb (nj 8 (by omega) (by omega)), g1.ftb, g1.fr⟩
  · have := (h.cb (fun h => h)).2 u
    simp only [mget_mput]
    by_cases htu : t = u
    · subst htu; simp
    · rw [if_neg htu, if_neg htu]; exact this
  · simp only [mget_mput] at e1 e2
    by_cases htu : t = u
    · subst htu
      rw [if_pos rfl] at e2 e1; injection e2 with e2; injection e1 with e1; subst e2 e1
      exact ⟨hb, hφ, hp⟩
    · rw [if_neg htu] at e2 e1
      exact g1.cw u q z e1 e2 (nj (101 + 2 * (-u).toNat) (by omega) (by omega))
theorem StH.setAH (h : StAt w φ Bo c rs rs' by_ a x s) {n : Nat} {b : Bool} {E' : Nat → Bool} (k : Kept w w' (fun b => φ b = 1)) (hb : w'.heap[a.g]? = some (.cells (storyC c a x { s with at_ := n, holds := b }) 65 (0, 0))) :
    StH w' φ Bo (fun j => j = 8) c rs rs' by_ a x { s with at_ := n, holds := b, E := E' } := by
  have g1 := h.kept (I := fun j => j = 1) k (by omega) (by omega) (fun _ h => h.elim)
  have nj : ∀ i : Nat, i ≠ 1 → i ≠ 1 → ¬ (i = 1) := fun i h1 _ h => h1 h
  exact ⟨g1.lo, g1.zero, g1.log, g1.bey, fun _ => hb, g1.fst, fun _ => g1.ln (nj 2 (by omega) (by omega)), g1.fln, fun _ => g1.lw (nj 20 (by omega) (by omega)), fun _ => g1.qb (nj 3 (by omega) (by omega)), g1.fqb, fun i q l e1 e2 _ => g1.qw i q l e1 e2 (nj (100 + 2 * i) (by omega) (by omega)), fun _ => g1.line (nj 10 (by omega) (by omega)), fun _ => g1.gone (nj 11 (by omega) (by omega)), fun _ => g1.cb (nj 4 (by omega) (by omega)), g1.fcb, fun t p v e1 e2 _ => g1.cw t p v e1 e2 (nj (101 + 2 * (-t).toNat) (by omega) (by omega)), fun _ => g1.gt (nj 9 (by omega) (by omega)), g1.fgt, fun h => absurd rfl h, g1.ftb, g1.fr⟩
theorem StH.fill8 (h : StH w φ Bo J c rs rs' by_ a x s) (hJ : ∀ i, J i → i = 8) {d : DT} (hd : TabAt w a.t d) (hI : TIG rs' s.m s.E d) : StAt w φ Bo c rs rs' by_ a { x with d := d } s := by
  have nj : ∀ i : Nat, i ≠ 8 → i ≠ 8 → ¬ J i := fun i h1 _ h => h1 (hJ _ h)
  exact ⟨h.lo, h.zero, h.log, h.bey, fun _ => h.st (nj 1 (by omega) (by omega)), h.fst, fun _ => h.ln (nj 2 (by omega) (by omega)), h.fln, fun _ => h.lw (nj 20 (by omega) (by omega)), fun _ => h.qb (nj 3 (by omega) (by omega)), h.fqb, fun i q l e1 e2 _ => h.qw i q l e1 e2 (nj (100 + 2 * i) (by omega) (by omega)), fun _ => h.line (nj 10 (by omega) (by omega)), fun _ => h.gone (nj 11 (by omega) (by omega)), fun _ => h.cb (nj 4 (by omega) (by omega)), h.fcb, fun t p v e1 e2 _ => h.cw t p v e1 e2 (nj (101 + 2 * (-t).toNat) (by omega) (by omega)), fun _ => h.gt (nj 9 (by omega) (by omega)), h.fgt, fun _ => ⟨hd, hI⟩, h.ftb, h.fr⟩
end
end Go.Proofs.YtcjmppjppmiggaaGreat

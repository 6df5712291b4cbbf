/- A shard that is filled by installs, one after the other: what it has, in which order whatever. Plain theorems. -/
import Derived.Test.YtfpcgfgofemhoaaGreatShq
namespace Go.Proofs.YtfpcgfgofemhoaaGreat
open Go.RowKit
set_option linter.unusedVariables false
set_option linter.unusedSimpArgs false

structure Part where
  num : Int
  w : Wr
def Part.ver (p : Part) : Ver := ⟨p.num, p.w.val, p.w.drop⟩
def Part.cells (p : Part) : List Value := [.int .i64 p.num, .string p.w.key, .string p.w.val, .bool p.w.drop]
theorem len_part (xs : List Part) : ∀ x ∈ xs, (Part.cells x).length = 4 := fun _ _ => rfl
/-- May it be installed at all? -/
def okP (p : Part) : Bool := keyB p.w.key && verB p.ver
/-- Is it new? -/
def newP (L : Hs) (p : Part) : Bool := okP p && !hasV (hget L p.w.key) p.num
def instH (L : Hs) (p : Part) : Hs := if newP L p then hput L p.w.key (putV (hget L p.w.key) p.ver) else L
def fillH : List Part → Hs → List Part → Hs × List Part
  | [], L, ins => (L, ins)
  | p :: r, L, ins => if newP L p then fillH r (instH L p) (ins ++ [p]) else fillH r L ins
theorem fillH_append (a b : List Part) (L : Hs) (ins : List Part) : fillH (a ++ b) L ins = fillH b (fillH a L ins).1 (fillH a L ins).2 := by
  induction a generalizing L ins with
  | nil => rfl
  | cons p r ih => simp only [List.cons_append, fillH]; split <;> exact ih _ _
theorem fillH_snoc (a : List Part) (p : Part) (L : Hs) (ins : List Part) : fillH (a ++ [p]) L ins = if newP (fillH a L ins).1 p then (instH (fillH a L ins).1 p, (fillH a L ins).2 ++ [p]) else fillH a L ins := by
  rw [fillH_append]; simp only [fillH]
/-- The number of versions. -/
def sizeM (m : Hs) : Nat := (m.map fun p => p.2.length).sum
theorem sizeM_mput (m : Hs) (k : ByteArray) (l : List Ver) : sizeM (mput m k l) + (hget m k).length = sizeM m + l.length := by
  unfold sizeM hget
  induction m with
  | nil => simp [mput, mget]
  | cons q r ih =>
    obtain ⟨a, u⟩ := q
    simp only [mput, mget]
    by_cases h : a = k
    · rw [if_pos h, if_pos h]; simp only [List.map_cons, List.sum_cons, Option.getD_some]; omega
    · rw [if_neg h, if_neg h]; simp only [List.map_cons, List.sum_cons]; omega
theorem sizeH_cont {m : Hs} (h : (m.map (·.1)).Nodup) : sizeH (cont m) = sizeM m := by
  unfold sizeH sizeM cont
  rw [List.map_map]
  have h1 : (sortedK m).Perm (m.map (·.1)) := by
    refine (List.perm_ext_iff_of_nodup ((rises_sortedK h).nodup) h).2 fun k => mem_sortedK m k
  rw [show (m.map fun p => p.2.length) = (m.map (·.1)).map (fun k => ((mget m k).getD []).length) from ?_]
  · exact (h1.map _).sum_nat
  · rw [List.map_map]
    refine List.map_congr_left fun p hp => ?_
    obtain ⟨k, l⟩ := p
    simp [mget_of_mem h hp]
structure Fill (L : Hs) (ins : List Part) : Prop where
  ok : HsOk L
  mem : ∀ k x, x ∈ hget L k ↔ ∃ p ∈ ins, p.w.key = k ∧ p.ver = x
  dist : ins.Pairwise fun p q => ¬ (p.w.key = q.w.key ∧ p.num = q.num)
  okp : ∀ p ∈ ins, okP p = true
  size : sizeH L = ins.length
theorem Fill.nil : Fill [] [] := ⟨HsOk.nil, fun k x => by simp [hget, mget], List.Pairwise.nil, by simp, rfl⟩
theorem okP_iff {p : Part} : okP p = true ↔ keyB p.w.key = true ∧ verB p.ver = true := by simp [okP]
theorem putV_ne (l : List Ver) (x : Ver) : putV l x ≠ [] := fun h => by have := len_putV l x; rw [h] at this; simp at this
theorem instH_ok {L : Hs} (h : HsOk L) (p : Part) : HsOk (instH L p) := by
  unfold instH
  split
  · rename_i hn
    unfold newP at hn
    simp only [Bool.and_eq_true, okP_iff, Bool.not_eq_true'] at hn
    exact hput_ok h hn.1.1 (chkB_putV (hget_chk h _) hn.1.2 hn.2) (putV_ne _ _)
  · exact h
theorem Fill.add {L : Hs} {ins : List Part} (h : Fill L ins) {p : Part} (hn : newP L p = true) : Fill (instH L p) (ins ++ [p]) := by
  have hn' := hn
  unfold newP at hn'
  simp only [Bool.and_eq_true, Bool.not_eq_true'] at hn'
  have hi : instH L p = hput L p.w.key (putV (hget L p.w.key) p.ver) := by unfold instH; rw [if_pos hn]
  refine ⟨instH_ok h.ok p, fun k x => ?_, ?_, ?_, ?_⟩
  · rw [hi, hget_hput]
    by_cases hk : p.w.key = k
    · subst hk
      rw [if_pos rfl, mem_putV, h.mem]
      simp only [List.mem_append, List.mem_singleton]
      constructor
      · rintro (rfl | ⟨q, hq, h1, h2⟩)
        · exact ⟨p, .inr rfl, rfl, rfl⟩
        · exact ⟨q, .inl hq, h1, h2⟩
      · rintro ⟨q, hq | rfl, h1, h2⟩
        · exact .inr ⟨q, hq, h1, h2⟩
        · exact .inl h2.symm
    · rw [if_neg hk, h.mem]
      simp only [List.mem_append, List.mem_singleton]
      constructor
      · rintro ⟨q, hq, h1⟩; exact ⟨q, .inl hq, h1⟩
      · rintro ⟨q, hq | rfl, h1, h2⟩
        · exact ⟨q, hq, h1, h2⟩
        · exact absurd h1 hk
  · refine List.pairwise_append.2 ⟨h.dist, List.pairwise_singleton _ _, fun q hq r hr => ?_⟩
    simp only [List.mem_singleton] at hr; subst hr
    rintro ⟨h1, h2⟩
    have : q.ver ∈ hget L r.w.key := (h.mem _ _).2 ⟨q, hq, h1, rfl⟩
    have h3 : hasV (hget L r.w.key) r.num = true := hasV_iff.2 ⟨_, this, h2⟩
    rw [hn'.2] at h3; cases h3
  · intro q hq
    rcases List.mem_append.1 hq with hq | hq
    · exact h.okp q hq
    · simp only [List.mem_singleton] at hq; subst hq; exact hn'.1
  · rw [hi, hput, sizeH_cont (nodup_mput _ _ h.ok.nodup)]
    have h1 := sizeM_mput L p.w.key (putV (hget L p.w.key) p.ver)
    rw [len_putV] at h1
    have h2 : sizeM L = ins.length := h.size
    rw [List.length_append, List.length_singleton]; omega
theorem Fill.fill {L : Hs} {ins : List Part} (h : Fill L ins) (ps : List Part) : Fill (fillH ps L ins).1 (fillH ps L ins).2 := by
  induction ps generalizing L ins with
  | nil => exact h
  | cons p r ih =>
    simp only [fillH]
    split
    · rename_i hn; exact ih (h.add hn)
    · exact ih h
theorem fillH_len (ps : List Part) (L : Hs) (ins : List Part) : (fillH ps L ins).2.length ≤ ins.length + ps.length := by
  induction ps generalizing L ins with
  | nil => simp [fillH]
  | cons p r ih =>
    simp only [fillH]
    split
    · have := ih (instH L p) (ins ++ [p]); simp at this ⊢; omega
    · have := ih L ins; simp at this ⊢; omega
theorem fillH_sub (ps : List Part) (L : Hs) (ins : List Part) : ∀ q ∈ (fillH ps L ins).2, q ∈ ins ∨ q ∈ ps := by
  induction ps generalizing L ins with
  | nil => intro q hq; exact .inl hq
  | cons p r ih =>
    intro q hq
    simp only [fillH] at hq
    split at hq
    · rcases ih _ _ q hq with h | h
      · rcases List.mem_append.1 h with h | h
        · exact .inl h
        · simp at h; exact .inr (by simp [h])
      · exact .inr (by simp [h])
    · exact (ih _ _ q hq).imp id (fun h => by simp [h])
/-- What is apart can all be installed, in any order. -/
theorem fill_all {L : Hs} {ins : List Part} (h : Fill L ins) (ps : List Part) (hp : (ins ++ ps).Pairwise fun p q => ¬ (p.w.key = q.w.key ∧ p.num = q.num)) (hok : ∀ p ∈ ps, okP p = true) : (fillH ps L ins).2 = ins ++ ps := by
  induction ps generalizing L ins with
  | nil => simp [fillH]
  | cons p r ih =>
    have hn : newP L p = true := by
      unfold newP
      rw [hok p (by simp), Bool.true_and, Bool.not_eq_true', Bool.eq_false_iff]
      intro hc
      obtain ⟨y, hy, e⟩ := hasV_iff.1 hc
      obtain ⟨q, hq, h1, rfl⟩ := (h.mem _ _).1 hy
      exact (List.pairwise_append.1 hp).2.2 q hq p (by simp) ⟨h1, e⟩
    simp only [fillH, if_pos hn]
    rw [ih (h.add hn) (by simpa using hp) (fun q hq => hok q (by simp [hq]))]
    simp
theorem Fill.ext {L L' : Hs} {ins ins' : List Part} (h : Fill L ins) (h' : Fill L' ins') (hm : ∀ p, p ∈ ins ↔ p ∈ ins') : L = L' := by
  refine hs_ext h.ok h'.ok fun k => ?_
  refine asc_ext (chkB_iff.1 (hget_chk h.ok k)).2 (chkB_iff.1 (hget_chk h'.ok k)).2 fun x => ?_
  rw [h.mem, h'.mem]
  simp only [hm]
/-- One order more. -/
def turnI (n t i : Nat) : Nat := (n - 1 - i + t) % n
def noPart : Part := ⟨0, ⟨ByteArray.empty, ByteArray.empty, false⟩⟩
def turnL (l : List Part) (t : Nat) : List Part := (List.range l.length).map fun i => l.getD (turnI l.length t i) noPart
theorem turnI_turn {n t i : Nat} (h : i < n) : turnI n t (turnI n t i) = i := by
  unfold turnI
  have h1 := Nat.div_add_mod (n - 1 - i + t) n
  have h2 := Nat.mod_lt (n - 1 - i + t) (show 0 < n by omega)
  have h3 : n - 1 - (n - 1 - i + t) % n + t = i + n * ((n - 1 - i + t) / n) := by omega
  rw [h3, Nat.add_mul_mod_self_left, Nat.mod_eq_of_lt h]
theorem turnI_lt {n t i : Nat} (h : i < n) : turnI n t i < n := Nat.mod_lt _ (by omega)
theorem turnL_perm (l : List Part) (t : Nat) : (∀ p, p ∈ turnL l t ↔ p ∈ l) ∧ (turnL l t).length = l.length ∧ ∀ i (h : i < l.length), (turnL l t)[i]? = l[turnI l.length t i]? := by
  have hg : ∀ i (h : i < l.length), (turnL l t)[i]? = l[turnI l.length t i]? := fun i h => by
    unfold turnL
    rw [List.getElem?_map, List.getElem?_range h]
    have := turnI_lt (t := t) h
    simp [List.getD, List.getElem?_eq_getElem this]
  have hl : (turnL l t).length = l.length := by simp [turnL]
  refine ⟨fun p => ⟨fun hp => ?_, fun hp => ?_⟩, hl, hg⟩
  · obtain ⟨i, hi⟩ := List.getElem?_of_mem hp
    have hil := (List.getElem?_eq_some_iff.1 hi).1
    rw [hg i (by omega)] at hi
    exact List.mem_of_getElem? hi
  · obtain ⟨j, hj⟩ := List.getElem?_of_mem hp
    have hjl := (List.getElem?_eq_some_iff.1 hj).1
    refine List.mem_of_getElem? (i := turnI l.length t j) ?_
    rw [hg _ (turnI_lt hjl), turnI_turn hjl]; exact hj
theorem turnL_dist {l : List Part} {R : Part → Part → Prop} (hs : ∀ a b, R a b → R b a) (h : l.Pairwise R) (t : Nat) : (turnL l t).Pairwise R := by
  obtain ⟨-, hl, hg⟩ := turnL_perm l t
  rw [List.pairwise_iff_getElem]
  intro i j hi hj hij
  rw [hl] at hi hj
  have h1 := hg i hi
  have h2 := hg j hj
  rw [List.getElem?_eq_getElem (by omega), List.getElem?_eq_getElem (turnI_lt hi)] at h1
  rw [List.getElem?_eq_getElem (by omega), List.getElem?_eq_getElem (turnI_lt hj)] at h2
  injection h1 with h1; injection h2 with h2
  rw [h1, h2]
  have hne : turnI l.length t i ≠ turnI l.length t j := fun e => by
    have := congrArg (turnI l.length t) e
    rw [turnI_turn hi, turnI_turn hj] at this; omega
  have hp := List.pairwise_iff_getElem.1 h
  rcases Nat.lt_or_gt_of_ne hne with hlt | hlt
  · exact hp _ _ (turnI_lt hi) (turnI_lt hj) hlt
  · exact hs _ _ (hp _ _ (turnI_lt hj) (turnI_lt hi) hlt)
/-- SHARDORDERS, in plain words. -/
theorem orders_law (ps : List Part) (t : Nat) : fillH (turnL (fillH ps [] []).2 t) [] [] = ((fillH ps [] []).1, turnL (fillH ps [] []).2 t) := by
  have h1 := Fill.nil.fill ps
  obtain ⟨hm, hl, -⟩ := turnL_perm (fillH ps [] []).2 t
  have h2 := Fill.nil.fill (turnL (fillH ps [] []).2 t)
  have h3 : (fillH (turnL (fillH ps [] []).2 t) [] []).2 = turnL (fillH ps [] []).2 t := by
    have := fill_all Fill.nil (turnL (fillH ps [] []).2 t) (by simpa using turnL_dist (fun a b h h' => h ⟨h'.1.symm, h'.2.symm⟩) h1.dist t) (fun p hp => h1.okp p ((hm p).1 hp))
    simpa using this
  rw [h3] at h2
  exact Prod.ext (h2.ext h1 hm) h3
end Go.Proofs.YtfpcgfgofemhoaaGreat

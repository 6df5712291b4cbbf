/- ShardReads, ShardDumps, ShardStretches, in plain words. Plain theorems. -/
import Derived.Test.YtfpcgfgofemhoaaGreatShf
namespace Go.Proofs.YtfpcgfgofemhoaaGreat
open Go.RowKit
set_option linter.unusedVariables false
set_option linter.unusedSimpArgs false

theorem ltB_em (k : ByteArray) : ltB k ByteArray.empty = false := by
  cases h : ltB k ByteArray.empty
  · rfl
  · exfalso; revert h; unfold ltB; simp [kL]
theorem inS_all (k : ByteArray) : inS ByteArray.empty ByteArray.empty k = true := by
  unfold inS; rw [ltB_em]; simp
theorem fm_congr {α β : Type} {f g : α → Option β} : ∀ {l : List α}, (∀ x ∈ l, f x = g x) → l.filterMap f = l.filterMap g
  | [], _ => rfl
  | x :: r, h => by rw [List.filterMap_cons, List.filterMap_cons, h x (by simp), fm_congr (l := r) fun y hy => h y (by simp [hy])]
theorem scanH_part (L : Hs) (key end_ : ByteArray) (m : Int) : scanH L key end_ m = (scanH L ByteArray.empty ByteArray.empty m).filter fun e => inS key end_ e.1 := by
  unfold scanH
  rw [List.filter_filterMap]
  refine fm_congr fun p _ => ?_
  rw [inS_all, Bool.and_true]
  cases h : (getV p.2 m).2 <;> cases h2 : inS key end_ p.1 <;> simp [Option.filter, h2]
theorem scanH_two {L : Hs} (h : HsOk L) {key : ByteArray} (hk : 0 < key.size) (m : Int) : scanH L ByteArray.empty key m ++ scanH L key ByteArray.empty m = scanH L ByteArray.empty ByteArray.empty m := by
  have i1 : ∀ k, inS ByteArray.empty key k = ltB k key := fun k => by
    have hk0 : ¬ key.size = 0 := by omega
    unfold inS; rw [ltB_em]; simp [hk0]
  have i2 : ∀ k, inS key ByteArray.empty k = !ltB k key := fun k => by unfold inS; simp
  refine ents_ext ?_ (scanH_rises h _ _ _) fun k v => ?_
  · rw [List.map_append]
    refine List.pairwise_append.2 ⟨scanH_rises h _ _ _, scanH_rises h _ _ _, fun a ha b hb => ?_⟩
    obtain ⟨⟨k1, v1⟩, h1, rfl⟩ := List.mem_map.1 ha
    obtain ⟨⟨k2, v2⟩, h2, rfl⟩ := List.mem_map.1 hb
    have e1 := ((mem_scanH h).1 h1).2
    have e2 := ((mem_scanH h).1 h2).2
    rw [i1] at e1
    rw [i2] at e2
    simp only [Bool.not_eq_true'] at e2
    simp only
    rcases ltB_or k1 k2 with h3 | h3 | h3
    · exact h3
    · subst h3; rw [e1] at e2; cases e2
    · rw [ltB_trans h3 e1] at e2; cases e2
  · rw [List.mem_append, mem_scanH h, mem_scanH h, mem_scanH h, i1, i2, inS_all]
    cases ltB k key <;> simp
/-- The write of the greatest number of at most a mark of a key. -/
def newI (best : Option Part) (k : ByteArray) (m : Int) (p : Part) : Option Part := if p.w.key = k ∧ p.num ≤ m ∧ ((best.map Part.num).getD 0) < p.num then some p else best
def newL (l : List Part) (k : ByteArray) (m : Int) : Option Part := l.foldl (fun b p => newI b k m p) none
theorem newL_snoc (l : List Part) (k : ByteArray) (m : Int) (p : Part) : newL (l ++ [p]) k m = newI (newL l k m) k m p := by simp [newL]
theorem newL_spec (l : List Part) (k : ByteArray) (m : Int) (hp : ∀ p ∈ l, 1 ≤ p.num) :
    (∀ b, newL l k m = some b → b ∈ l ∧ b.w.key = k ∧ b.num ≤ m ∧ ∀ q ∈ l, q.w.key = k → q.num ≤ m → q.num ≤ b.num) ∧ (newL l k m = none → ∀ q ∈ l, q.w.key = k → m < q.num) := by
  obtain ⟨n, hn⟩ : ∃ n, n = l.length := ⟨_, rfl⟩
  induction n generalizing l with
  | zero =>
    obtain rfl : l = [] := List.eq_nil_of_length_eq_zero hn.symm
    simp [newL]
  | succ n ih =>
    obtain ⟨l, p, rfl⟩ : ∃ l' p, l = l' ++ [p] := ⟨l.dropLast, l.getLast (by intro e; rw [e] at hn; simp at hn), (List.dropLast_concat_getLast _).symm⟩
    obtain ⟨i1, i2⟩ := ih l (fun q hq => hp q (by simp [hq])) (by simp at hn; omega)
    clear hn ih
    have hp1 := hp p (by simp)
    rw [newL_snoc]
    unfold newI
    by_cases hc : p.w.key = k ∧ p.num ≤ m ∧ ((newL l k m).map Part.num).getD 0 < p.num
    · rw [if_pos hc]
      refine ⟨fun b hb => ?_, fun h => by cases h⟩
      injection hb with hb; subst hb
      refine ⟨by simp, hc.1, hc.2.1, fun q hq hqk hqm => ?_⟩
      rcases List.mem_append.1 hq with hq | hq
      · cases hn : newL l k m with
        | none => have := i2 hn q hq hqk; omega
        | some b =>
          have h1 := (i1 b hn).2.2.2 q hq hqk hqm
          have h2 := hc.2.2
          rw [hn] at h2; simp at h2; omega
      · simp at hq; subst hq; omega
    · rw [if_neg hc]
      refine ⟨fun b hb => ?_, fun hn q hq hqk => ?_⟩
      · obtain ⟨h1, h2, h3, h4⟩ := i1 b hb
        refine ⟨by simp [h1], h2, h3, fun q hq hqk hqm => ?_⟩
        rcases List.mem_append.1 hq with hq | hq
        · exact h4 q hq hqk hqm
        · simp at hq; subst hq
          rw [hb] at hc; simp at hc
          have := hc hqk hqm; omega
      · rcases List.mem_append.1 hq with hq | hq
        · exact i2 hn q hq hqk
        · simp at hq; subst hq
          rw [hn] at hc; simp at hc
          refine Classical.byContradiction fun h => ?_
          have := hc hqk (by omega); omega
theorem reads_new {L : Hs} {ins : List Part} (h : Fill L ins) (k : ByteArray) (m : Int) :
    getV (hget L k) m = match newL ins k m with | some b => (b.w.val, !b.w.drop) | none => (ByteArray.empty, false) := by
  have hp : ∀ p ∈ ins, 1 ≤ p.num := fun p hp => (verB_num (okP_iff.1 (h.okp p hp)).2).1
  obtain ⟨i1, i2⟩ := newL_spec ins k m hp
  have hc := (chkB_iff.1 (hget_chk h.ok k)).2
  unfold getV
  cases hn : newL ins k m with
  | none =>
    rw [atV_none.2 fun y hy => ?_]
    obtain ⟨q, hq, hqk, rfl⟩ := (h.mem _ _).1 hy
    exact i2 hn q hq hqk
  | some b =>
    obtain ⟨h1, h2, h3, h4⟩ := i1 b hn
    have : atV (hget L k) m = some b.ver := (atV_some hc).2 ⟨(h.mem _ _).2 ⟨b, h1, h2, rfl⟩, h3, fun y hy hym => by
      obtain ⟨q, hq, hqk, rfl⟩ := (h.mem _ _).1 hy
      exact h4 q hq hqk hym⟩
    rw [this]; rfl
theorem reads_found {L : Hs} (h : HsOk L) (k : ByteArray) (m : Int) : (getV (hget L k) m).2 = (scanH L ByteArray.empty ByteArray.empty m).any fun e => decide (e.1 = k) := by
  rw [Bool.eq_iff_iff, List.any_eq_true]
  constructor
  · intro hg
    exact ⟨(k, (getV (hget L k) m).1), (mem_scanH h).2 ⟨Prod.ext rfl hg, inS_all k⟩, by simp⟩
  · rintro ⟨⟨k', v⟩, he, hk⟩
    simp only [decide_eq_true_eq] at hk; subst hk
    rw [((mem_scanH h).1 he).1]
theorem reads_after {L : Hs} (h : HsOk L) {least m : Int} (hm : least ≤ m) (key end_ : ByteArray) : scanH (collH L least) key end_ m = scanH L key end_ m :=
  scanH_ext (collH_ok h least) h (fun k => by
    rw [hget_collH]; unfold getV
    rw [atV_collV (chkB_iff.1 (hget_chk h k)).2 hm]) key end_
/-- A dump. -/
def dumpH (L : Hs) (mark : Int) (beyond : List Int) : Hs := pickH (fun l => dumpV l mark beyond) L
theorem dumpH_ok {L : Hs} (h : HsOk L) (mark : Int) (beyond : List Int) : HsOk (dumpH L mark beyond) := pickH_ok h fun _ => dumpV_sub
theorem hget_dumpH {L : Hs} (h : HsOk L) (mark : Int) (beyond : List Int) (k : ByteArray) : hget (dumpH L mark beyond) k = dumpV (hget L k) mark beyond := hget_pickH h (fun _ => dumpV_sub) k
theorem sizeH_dumpH (L : Hs) (mark : Int) (beyond : List Int) : sizeH (dumpH L mark beyond) ≤ sizeH L := by
  unfold sizeH dumpH pickH
  induction L with
  | nil => simp
  | cons p r ih =>
    have h1 := (dumpV_sub (l := p.2) (mark := mark) (beyond := beyond)).length_le
    simp only [List.map_cons, List.filter_cons]
    split <;> simp only [List.map_cons, List.sum_cons] at * <;> omega
def beyL (ins : List Part) (mark : Int) : List Int := (ins.filter fun p => decide (mark < p.num)).map Part.num
theorem dumps_get {L : Hs} {ins : List Part} (h : Fill L ins) {mark m : Int} (hm : mark ≤ m) (k : ByteArray) : getV (hget (dumpH L mark (beyL ins mark)) k) m = getV (hget L k) m := by
  rw [hget_dumpH h.ok]
  refine getV_dumpV (hget_chk h.ok k) hm fun x hx hlt => ?_
  obtain ⟨q, hq, hqk, rfl⟩ := (h.mem _ _).1 hx
  exact List.mem_map.2 ⟨q, List.mem_filter.2 ⟨hq, by simpa [Part.ver] using hlt⟩, rfl⟩
theorem dumps_scan {L : Hs} {ins : List Part} (h : Fill L ins) {mark m : Int} (hm : mark ≤ m) (key end_ : ByteArray) : scanH (dumpH L mark (beyL ins mark)) key end_ m = scanH L key end_ m :=
  scanH_ext (dumpH_ok h.ok _ _) h.ok (fun k => dumps_get h hm k) key end_
theorem dumps_in {L : Hs} {ins : List Part} (h : Fill L ins) {mark : Int} {beyond : List Int} {k : ByteArray} {l : List Ver} (hp : (k, l) ∈ dumpH L mark beyond) {x : Ver} (hx : x ∈ l) : ∃ q ∈ ins, q.num = x.num ∧ q.w.key = k ∧ q.w.val = x.val ∧ q.w.drop = x.drop := by
  have h1 := hget_mem (dumpH_ok h.ok mark beyond) hp
  rw [hget_dumpH h.ok] at h1
  have h2 : x ∈ hget L k := dumpV_sub.subset (by rw [h1]; exact hx)
  obtain ⟨q, hq, hqk, rfl⟩ := (h.mem _ _).1 h2
  exact ⟨q, hq, rfl, hqk, rfl, rfl⟩
end Go.Proofs.YtfpcgfgofemhoaaGreat

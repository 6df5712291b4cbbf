/- The store that a log comes to, in plain lists: as a map, as entries that rise; both are one. Plain theorems over any program. -/
import Derived.Test.YtdcnaieieggclaaCore
import Derived.Test.YtdcnaieieggclaaSort
namespace Go.Proofs.Ytdcnaieieggclaa
open Go.RowKit
set_option linter.unusedVariables false
set_option linter.unusedSimpArgs false

structure Ent where
  key : ByteArray
  val : ByteArray
def Ent.cells (x : Ent) : List Value := [.string x.key, .string x.val]
abbrev EntsAt := RowAt Ent.cells 2
theorem len_ent (xs : List Ent) : ∀ x ∈ xs, (Ent.cells x).length = 2 := fun _ _ => rfl
theorem one_ent (x : Ent) : ∀ (u : Value), u ∈ x.cells → u.oneCell' = true := by
  intro u hu; simp only [Ent.cells, List.mem_cons, List.not_mem_nil, or_false] at hu; rcases hu with rfl | rfl <;> rfl
abbrev KV := List (ByteArray × ByteArray)
def stepM (m : KV) (x : Wr) : KV := if x.drop then mdel m x.key else mput m x.key x.val
def playM (m : KV) (ws : List Wr) : KV := ws.foldl stepM m
def stepE (st : List Ent) (x : Wr) : List Ent := st.filter (fun e => ltB e.key x.key) ++ (if x.drop then [] else [⟨x.key, x.val⟩]) ++ st.filter (fun e => ltB x.key e.key)
def playE (st : List Ent) (ws : List Wr) : List Ent := ws.foldl stepE st
def allW (rs : List RTx) (n : Nat) : List Wr := (rs.take n).flatMap RTx.ws
def foldM (rs : List RTx) (n : Nat) : KV := playM [] (allW rs n)
def foldE (rs : List RTx) (n : Nat) : List Ent := playE [] (allW rs n)
theorem allW_succ {rs : List RTx} {n : Nat} {r : RTx} (h : rs[n]? = some r) : allW rs (n + 1) = allW rs n ++ r.ws := by
  unfold allW; rw [List.take_add_one, h]; simp
theorem foldM_succ {rs : List RTx} {n : Nat} {r : RTx} (h : rs[n]? = some r) : foldM rs (n + 1) = playM (foldM rs n) r.ws := by
  unfold foldM; rw [allW_succ h]; simp [playM]
theorem foldE_succ {rs : List RTx} {n : Nat} {r : RTx} (h : rs[n]? = some r) : foldE rs (n + 1) = playE (foldE rs n) r.ws := by
  unfold foldE; rw [allW_succ h]; simp [playE]
theorem playM_snoc {m : KV} {ws : List Wr} {k : Nat} {x : Wr} (h : ws[k]? = some x) : playM m (ws.take (k + 1)) = stepM (playM m (ws.take k)) x := by
  unfold playM; rw [List.take_add_one, h]; simp [List.foldl_append]
theorem playE_snoc {st : List Ent} {ws : List Wr} {k : Nat} {x : Wr} (h : ws[k]? = some x) : playE st (ws.take (k + 1)) = stepE (playE st (ws.take k)) x := by
  unfold playE; rw [List.take_add_one, h]; simp [List.foldl_append]

def RisesE (st : List Ent) : Prop := st.Pairwise fun a b => ltB a.key b.key = true
theorem RisesE.keys {st : List Ent} (h : RisesE st) : Rises (st.map (·.key)) := List.pairwise_map.2 h
def Agree (st : List Ent) (m : KV) : Prop := RisesE st ∧ (m.map (·.1)).Nodup ∧ ∀ e : Ent, e ∈ st ↔ mget m e.key = some e.val
theorem rises_step {st : List Ent} (h : RisesE st) (x : Wr) : RisesE (stepE st x) := by
  unfold stepE RisesE
  rw [List.pairwise_append, List.pairwise_append]
  refine ⟨⟨h.filter _, ?_, ?_⟩, h.filter _, ?_⟩
  · split <;> simp
  · intro a ha b hb
    split at hb
    · simp at hb
    · simp at hb; subst hb; simpa using (List.mem_filter.1 ha).2
  · intro a ha b hb
    have h2 : ltB x.key b.key = true := by simpa using (List.mem_filter.1 hb).2
    rcases List.mem_append.1 ha with ha | ha
    · have h1 : ltB a.key x.key = true := by simpa using (List.mem_filter.1 ha).2
      exact ltB_trans h1 h2
    · split at ha
      · simp at ha
      · simp at ha; subst ha; exact h2
theorem mem_step (st : List Ent) (x : Wr) (e : Ent) : e ∈ stepE st x ↔ (e ∈ st ∧ e.key ≠ x.key) ∨ (x.drop = false ∧ e = ⟨x.key, x.val⟩) := by
  unfold stepE
  simp only [List.mem_append, List.mem_filter]
  have hmid : e ∈ (if x.drop then ([] : List Ent) else [⟨x.key, x.val⟩]) ↔ (x.drop = false ∧ e = ⟨x.key, x.val⟩) := by
    cases x.drop <;> simp
  rw [hmid]
  constructor
  · rintro ((⟨h1, h2⟩ | h) | ⟨h1, h2⟩)
    · exact Or.inl ⟨h1, ltB_ne h2⟩
    · exact Or.inr h
    · exact Or.inl ⟨h1, fun e => ltB_ne h2 e.symm⟩
  · rintro (⟨h1, h2⟩ | h)
    · rcases ltB_or e.key x.key with h3 | h3 | h3
      · exact Or.inl (Or.inl ⟨h1, h3⟩)
      · exact absurd h3 h2
      · exact Or.inr ⟨h1, h3⟩
    · exact Or.inl (Or.inr h)
theorem agree_step {st : List Ent} {m : KV} (h : Agree st m) (x : Wr) : Agree (stepE st x) (stepM m x) := by
  refine ⟨rises_step h.1 x, ?_, fun e => ?_⟩
  · unfold stepM; split
    · exact nodup_mdel _ h.2.1
    · exact nodup_mput _ _ h.2.1
  · rw [mem_step, h.2.2]
    unfold stepM
    cases hd : x.drop
    · simp only [Bool.false_eq_true, if_false, true_and]
      rw [mget_mput]
      by_cases hk : x.key = e.key
      · rw [if_pos hk]
        constructor
        · rintro (⟨-, h2⟩ | h2)
          · exact absurd hk.symm h2
          · rw [h2]
        · intro h2; injection h2 with h2; right; cases e; simp_all
      · rw [if_neg hk]
        constructor
        · rintro (⟨h1, -⟩ | h2)
          · exact h1
          · subst h2; exact absurd rfl hk
        · intro h2; exact Or.inl ⟨h2, fun e => hk e.symm⟩
    · simp only [if_true, Bool.true_eq_false, false_and, or_false]
      rw [mget_mdel h.2.1]
      by_cases hk : x.key = e.key
      · rw [if_pos hk]; simp [hk]
      · rw [if_neg hk]; exact ⟨fun h => h.1, fun h => ⟨h, fun e => hk e.symm⟩⟩
theorem agree_play {st : List Ent} {m : KV} (h : Agree st m) (ws : List Wr) : Agree (playE st ws) (playM m ws) := by
  induction ws generalizing st m with
  | nil => exact h
  | cons x r ih => exact ih (agree_step h x)
theorem agree_fold (rs : List RTx) (n : Nat) : Agree (foldE rs n) (foldM rs n) := agree_play (st := []) (m := []) ⟨List.Pairwise.nil, by simp, fun e => by simp [mget]⟩ _
/-- A map's entries, rising. -/
def entsOf (m : KV) : List Ent := (sortedK m).map fun k => ⟨k, (mget m k).getD ⟨#[]⟩⟩
theorem agree_ents {st : List Ent} {m : KV} (h : Agree st m) : entsOf m = st := by
  have hk : sortedK m = st.map (·.key) := by
    refine rises_eq (rises_sortedK h.2.1) h.1.keys fun k => ?_
    rw [mem_sortedK]
    constructor
    · intro hm
      cases hg : mget m k with
      | none => exact absurd hm ((mget_none_iff _ _).1 hg)
      | some v => exact List.mem_map.2 ⟨⟨k, v⟩, (h.2.2 _).2 hg, rfl⟩
    · intro hm
      obtain ⟨e, he, rfl⟩ := List.mem_map.1 hm
      have := (h.2.2 e).1 he
      exact Classical.byContradiction fun hc => by rw [(mget_none_iff _ _).2 hc] at this; cases this
  unfold entsOf
  rw [hk, List.map_map]
  conv => rhs; rw [← List.map_id st]
  refine List.map_congr_left fun e he => ?_
  simp [(h.2.2 e).1 he]
theorem ents_fold (rs : List RTx) (n : Nat) : entsOf (foldM rs n) = foldE rs n := agree_ents (agree_fold rs n)

/-! ### where a key stands -/
/-- p is the place of a key among entries; hit: is it there? -/
def PlaceOf (st : List Ent) (k : ByteArray) (p : Nat) (hit : Bool) : Prop :=
  p ≤ st.length ∧ (∀ (i : Nat) (x : Ent), st[i]? = some x → (i < p ↔ ltB x.key k = true)) ∧ hit = (((st[p]?).map fun x => x.key.toList == k.toList).getD false)
theorem toL_eq (a b : ByteArray) : (a.toList == b.toList) = decide (a = b) := by
  rw [ByteArray.toList_eq, ByteArray.toList_eq]
  by_cases h : a = b
  · simp [h]
  · simp only [h, decide_false, beq_eq_false_iff_ne]
    exact fun e => h (kL_inj e)
theorem PlaceOf.take {st : List Ent} {k : ByteArray} {p : Nat} {hit : Bool} (h : PlaceOf st k p hit) : st.take p = st.filter fun e => ltB e.key k := by
  conv => rhs; rw [← List.take_append_drop p st]
  rw [List.filter_append, List.filter_eq_self.2, List.filter_eq_nil_iff.2, List.append_nil]
  · intro x hx
    obtain ⟨i, hi⟩ := List.getElem?_of_mem hx
    rw [List.getElem?_drop] at hi
    intro hc
    have := (h.2.1 _ x hi).2 hc
    omega
  · intro x hx
    obtain ⟨i, hi⟩ := List.getElem?_of_mem hx
    have hl := (List.getElem?_eq_some_iff.1 hi).1
    have hl := Nat.lt_min.1 (by rw [List.length_take] at hl; exact hl)
    rw [List.getElem?_take_of_lt hl.1] at hi
    exact (h.2.1 _ x hi).1 hl.1
theorem rises_lt {st : List Ent} (h : RisesE st) {i j : Nat} {x y : Ent} (hi : st[i]? = some x) (hj : st[j]? = some y) (hij : i < j) : ltB x.key y.key = true := by
  obtain ⟨h1, rfl⟩ := List.getElem?_eq_some_iff.1 hi
  obtain ⟨h2, rfl⟩ := List.getElem?_eq_some_iff.1 hj
  exact List.pairwise_iff_getElem.1 h i j h1 h2 hij
theorem PlaceOf.drop {st : List Ent} {k : ByteArray} {p : Nat} {hit : Bool} (hr : RisesE st) (h : PlaceOf st k p hit) : st.drop (p + if hit then 1 else 0) = st.filter fun e => ltB k e.key := by
  conv => rhs; rw [← List.take_append_drop (p + if hit then 1 else 0) st]
  rw [List.filter_append, List.filter_eq_nil_iff.2, List.nil_append, List.filter_eq_self.2]
  · intro x hx
    obtain ⟨i, hi⟩ := List.getElem?_of_mem hx
    rw [List.getElem?_drop] at hi
    have hn : ltB x.key k = false := by
      cases hc : ltB x.key k
      · rfl
      · have := (h.2.1 _ x hi).2 hc; omega
    rcases ltB_or x.key k with h1 | h1 | h1
    · rw [hn] at h1; cases h1
    · exfalso
      have hpl : p < st.length := by have := (List.getElem?_eq_some_iff.1 hi).1; omega
      have hp : st[p]? = some st[p] := List.getElem?_eq_getElem hpl
      have hh := h.2.2
      rw [hp] at hh
      simp only [Option.map_some, Option.getD_some, toL_eq] at hh
      by_cases hip : p < p + (if hit then 1 else 0) + i
      · have h2 := rises_lt hr hp hi hip
        rw [h1] at h2
        have := (h.2.1 p _ hp).2 h2
        omega
      · have e0 : (p + (if hit then 1 else 0) + i) = p := by omega
        rw [e0, hp] at hi
        injection hi with hi
        rw [hi, h1] at hh
        simp only [decide_true] at hh
        rw [hh] at e0; simp only [if_true] at e0; omega
    · exact h1
  · intro x hx hc
    obtain ⟨i, hi⟩ := List.getElem?_of_mem hx
    have hl := (List.getElem?_eq_some_iff.1 hi).1
    have hl := Nat.lt_min.1 (by rw [List.length_take] at hl; exact hl)
    rw [List.getElem?_take_of_lt hl.1] at hi
    by_cases hip : i < p
    · have := (h.2.1 _ x hi).1 hip
      rw [ltB_asymm this] at hc; cases hc
    · have hih : hit = true := by cases hit <;> simp_all <;> omega
      have e0 : i = p := by have := hl.1; rw [hih] at this; simp at this; omega
      subst e0
      have hh := h.2.2
      rw [hi, hih] at hh
      simp only [Option.map_some, Option.getD_some, toL_eq] at hh
      have := of_decide_eq_true hh.symm
      rw [this, ltB_irr] at hc; cases hc
/-- What a write makes of the entries, by the place. -/
theorem PlaceOf.write {st : List Ent} {x : Wr} {p : Nat} {hit : Bool} (hr : RisesE st) (h : PlaceOf st x.key p hit) :
    st.take p ++ (if x.drop then [] else [⟨x.key, x.val⟩]) ++ st.drop (p + if hit then 1 else 0) = stepE st x := by
  rw [h.take, h.drop hr]; rfl
/-- What is read at the place. -/
theorem PlaceOf.get {st : List Ent} {m : KV} {k : ByteArray} {p : Nat} {hit : Bool} (ha : Agree st m) (h : PlaceOf st k p hit) :
    (hit = true ∧ ∃ x, st[p]? = some x ∧ mget m k = some x.val) ∨ (hit = false ∧ mget m k = none) := by
  have hh := h.2.2
  cases hit
  · right; refine ⟨rfl, ?_⟩
    cases hg : mget m k with
    | none => rfl
    | some v =>
      exfalso
      have hm := (ha.2.2 ⟨k, v⟩).2 hg
      have h1 : (⟨k, v⟩ : Ent) ∈ st.drop p := by
        rw [← List.take_append_drop p st] at hm
        rcases List.mem_append.1 hm with h2 | h2
        · rw [h.take] at h2
          have := (List.mem_filter.1 h2).2
          simp [ltB_irr] at this
        · exact h2
      have := h.drop ha.1
      simp only [Bool.false_eq_true, if_false, Nat.add_zero] at this
      rw [this] at h1
      have := (List.mem_filter.1 h1).2
      simp [ltB_irr] at this
  · left; refine ⟨rfl, ?_⟩
    cases hp : st[p]? with
    | none => rw [hp] at hh; cases hh
    | some x =>
      rw [hp] at hh
      simp only [Option.map_some, Option.getD_some, toL_eq] at hh
      have hk := of_decide_eq_true hh.symm
      exact ⟨x, rfl, by have := (ha.2.2 x).1 (List.mem_of_getElem? hp); rwa [hk] at this⟩
/-- Does a key lie in a stretch? -/
def inB (key fin k : ByteArray) : Bool := !ltB k key && (decide (fin.size = 0) || ltB k fin)
/-- The last write of a key. -/
def lastW (ws : List Wr) (k : ByteArray) : Option Wr := ws.reverse.find? fun x => decide (x.key = k)
theorem lastW_snoc (ws : List Wr) (x : Wr) (k : ByteArray) : lastW (ws ++ [x]) k = if x.key = k then some x else lastW ws k := by
  unfold lastW; rw [List.reverse_append]; simp [List.find?_cons]; split <;> simp_all
theorem mget_playM {m : KV} (hn : (m.map (·.1)).Nodup) (ws : List Wr) (k : ByteArray) : mget (playM m ws) k = match lastW ws k with | none => mget m k | some x => if x.drop then none else some x.val := by
  have hnd : ∀ (m : KV), (m.map (·.1)).Nodup → ∀ ws, ((playM m ws).map (·.1)).Nodup := fun m h ws => by
    induction ws generalizing m with
    | nil => exact h
    | cons x r ih => refine ih _ ?_; unfold stepM; split; exact nodup_mdel _ h; exact nodup_mput _ _ h
  obtain ⟨l, rfl⟩ : ∃ l : List Wr, ws = l.reverse := ⟨ws.reverse, by simp⟩
  induction l with
  | nil => simp [lastW, playM]
  | cons x r ih =>
    rw [List.reverse_cons, lastW_snoc, show playM m (r.reverse ++ [x]) = stepM (playM m r.reverse) x from by simp [playM]]
    unfold stepM
    by_cases hk : x.key = k
    · rw [if_pos hk]
      cases hd : x.drop
      · simp [mget_mput, hk, hd]
      · simp [mget_mdel (hnd m hn _), hk, hd]
    · rw [if_neg hk]
      cases hd : x.drop
      · simp only [Bool.false_eq_true, if_false]; rw [mget_mput, if_neg hk, ih]
      · simp only [if_true]; rw [mget_mdel (hnd m hn _), if_neg hk, ih]
end Go.Proofs.Ytdcnaieieggclaa

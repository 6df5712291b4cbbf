/- From a map that the walk keeps to what the library's iterators ask; the order of keys. Plain theorems over any program. -/
import Derived.Test.YtfafhfjmoijaeaaGreatDoorMap
import Derived.Sort.KeysCollected
import Derived.Lib.SlKeysI
import Derived.StringKeys
namespace Go.Proofs.YtfafhfjmoijaeaaGreatDoor
open Go.RowKit
set_option linter.unusedVariables false
set_option linter.unusedSimpArgs false

open Go.MapKept Go.Maps Go.WideShapes Go.WideMaps
section
variable {V : Type} {ν : V → Value} {P : Program} {kt : TypeId} {w : World} {b : Nat}
theorem ownM_strs {m : List (ByteArray × V)} (hk : P.underlying kt = some .string) (h : OwnM Value.string ν w b m) (hn : m.length ≤ maxLen) (hs : ∀ p ∈ m, p.1.size ≤ maxLen) :
    ∃ D : DataW Unit, w.ownsMap P kt (fun _ => some (.nil, [])) b m.length D ∧ (strKeys D).Perm (m.map fun p => p.1.data.toList) ∧ Maps.size D = m.length := by
  obtain ⟨es, clock, hb, hst, he⟩ := h
  have hlen : es.toList.length = m.length := by simpa using congrArg List.length he
  have hsz : es.size = m.length := by rw [← Array.length_toList, hlen]
  obtain ⟨F, hF⟩ : ∃ F : Value × Value → Option (Lit × DataW Unit), F = fun q => (keyOf P kt q.1).map fun l => (l, .nil) := ⟨_, rfl⟩
  have hrd : ∀ x : MapEntry, WideElems.rd P kt (fun _ => some ((.nil : DataW Unit), [])) x = F (x.key, x.val) := fun x => by
    rw [hF]; simp only [WideElems.rd, Option.map_some]; cases keyOf P kt x.key <;> rfl
  have hFp : ∀ p ∈ m, F (.string p.1, ν p.2) = some (.string p.1.data.toList, .nil) := fun p hp => by rw [hF]; simp [keyOf_string_mk hk (hs p hp)]
  have hmap : es.toList.map (WideElems.rg P kt (fun _ => some ((.nil : DataW Unit), []))) = m.map fun p => (Lit.string p.1.data.toList, .nil) := by
    have h1 : es.toList.map (WideElems.rg P kt (fun _ => some ((.nil : DataW Unit), []))) = (es.toList.map fun e => (e.key, e.val)).map fun q => (F q).getD (.bool false, .nil) := by
      rw [List.map_map]; refine List.map_congr_left fun x _ => ?_
      simp only [WideElems.rg, hrd, Function.comp]
    rw [h1, he, List.map_map]
    refine List.map_congr_left fun p hp => ?_
    simp [Function.comp, hFp p hp]
  refine ⟨_, ⟨es, clock, hb, ⟨by omega, hst, fun x hx => ?_⟩, by omega, rfl⟩, ?_, ?_⟩
  · have h1 : (x.key, x.val) ∈ m.map (fun p => (Value.string p.1, ν p.2)) := by rw [← he]; exact List.mem_map.2 ⟨x, hx, rfl⟩
    obtain ⟨p, hp, e⟩ := List.mem_map.1 h1
    exact ⟨_, by rw [hrd, ← e]; exact hFp p hp⟩
  · rw [hmap]
    refine ((sorted_perm _).map _).trans ?_
    rw [List.map_map]
    exact List.Perm.of_eq (List.map_congr_left fun p _ => rfl)
  · rw [hmap, Maps.size_eq, (sorted_perm _).length_eq, List.length_map]
theorem ownM_ints {m : List (Int × V)} (hk : P.underlying kt = some (.int .i64)) (h : OwnM (Value.int .i64) ν w b m) (hn : m.length ≤ maxLen) (hs : ∀ p ∈ m, (Lit.int .i64 p.1).wf = true) :
    ∃ D : DataW Unit, w.ownsMap P kt (fun _ => some (.nil, [])) b m.length D ∧ (intKeys D).Perm (m.map fun p => p.1) ∧ Maps.size D = m.length := by
  obtain ⟨es, clock, hb, hst, he⟩ := h
  have hlen : es.toList.length = m.length := by simpa using congrArg List.length he
  have hsz : es.size = m.length := by rw [← Array.length_toList, hlen]
  obtain ⟨F, hF⟩ : ∃ F : Value × Value → Option (Lit × DataW Unit), F = fun q => (keyOf P kt q.1).map fun l => (l, .nil) := ⟨_, rfl⟩
  have hrd : ∀ x : MapEntry, WideElems.rd P kt (fun _ => some ((.nil : DataW Unit), [])) x = F (x.key, x.val) := fun x => by
    rw [hF]; simp only [WideElems.rd, Option.map_some]; cases keyOf P kt x.key <;> rfl
  have hFp : ∀ p ∈ m, F (.int .i64 p.1, ν p.2) = some (.int .i64 p.1, .nil) := fun p hp => by rw [hF]; simp [keyOf_int_mk hk (hs p hp)]
  have hmap : es.toList.map (WideElems.rg P kt (fun _ => some ((.nil : DataW Unit), []))) = m.map fun p => (Lit.int .i64 p.1, .nil) := by
    have h1 : es.toList.map (WideElems.rg P kt (fun _ => some ((.nil : DataW Unit), []))) = (es.toList.map fun e => (e.key, e.val)).map fun q => (F q).getD (.bool false, .nil) := by
      rw [List.map_map]; refine List.map_congr_left fun x _ => ?_
      simp only [WideElems.rg, hrd, Function.comp]
    rw [h1, he, List.map_map]
    refine List.map_congr_left fun p hp => ?_
    simp [Function.comp, hFp p hp]
  refine ⟨_, ⟨es, clock, hb, ⟨by omega, hst, fun x hx => ?_⟩, by omega, rfl⟩, ?_, ?_⟩
  · have h1 : (x.key, x.val) ∈ m.map (fun p => (Value.int .i64 p.1, ν p.2)) := by rw [← he]; exact List.mem_map.2 ⟨x, hx, rfl⟩
    obtain ⟨p, hp, e⟩ := List.mem_map.1 h1
    exact ⟨_, by rw [hrd, ← e]; exact hFp p hp⟩
  · rw [hmap]
    refine ((sorted_perm _).map _).trans ?_
    rw [List.map_map]
    exact List.Perm.of_eq (List.map_congr_left fun p _ => rfl)
  · rw [hmap, Maps.size_eq, (sorted_perm _).length_eq, List.length_map]
end

/-! ### keys in order -/
def kL (k : ByteArray) : List UInt8 := k.data.toList
theorem kL_inj {a b : ByteArray} (h : kL a = kL b) : a = b := by
  unfold kL at h; cases a; cases b; simp_all
theorem kL_mk (l : List UInt8) : kL ⟨l.toArray⟩ = l := by simp [kL]
theorem mk_kL (k : ByteArray) : (⟨(kL k).toArray⟩ : ByteArray) = k := by simp [kL]
/-- One key ahead of another one. -/
def ltB (a b : ByteArray) : Bool := decide (kL a < kL b)
theorem ltB_irr (a : ByteArray) : ltB a a = false := by simp [ltB, List.lt_irrefl]
theorem ltB_trans {a b c : ByteArray} (h : ltB a b = true) (k : ltB b c = true) : ltB a c = true := by
  simp only [ltB, decide_eq_true_eq] at *; exact List.lt_trans h k
theorem ltB_asymm {a b : ByteArray} (h : ltB a b = true) : ltB b a = false := by
  cases hb : ltB b a
  · rfl
  · have := ltB_trans h hb; rw [ltB_irr] at this; cases this
theorem ltB_total {a b : ByteArray} (h : ltB a b = false) (k : ltB b a = false) : a = b := by
  simp only [ltB, decide_eq_false_iff_not] at h k
  exact kL_inj (List.le_antisymm (List.not_lt.1 k) (List.not_lt.1 h))
theorem ltB_or (a b : ByteArray) : ltB a b = true ∨ a = b ∨ ltB b a = true := by
  cases h : ltB a b
  · cases k : ltB b a
    · exact Or.inr (Or.inl (ltB_total h k))
    · exact Or.inr (Or.inr rfl)
  · exact Or.inl rfl
theorem ltB_ne {a b : ByteArray} (h : ltB a b = true) : a ≠ b := by rintro rfl; rw [ltB_irr] at h; cases h
/-- A list of keys that rises. -/
def Rises (l : List ByteArray) : Prop := l.Pairwise fun a b => ltB a b = true
theorem Rises.nodup {l : List ByteArray} (h : Rises l) : l.Nodup := h.imp fun h => ltB_ne h
theorem rises_eq {l l' : List ByteArray} (h : Rises l) (h' : Rises l') (hm : ∀ x, x ∈ l ↔ x ∈ l') : l = l' :=
  List.Perm.eq_of_pairwise (le := fun a b => ltB a b = true) (fun a b _ _ h1 h2 => by rw [ltB_asymm h1] at h2; cases h2) h h' ((List.perm_ext_iff_of_nodup h.nodup h'.nodup).2 hm)
/-- A map's keys, rising. -/
def sortedK {V : Type} (m : List (ByteArray × V)) : List ByteArray := ((m.map fun p => kL p.1).mergeSort leB).map fun l => ⟨l.toArray⟩
theorem mem_sortedK {V : Type} (m : List (ByteArray × V)) (k : ByteArray) : k ∈ sortedK m ↔ k ∈ m.map (·.1) := by
  unfold sortedK
  simp only [List.mem_map, List.mem_mergeSort]
  constructor
  · rintro ⟨l, ⟨p, hp, rfl⟩, rfl⟩; exact ⟨p, hp, (mk_kL _).symm⟩
  · rintro ⟨p, hp, rfl⟩; exact ⟨_, ⟨p, hp, rfl⟩, mk_kL _⟩
theorem len_sortedK {V : Type} (m : List (ByteArray × V)) : (sortedK m).length = m.length := by simp [sortedK]
theorem rises_sortedK {V : Type} {m : List (ByteArray × V)} (h : (m.map (·.1)).Nodup) : Rises (sortedK m) := by
  unfold sortedK Rises
  rw [List.pairwise_map]
  have tr : ∀ a b c : List UInt8, leB a b = true → leB b c = true → leB a c = true := fun a b c h1 h2 => by simp only [leB, decide_eq_true_eq] at *; exact List.le_trans h1 h2
  have to : ∀ a b : List UInt8, (leB a b || leB b a) = true := fun a b => by simp only [leB, Bool.or_eq_true, decide_eq_true_eq]; exact List.le_total a b
  have hp := List.pairwise_mergeSort tr to (m.map fun p => kL p.1)
  have hn : ((m.map fun p => kL p.1).mergeSort leB).Nodup := (List.mergeSort_perm _ _).nodup_iff.2 (by
    have : (m.map fun p => kL p.1) = (m.map (·.1)).map kL := by simp
    rw [this]; exact List.Pairwise.map kL (fun a b hab e => hab (kL_inj e)) h)
  refine (hp.and hn).imp fun {a b} ⟨h1, h2⟩ => ?_
  simp only [ltB, kL_mk, leB, decide_eq_true_eq] at *
  exact Classical.byContradiction fun hc => h2 (List.le_antisymm h1 (List.not_lt.1 hc))
/-- What the library hands back, in these words. -/
theorem sortedK_perm {V : Type} {m : List (ByteArray × V)} {ss : List (List UInt8)} (h : ss.Perm (m.map fun p => p.1.data.toList)) : ((ss.mergeSort (fun x y => decide (x ≤ y))).map fun l => (⟨l.toArray⟩ : ByteArray)) = sortedK m := by
  unfold sortedK
  rw [show (ss.mergeSort fun x y => decide (x ≤ y)) = ss.mergeSort leB from rfl, mergeSort_of_perm h]; rfl
end Go.Proofs.YtfafhfjmoijaeaaGreatDoor

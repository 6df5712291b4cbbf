/- FoldKeys: the walk of its law. -/
import Derived.Test.YtdcnaieieggclaaAl
namespace Go.Proofs.Ytdcnaieieggclaa
open Go.RowKit
set_option linter.unusedVariables false
set_option linter.unusedSimpArgs false

open Go.Maps
theorem info_str : (Try.prog.info? 9).map (fun i => (i.zero, i.size, i.bytes)) = some (some (.string ⟨#[]⟩), 1, 16) := by kernel_rfl
theorem one_s (x : ByteArray) : ∀ (u : Value), u ∈ Scell x → u.oneCell' = true := by
  intro u hu; simp only [Scell, List.mem_cons, List.not_mem_nil, or_false] at hu; rw [hu]; rfl
/-- The keys that were seen, behind i transactions and k writes of the next one. -/
def Seen (rs : List RTx) (i k : Nat) (S : List ByteArray) : Prop := S.Nodup ∧ (∀ p, p < i → ∀ x ∈ wsOf rs p, x.key ∈ S) ∧ (∀ x ∈ (wsOf rs i).take k, x.key ∈ S) ∧ S.length ≤ 32 * i + k
def foundN (rs : List RTx) (m : Nat) (S : List ByteArray) : Nat := (S.filter fun k => (mget (foldM rs m) k).isSome).length
theorem Seen.start (rs : List RTx) : Seen rs 0 0 [] := ⟨List.nodup_nil, fun p h => by omega, by simp, by simp⟩
theorem Seen.next {rs : List RTx} {i k : Nat} {S : List ByteArray} (h : Seen rs i k S) (hk : (wsOf rs i).length = k) (h32 : k ≤ 32) : Seen rs (i + 1) 0 S := by
  obtain ⟨h1, h2, h3, h4⟩ := h
  refine ⟨h1, fun p hp x hx => ?_, by simp, by omega⟩
  by_cases hpi : p = i
  · subst hpi; exact h3 x (by rwa [List.take_of_length_le (by omega)])
  · exact h2 p (by omega) x hx
theorem Seen.skip {rs : List RTx} {i k : Nat} {S : List ByteArray} {x : Wr} (h : Seen rs i k S) (hx : (wsOf rs i)[k]? = some x) (hm : x.key ∈ S) : Seen rs i (k + 1) S := by
  obtain ⟨h1, h2, h3, h4⟩ := h
  refine ⟨h1, h2, fun y hy => ?_, by omega⟩
  rw [List.take_add_one, hx] at hy
  simp only [Option.toList_some, List.mem_append, List.mem_singleton] at hy
  rcases hy with hy | rfl
  · exact h3 y hy
  · exact hm
theorem Seen.add {rs : List RTx} {i k : Nat} {S : List ByteArray} {x : Wr} (h : Seen rs i k S) (hx : (wsOf rs i)[k]? = some x) (hm : x.key ∉ S) : Seen rs i (k + 1) (S ++ [x.key]) := by
  obtain ⟨h1, h2, h3, h4⟩ := h
  refine ⟨?_, fun p hp y hy => List.mem_append_left _ (h2 p hp y hy), fun y hy => ?_, by simp; omega⟩
  · rw [List.nodup_append]
    exact ⟨h1, by simp, fun a ha b hb => by simp at hb; subst hb; exact fun e => hm (e ▸ ha)⟩
  · rw [List.take_add_one, hx] at hy
    simp only [Option.toList_some, List.mem_append, List.mem_singleton] at hy
    rcases hy with hy | rfl
    · exact List.mem_append_left _ (h3 y hy)
    · simp
theorem found_add (rs : List RTx) (m : Nat) (S : List ByteArray) (k : ByteArray) : foundN rs m (S ++ [k]) = foundN rs m S + if (mget (foldM rs m) k).isSome = true then 1 else 0 := by
  unfold foundN; rw [List.filter_append, List.length_append]
  congr 1
  by_cases h : (mget (foldM rs m) k).isSome = true
  · rw [if_pos h]; simp [h]
  · rw [if_neg h]; simp [h]
theorem Seen.found {rs : List RTx} {m : Nat} {S : List ByteArray} (h : Seen rs rs.length 0 S) : foundN rs m S = (foldE rs m).length :=
  found_all h.1 fun r hr x hx => by
    obtain ⟨p, hp⟩ := List.getElem?_of_mem hr
    exact h.2.1 p (List.getElem?_eq_some_iff.1 hp).1 x (by rw [wsOf_get hp]; exact hx)
/-- What the last writer of a key wrote, as the law reads it. -/
def lastWr0 (rs : List RTx) (k : ByteArray) (m : Nat) : Wr := (lastWr rs k m).getD ⟨⟨#[]⟩, ⟨#[]⟩, true⟩
theorem empty_of_size {b : ByteArray} (h : b.size = 0) : b = ⟨#[]⟩ := by
  obtain ⟨d⟩ := b
  have : d = #[] := Array.eq_empty_of_size_eq_zero h
  rw [this]
theorem keys_law {rs : List RTx} (he : logErr rs 1 = 0) {m : Nat} (hm : m ≤ rs.length) (k : ByteArray) :
    ((mget (foldM rs m) k).isSome == (lastWr0 rs k m).drop) = false ∧ (mget (foldM rs m) k).getD ⟨#[]⟩ = (lastWr0 rs k m).val := by
  have h1 := mget_last rs k m hm
  unfold lastWr0
  cases hl : lastWr rs k m with
  | none => rw [hl] at h1; rw [h1]; exact ⟨rfl, rfl⟩
  | some x =>
    rw [hl] at h1
    rw [h1]
    simp only [Option.bind_some, Option.getD_some]
    cases hd : x.drop
    · exact ⟨rfl, rfl⟩
    · refine ⟨rfl, ?_⟩
      unfold lastWr at hl
      split at hl
      · cases hl
      · obtain ⟨hx, -⟩ := lastW_some hl
        have hin : ∃ r ∈ rs, x ∈ r.ws := by
          unfold wsOf at hx
          cases hg : rs[lastN rs k m - 1]? with
          | none => rw [hg] at hx; simp at hx
          | some r => rw [hg] at hx; exact ⟨r, List.mem_of_getElem? hg, by simpa using hx⟩
        obtain ⟨r, hr, hxr⟩ := hin
        obtain ⟨i, hi⟩ := List.getElem?_of_mem hr
        have h2 := (logErr_ok he hi).1
        simp only [txB, Bool.and_eq_true, List.all_eq_true] at h2
        have h3 := h2.2 x hxr
        simp only [wrB, hd, Bool.not_true, Bool.false_or, Bool.and_eq_true, decide_eq_true_eq] at h3
        simp [empty_of_size h3.2]
end Go.Proofs.Ytdcnaieieggclaa

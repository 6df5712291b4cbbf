/- The gate in plain words: a mark, and those beyond it, rising; as bits. Plain theorems. -/
import Derived.Test.YtbiamjgkedmceaaGreatDoorBase
import Derived.Laws.BitsAllLaws
namespace Go.Proofs.YtbiamjgkedmceaaGreatDoor
open Go.RowKit
set_option linter.unusedVariables false
set_option linter.unusedSimpArgs false

/-- Some words of 64 bits tell which numbers are there. -/
structure BitsOf (W : List Nat) (S : Nat → Bool) : Prop where
  len : W.length = 1025
  bits : ∀ (i : Nat) (x : Nat), W[i]? = some x → x < 18446744073709551616 ∧ ∀ j, j < 64 → x.testBit j = S (64 * i + j)
theorem BitsOf.at_ {W : List Nat} {S : Nat → Bool} (h : BitsOf W S) {n : Nat} (hn : n ≤ 65599) : ∃ x, W[n / 64]? = some x ∧ x < 18446744073709551616 ∧ x.testBit (n % 64) = S n := by
  have hi : n / 64 < W.length := by rw [h.len]; omega
  obtain ⟨h1, h2⟩ := h.bits (n / 64) W[n / 64] (List.getElem?_eq_getElem hi)
  refine ⟨_, List.getElem?_eq_getElem hi, h1, ?_⟩
  rw [h2 _ (Nat.mod_lt _ (by omega))]
  congr 1
  omega
theorem BitsOf.zero : BitsOf (List.replicate 1025 0) (fun _ => false) := by
  refine ⟨List.length_replicate, fun i x hx => ?_⟩
  rw [List.getElem?_replicate] at hx
  split at hx
  · injection hx with hx; subst hx; exact ⟨by omega, by simp⟩
  · cases hx
theorem BitsOf.put {W : List Nat} {S T : Nat → Bool} {n x y : Nat} (h : BitsOf W S) (hn : n ≤ 65599) (hx : W[n / 64]? = some x) (hy : y < 18446744073709551616) (hb : ∀ j, j < 64 → y.testBit j = if j = n % 64 then T n else x.testBit j) (hT : ∀ k, k ≠ n → T k = S k) : BitsOf (W.set (n / 64) y) T := by
  refine ⟨by rw [List.length_set]; exact h.len, fun i z hz => ?_⟩
  by_cases hi : i = n / 64
  · subst hi
    have hl : n / 64 < W.length := by rw [h.len]; omega
    rw [List.getElem?_set_self hl] at hz
    injection hz with hz; subst hz
    refine ⟨hy, fun j hj => ?_⟩
    rw [hb j hj]
    by_cases hjn : j = n % 64
    · rw [if_pos hjn]; congr 1; omega
    · rw [if_neg hjn, (h.bits _ _ hx).2 j hj, hT _ (by omega)]
  · rw [List.getElem?_set_ne (fun e => hi e.symm)] at hz
    obtain ⟨h1, h2⟩ := h.bits i z hz
    exact ⟨h1, fun j hj => by rw [h2 j hj, hT _ (by omega)]⟩
theorem bit_or {x j : Nat} (hx : x < 18446744073709551616) (hj : j < 64) : (x ||| 2 ^ j) < 18446744073709551616 ∧ ∀ i, i < 64 → (x ||| 2 ^ j).testBit i = if i = j then true else x.testBit i := by
  refine ⟨Nat.or_lt_two_pow (n := 64) hx (Nat.pow_lt_pow_right (by omega) hj), fun i hi => ?_⟩
  rw [Nat.testBit_or, Nat.testBit_two_pow]
  by_cases h : i = j
  · subst h; simp
  · rw [if_neg h, decide_eq_false (fun e => h e.symm), Bool.or_false]
theorem bit_off {x j : Nat} (hx : x < 18446744073709551616) (hj : j < 64) : (x &&& (18446744073709551615 - 2 ^ j)) < 18446744073709551616 ∧ ∀ i, i < 64 → (x &&& (18446744073709551615 - 2 ^ j)).testBit i = if i = j then false else x.testBit i := by
  refine ⟨Nat.lt_of_le_of_lt Nat.and_le_left hx, fun i hi => ?_⟩
  have hp : 2 ^ j < 2 ^ 64 := Nat.pow_lt_pow_right (by omega) hj
  rw [Nat.testBit_and, show 18446744073709551615 - 2 ^ j = 2 ^ 64 - (2 ^ j + 1) by omega, Nat.testBit_two_pow_sub_succ hp, Nat.testBit_two_pow]
  by_cases h : i = j
  · subst h; simp
  · rw [if_neg h, decide_eq_false (p := j = i) (fun e => h e.symm)]; simp [hi]
theorem bit_is (x j : Nat) : x / 2 ^ j &&& 1 = if x.testBit j = true then 1 else 0 := by
  rw [Nat.and_one_is_mod, Nat.testBit_eq_decide_div_mod_eq]
  have := Nat.mod_two_eq_zero_or_one (x / 2 ^ j)
  rcases this with h | h <;> simp [h]
/-- A gate: its mark, and those beyond it. -/
structure Gt where
  mark : Nat
  bs : List Nat
/-- Up, as long as the next one is there. -/
def cas : List Nat → Nat → Nat × List Nat
  | [], m => (m, [])
  | b :: r, m => if b = m + 1 then cas r (m + 1) else (m, b :: r)
def insN (n : Nat) : List Nat → List Nat
  | [] => [n]
  | b :: r => if n < b then n :: b :: r else b :: insN n r
def Gt.has (g : Gt) (n : Nat) : Bool := decide (1 ≤ n) && (decide (n ≤ g.mark) || g.bs.contains n)
/-- One is there: how it is then, by how much it goes up, and whether it may be. -/
def Gt.done (g : Gt) (n : Nat) : Gt × Nat × Int :=
  if 1 ≤ n ∧ n ≤ 65536 ∧ g.has n = false then (⟨(cas (insN n g.bs) g.mark).1, (cas (insN n g.bs) g.mark).2⟩, (cas (insN n g.bs) g.mark).1 - g.mark, 0) else (g, 0, 1)
structure Gt.Ok (g : Gt) : Prop where
  mark : g.mark ≤ 65536
  rise : g.bs.Pairwise (· < ·)
  lo : ∀ b ∈ g.bs, g.mark + 2 ≤ b ∧ b ≤ 65536
theorem mem_insN {n b : Nat} {l : List Nat} : b ∈ insN n l ↔ b = n ∨ b ∈ l := by
  induction l with
  | nil => simp [insN]
  | cons c r ih =>
    simp only [insN]
    split
    · simp
    · simp only [List.mem_cons, ih]
      constructor
      · rintro (h | h | h) <;> simp [h]
      · rintro (h | h | h) <;> simp [h]
theorem insN_rise {n : Nat} {l : List Nat} (h : l.Pairwise (· < ·)) (hn : n ∉ l) : (insN n l).Pairwise (· < ·) := by
  induction l with
  | nil => simp [insN]
  | cons c r ih =>
    simp only [List.mem_cons, not_or] at hn
    rw [List.pairwise_cons] at h
    simp only [insN]
    split
    · rename_i hc
      refine List.pairwise_cons.2 ⟨fun x hx => ?_, List.pairwise_cons.2 h⟩
      rcases List.mem_cons.1 hx with rfl | hx
      · exact hc
      · have := h.1 x hx; omega
    · refine List.pairwise_cons.2 ⟨fun x hx => ?_, ih h.2 hn.2⟩
      rcases mem_insN.1 hx with rfl | hx
      · omega
      · exact h.1 x hx
/-- What goes up. -/
theorem cas_ok {l : List Nat} {m : Nat} (hr : l.Pairwise (· < ·)) (hl : ∀ b ∈ l, m + 1 ≤ b ∧ b ≤ 65536) (hm : m ≤ 65536) :
    m ≤ (cas l m).1 ∧ (cas l m).1 ≤ 65536 ∧ (cas l m).2.Pairwise (· < ·) ∧ (∀ b, b ∈ (cas l m).2 ↔ b ∈ l ∧ (cas l m).1 < b) ∧ (∀ b, m < b → b ≤ (cas l m).1 → b ∈ l) ∧ (∀ b ∈ (cas l m).2, (cas l m).1 + 2 ≤ b) := by
  induction l generalizing m with
  | nil => simp [cas]; omega
  | cons c r ih =>
    rw [List.pairwise_cons] at hr
    have hc := hl c (by simp)
    simp only [cas]
    split
    · rename_i e
      subst e
      obtain ⟨a1, a2, a3, a4, a5, a6⟩ := ih (m := m + 1) hr.2 (fun b hb => ⟨by have := hr.1 b hb; omega, (hl b (by simp [hb])).2⟩) (by omega)
      refine ⟨by omega, a2, a3, fun b => ?_, fun b h1 h2 => ?_, a6⟩
      · rw [a4 b]
        constructor
        · exact fun h => ⟨by simp [h.1], h.2⟩
        · rintro ⟨h1, h2⟩
          rcases List.mem_cons.1 h1 with rfl | h1
          · omega
          · exact ⟨h1, h2⟩
      · by_cases hb : b = m + 1
        · simp [hb]
        · exact List.mem_cons_of_mem _ (a5 b (by omega) h2)
    · rename_i e
      refine ⟨Nat.le_refl _, hm, List.pairwise_cons.2 hr, fun b => ?_, fun b h1 h2 => by omega, fun b hb => ?_⟩
      · constructor
        · intro h; have := (hl b h).1; exact ⟨h, by omega⟩
        · exact fun h => h.1
      · rcases List.mem_cons.1 hb with rfl | hb
        · omega
        · have := hr.1 b hb; omega
theorem Gt.Ok.done {g : Gt} (h : g.Ok) (n : Nat) : (g.done n).1.Ok ∧ g.mark ≤ (g.done n).1.mark ∧ (g.done n).2.1 = (g.done n).1.mark - g.mark := by
  unfold Gt.done
  split
  · rename_i hc
    obtain ⟨h1, h2, h3⟩ := hc
    simp only [Gt.has, Bool.and_eq_false_iff, Bool.or_eq_false_iff, decide_eq_false_iff_not, List.contains_eq_mem] at h3
    have hnm : ¬ n ≤ g.mark ∧ n ∉ g.bs := by rcases h3 with h3 | h3; omega; exact ⟨h3.1, by simpa using h3.2⟩
    obtain ⟨a1, a2, a3, a4, a5, a6⟩ := cas_ok (insN_rise h.rise hnm.2) (m := g.mark) (fun b hb => by
      rcases mem_insN.1 hb with rfl | hb
      · omega
      · have := h.lo b hb; omega) h.mark
    refine ⟨⟨a2, a3, fun b hb => ⟨a6 b hb, ?_⟩⟩, a1, rfl⟩
    rcases mem_insN.1 ((a4 b).1 hb).1 with rfl | hb
    · exact h2
    · exact (h.lo b hb).2
  · exact ⟨h, Nat.le_refl _, by simp⟩
end Go.Proofs.YtbiamjgkedmceaaGreatDoor

/- A trace's story at its beginning. -/
import Derived.Test.YtbiamjgkedmceaaGreatDoorSt8
import Derived.Test.YtbiamjgkedmceaaGreatDoorExt3
namespace Go.Proofs.YtbiamjgkedmceaaGreatDoor
open Go.RowKit
set_option linter.unusedVariables false
set_option linter.unusedSimpArgs false

open Go.Maps
set_option maxRecDepth 100000
def TS.start (c : Cfg) (M : Nat) (bs : List Nat) : TS := ⟨M, false, E0 M, ⟨M, bs⟩, [], [], List.replicate c.lanes.toNat ⟨0, [], 0, 0⟩, List.replicate c.shards.toNat [], []⟩
theorem nums_zero : ∀ n, nums (List.replicate n (⟨0, [], 0, 0⟩ : Ln)) = []
  | 0 => rfl
  | n + 1 => by rw [List.replicate_succ, nums_cons]; simp [nums_zero n]
theorem SInv.start {c : Cfg} {rs rs' : List RTx} {M : Nat} {bs : List Nat} (hc : c.ok = true) (hM : M ≤ rs.length) (hG : (⟨M, bs⟩ : Gt).Ok) : SInv c rs rs' M 0 (TS.start c M bs) := by
  have hcl : 1 ≤ c.lanes ∧ c.lanes ≤ 16 ∧ 1 ≤ c.shards ∧ c.shards ≤ 16 := by simp [Cfg.ok, inB] at hc; omega
  have hqc : 0 ≤ c.queue := by simp [Cfg.ok, inB] at hc; omega
  refine ⟨hM, by simp [TS.start, TS.m], by simp [TS.start], fun j hj => ?_, ?_, ?_, by simp [TS.start]; omega, fun h hh => ?_, by simp [TS.start]; omega, fun q hq => ?_, fun t x hx => by simp [TS.start, mget] at hx, hG⟩
  · simp [TS.start, TS.m] at hj; simp [TS.start, E0]; omega
  · simp [TS.start, nums_zero]
  · simp [TS.start, nums_zero]
  · simp only [TS.start] at hh; obtain ⟨-, rfl⟩ := List.mem_replicate.1 hh; simp
  · simp only [TS.start] at hq; obtain ⟨-, rfl⟩ := List.mem_replicate.1 hq; simpa using hqc
theorem rises_nat {n : Int} : ∀ {l : List Int} {than : Int}, 0 ≤ than → risesB n l than = true → ∃ bs : List Nat, l = ints bs ∧ bs.Pairwise (· < ·) ∧ ∀ b ∈ bs, than < (b : Int) ∧ (b : Int) ≤ n
  | [], _, _, _ => ⟨[], rfl, List.Pairwise.nil, by simp⟩
  | x :: r, than, ht, h => by
    simp only [risesB, Bool.and_eq_true, decide_eq_true_eq] at h
    obtain ⟨bs, h1, h2, h3⟩ := rises_nat (by omega) h.2
    refine ⟨x.toNat :: bs, by rw [h1]; simp [ints]; omega, List.pairwise_cons.2 ⟨fun b hb => by have := h3 b hb; omega, h2⟩, fun b hb => ?_⟩
    rcases List.mem_cons.1 hb with rfl | hb
    · omega
    · have := h3 b hb; omega
theorem place_nat {n : Nat} {mark : Int} {by_ : List Int} (h : placeB n mark by_ = true) (hn : n ≤ 65536) : ∃ (M : Nat) (bs : List Nat), mark = M ∧ by_ = ints bs ∧ M ≤ n ∧ (⟨M, bs⟩ : Gt).Ok ∧ ∀ b ∈ by_, (M : Int) + 2 ≤ b := by
  simp only [placeB, Bool.and_eq_true, decide_eq_true_eq] at h
  obtain ⟨bs, h1, h2, h3⟩ := rises_nat (by omega) h.2
  refine ⟨mark.toNat, bs, by omega, h1, by omega, ⟨by simp only; omega, h2, fun b hb => by have := h3 b hb; simp only; omega⟩, fun b hb => ?_⟩
  rw [h1] at hb
  obtain ⟨y, hy, rfl⟩ := List.mem_map.1 (show b ∈ bs.map (fun x : Nat => (x : Int)) from hb)
  have := h3 y hy
  omega
theorem rise_len {N : Nat} : ∀ {bs : List Nat} {a : Nat}, bs.Pairwise (· < ·) → (∀ b ∈ bs, a < b ∧ b ≤ N) → a + bs.length ≤ max a N
  | [], a, _, _ => by simp; omega
  | x :: r, a, h, hb => by
    rw [List.pairwise_cons] at h
    have h1 := hb x (by simp)
    have := rise_len (a := x) h.2 (fun b hb2 => ⟨h.1 b hb2, (hb b (by simp [hb2])).2⟩)
    simp; omega
theorem row_nat {w : World} {B n : Nat} {A : Option Addr} {bs : List Nat} (h : IsAt w B A n (ints bs)) : RowAt (fun (x : Nat) => [Value.int .i64 x]) 1 w B A n bs := by
  refine ⟨by rw [← h.len]; simp [ints], fun hn => ?_⟩
  obtain ⟨b, off, e, hb, hc⟩ := h.2 hn
  exact ⟨b, off, e, hb, fun i x hx j u hu => hc i (x : Int) (by simp [ints, hx]) j u hu⟩
end Go.Proofs.YtbiamjgkedmceaaGreatDoor

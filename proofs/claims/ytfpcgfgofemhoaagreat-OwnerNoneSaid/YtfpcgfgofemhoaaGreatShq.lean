/- A shard in plain words: keys with their versions, by rising keys. Plain theorems. -/
import Derived.Test.YtfpcgfgofemhoaaGreatShp
import Derived.Test.YtfpcgfgofemhoaaGreatSort
namespace Go.Proofs.YtfpcgfgofemhoaaGreat
open Go.RowKit
set_option linter.unusedVariables false
set_option linter.unusedSimpArgs false

/-- Keys with versions. -/
abbrev Hs := List (ByteArray × List Ver)
def hget (L : Hs) (k : ByteArray) : List Ver := (mget L k).getD []
/-- What a shard may hold. -/
structure HsOk (L : Hs) : Prop where
  rises : Rises (L.map (·.1))
  some_ : ∀ p ∈ L, p.2 ≠ []
  chk : ∀ p ∈ L, chkB p.2 = true
  key : ∀ p ∈ L, keyB p.1 = true
theorem HsOk.nodup {L : Hs} (h : HsOk L) : (L.map (·.1)).Nodup := h.rises.nodup
theorem HsOk.nil : HsOk [] := ⟨List.Pairwise.nil, by simp, by simp, by simp⟩
theorem hget_mem {L : Hs} (h : HsOk L) {k : ByteArray} {l : List Ver} (hm : (k, l) ∈ L) : hget L k = l := by
  rw [hget, mget_of_mem h.nodup hm]; rfl
theorem hget_of_ne {L : Hs} {k : ByteArray} (hn : hget L k ≠ []) : (k, hget L k) ∈ L := by
  unfold hget at *
  cases e : mget L k with
  | none => rw [e] at hn; exact absurd rfl hn
  | some l => rw [e] at hn; exact mget_some_mem e
theorem hget_ne {L : Hs} (h : HsOk L) {k : ByteArray} : hget L k ≠ [] ↔ k ∈ L.map (·.1) := by
  constructor
  · intro hn; exact List.mem_map.2 ⟨_, hget_of_ne hn, rfl⟩
  · intro hm
    obtain ⟨p, hp, rfl⟩ := List.mem_map.1 hm
    rw [hget_mem h (l := p.2) hp]; exact h.some_ p hp
theorem hget_chk {L : Hs} (h : HsOk L) (k : ByteArray) : chkB (hget L k) = true := by
  by_cases hn : hget L k = []
  · rw [hn]; rfl
  · exact h.chk _ (hget_of_ne hn)
theorem hs_map {L : Hs} (h : HsOk L) : L = (L.map (·.1)).map fun k => (k, hget L k) := by
  rw [List.map_map]
  conv => lhs; rw [← List.map_id L]
  refine List.map_congr_left fun p hp => ?_
  obtain ⟨k, l⟩ := p
  simp [Function.comp, hget_mem h hp]
theorem hs_ext {L L' : Hs} (h : HsOk L) (h' : HsOk L') (he : ∀ k, hget L k = hget L' k) : L = L' := by
  rw [hs_map h, hs_map h']
  have : L.map (·.1) = L'.map (·.1) := rises_eq h.rises h'.rises fun k => by rw [← hget_ne h, ← hget_ne h', he]
  rw [this]
  exact List.map_congr_left fun k _ => by rw [he]
/-- Of a map's contents: by rising keys. -/
def cont (m : List (ByteArray × List Ver)) : Hs := (sortedK m).map fun k => (k, (mget m k).getD [])
theorem keys_cont (m : List (ByteArray × List Ver)) : (cont m).map (·.1) = sortedK m := by
  rw [cont, List.map_map]
  exact List.map_id _
theorem hget_cont (m : List (ByteArray × List Ver)) (k : ByteArray) : hget (cont m) k = (mget m k).getD [] := by
  unfold hget
  by_cases hk : k ∈ sortedK m
  · have : mget (cont m) k = some ((mget m k).getD []) := by
      unfold cont
      generalize hg : sortedK m = ks at hk
      clear hg
      induction ks with
      | nil => simp at hk
      | cons a r ih =>
        simp only [List.map_cons, mget]
        by_cases ha : a = k
        · subst ha; simp
        · rw [if_neg ha]; exact ih (by rcases List.mem_cons.1 hk with e | e; exact absurd e.symm ha; exact e)
    rw [this]; rfl
  · have h1 : mget (cont m) k = none := (mget_none_iff _ _).2 (by rw [keys_cont]; exact hk)
    have h2 : mget m k = none := (mget_none_iff _ _).2 (by rw [← mem_sortedK]; exact hk)
    rw [h1, h2]
/-- A map's entries, as they must be. -/
structure MOk (m : List (ByteArray × List Ver)) : Prop where
  nodup : (m.map (·.1)).Nodup
  some_ : ∀ p ∈ m, p.2 ≠ []
  chk : ∀ p ∈ m, chkB p.2 = true
  key : ∀ p ∈ m, keyB p.1 = true
theorem cont_ok {m : List (ByteArray × List Ver)} (h : MOk m) : HsOk (cont m) := by
  have hmem : ∀ p ∈ cont m, (p.1, p.2) ∈ m := fun p hp => by
    unfold cont at hp
    obtain ⟨k, hk, rfl⟩ := List.mem_map.1 hp
    rw [mem_sortedK] at hk
    obtain ⟨q, hq, rfl⟩ := List.mem_map.1 hk
    simp only
    rw [mget_of_mem h.nodup (k := q.1) (v := q.2) hq]; exact hq
  exact ⟨by rw [keys_cont]; exact rises_sortedK h.nodup, fun p hp => h.some_ _ (hmem p hp), fun p hp => h.chk _ (hmem p hp), fun p hp => h.key _ (hmem p hp)⟩
theorem mok_put {m : List (ByteArray × List Ver)} (h : MOk m) {k : ByteArray} {l : List Ver} (hk : keyB k = true) (hl : chkB l = true) (hn : l ≠ []) : MOk (mput m k l) := by
  have hmem : ∀ p ∈ mput m k l, p = (k, l) ∨ p ∈ m := fun p hp => by
    clear h
    induction m with
    | nil => simp [mput] at hp; exact .inl hp
    | cons q r ih =>
      obtain ⟨a, u⟩ := q
      simp only [mput] at hp
      split at hp
      · rcases List.mem_cons.1 hp with e | e
        · exact .inl e
        · exact .inr (by simp [e])
      · rcases List.mem_cons.1 hp with e | e
        · exact .inr (by simp [e])
        · exact (ih e).imp id (fun e => by simp [e])
  exact ⟨nodup_mput _ _ h.nodup, fun p hp => (hmem p hp).elim (fun e => e ▸ hn) (h.some_ p), fun p hp => (hmem p hp).elim (fun e => e ▸ hl) (h.chk p), fun p hp => (hmem p hp).elim (fun e => e ▸ hk) (h.key p)⟩
theorem MOk.nil : MOk [] := ⟨List.nodup_nil, by simp, by simp, by simp⟩
/-- A key's versions set. -/
def hput (L : Hs) (k : ByteArray) (l : List Ver) : Hs := cont (mput L k l)
theorem HsOk.mok {L : Hs} (h : HsOk L) : MOk L := ⟨h.nodup, h.some_, h.chk, h.key⟩
theorem hget_hput {L : Hs} {k j : ByteArray} {l : List Ver} : hget (hput L k l) j = if k = j then l else hget L j := by
  rw [hput, hget_cont, mget_mput]; split
  · rfl
  · rfl
theorem hput_ok {L : Hs} (h : HsOk L) {k : ByteArray} {l : List Ver} (hk : keyB k = true) (hl : chkB l = true) (hn : l ≠ []) : HsOk (hput L k l) := cont_ok (mok_put h.mok hk hl hn)
theorem cont_put {m : List (ByteArray × List Ver)} (h : MOk m) {k : ByteArray} {l : List Ver} (hk : keyB k = true) (hl : chkB l = true) (hn : l ≠ []) : cont (mput m k l) = hput (cont m) k l :=
  hs_ext (cont_ok (mok_put h hk hl hn)) (hput_ok (cont_ok h) hk hl hn) fun j => by
    rw [hget_cont, mget_mput, hget_hput, hget_cont]; split <;> rfl
theorem hput_same {L : Hs} (h : HsOk L) {k : ByteArray} (hn : hget L k ≠ []) : hput L k (hget L k) = L :=
  hs_ext (hput_ok h (h.key _ (hget_of_ne hn)) (hget_chk h k) hn) h fun j => by rw [hget_hput]; split; · subst_vars; rfl
                                                                               · rfl
/-- What a shard has of a stretch at a mark. -/
def inS (key end_ k : ByteArray) : Bool := !ltB k key && (decide (end_.size = 0) || ltB k end_)
def scanH (L : Hs) (key end_ : ByteArray) (m : Int) : List (ByteArray × ByteArray) := L.filterMap fun p => if (getV p.2 m).2 && inS key end_ p.1 then some (p.1, (getV p.2 m).1) else none
def collH (L : Hs) (least : Int) : Hs := L.map fun p => (p.1, collV p.2 least)
def goneH (L : Hs) (least : Int) : Nat := (L.map fun p => upto p.2 least - 1).sum
def pickH (f : List Ver → List Ver) (L : Hs) : Hs := (L.map fun p => (p.1, f p.2)).filter fun p => decide (p.2 ≠ [])
def sizeH (L : Hs) : Nat := (L.map fun p => p.2.length).sum
theorem pickH_id {L : Hs} (h : HsOk L) : pickH id L = L := by
  unfold pickH
  rw [List.filter_eq_self.2]
  · simp
  · intro p hp
    obtain ⟨q, hq, rfl⟩ := List.mem_map.1 hp
    simpa using h.some_ q hq
theorem keys_collH (L : Hs) (least : Int) : (collH L least).map (·.1) = L.map (·.1) := by simp [collH]
theorem mget_map {V W : Type} (f : V → W) (L : List (ByteArray × V)) (k : ByteArray) : mget (L.map fun p => (p.1, f p.2)) k = (mget L k).map f := by
  induction L with
  | nil => rfl
  | cons p r ih => obtain ⟨a, v⟩ := p; simp only [List.map_cons, mget]; split <;> simp_all
theorem hget_collH (L : Hs) (least : Int) (k : ByteArray) : hget (collH L least) k = collV (hget L k) least := by
  unfold hget collH
  rw [mget_map (fun l => collV l least)]
  cases mget L k <;> simp [collV]
theorem collH_ok {L : Hs} (h : HsOk L) (least : Int) : HsOk (collH L least) := by
  refine ⟨by rw [keys_collH]; exact h.rises, fun p hp => ?_, fun p hp => ?_, fun p hp => ?_⟩ <;> obtain ⟨q, hq, rfl⟩ := List.mem_map.1 hp
  · exact collV_ne (h.some_ q hq) least
  · exact chkB_sub (h.chk q hq) (collV_sub _ _)
  · exact h.key q hq
theorem pickH_ok {L : Hs} (h : HsOk L) {f : List Ver → List Ver} (hf : ∀ l, (f l).Sublist l) : HsOk (pickH f L) := by
  have hm : ∀ p ∈ pickH f L, ∃ q ∈ L, p = (q.1, f q.2) ∧ f q.2 ≠ [] := fun p hp => by
    obtain ⟨h1, h2⟩ := List.mem_filter.1 hp
    obtain ⟨q, hq, rfl⟩ := List.mem_map.1 h1
    exact ⟨q, hq, rfl, by simpa using h2⟩
  refine ⟨?_, fun p hp => ?_, fun p hp => ?_, fun p hp => ?_⟩
  · have : ((L.map fun p => (p.1, f p.2)).map (·.1)) = L.map (·.1) := by simp
    have h2 : ((pickH f L).map (·.1)).Sublist (L.map (·.1)) := by rw [← this]; exact List.filter_sublist.map _
    exact h.rises.sublist h2
  all_goals obtain ⟨q, hq, rfl, hne⟩ := hm p hp
  · exact hne
  · exact chkB_sub (h.chk q hq) (hf _)
  · exact h.key q hq
theorem hget_pickH {L : Hs} (h : HsOk L) {f : List Ver → List Ver} (hf : ∀ l, (f l).Sublist l) (k : ByteArray) : hget (pickH f L) k = f (hget L k) := by
  have hok := pickH_ok h hf
  by_cases hn : hget (pickH f L) k = []
  · rw [hn]
    refine Classical.byContradiction fun hc => ?_
    have h1 : hget L k ≠ [] := fun e => hc (by rw [e]; exact (List.sublist_nil.1 (hf [])).symm)
    have h2 : (k, f (hget L k)) ∈ pickH f L := List.mem_filter.2 ⟨List.mem_map.2 ⟨_, hget_of_ne h1, rfl⟩, by simpa using fun e => hc e.symm⟩
    rw [hget_mem hok h2] at hn; exact hc hn.symm
  · have := hget_of_ne hn
    obtain ⟨h1, h2⟩ := List.mem_filter.1 this
    obtain ⟨q, hq, e⟩ := List.mem_map.1 h1
    simp only [Prod.mk.injEq] at e
    obtain ⟨rfl, e2⟩ := e
    rw [← e2, hget_mem h (l := q.2) hq]
/-- Two shards that read the same at a mark have the same stretches. -/
theorem mem_scanH {L : Hs} (h : HsOk L) {key end_ : ByteArray} {m : Int} {k v : ByteArray} : (k, v) ∈ scanH L key end_ m ↔ getV (hget L k) m = (v, true) ∧ inS key end_ k = true := by
  unfold scanH
  rw [List.mem_filterMap]
  constructor
  · rintro ⟨p, hp, he⟩
    obtain ⟨k', l⟩ := p
    split at he
    · rename_i hc
      simp only [Option.some.injEq, Prod.mk.injEq] at he
      obtain ⟨rfl, rfl⟩ := he
      rw [hget_mem h hp]
      simp only [Bool.and_eq_true] at hc
      exact ⟨Prod.ext rfl hc.1, hc.2⟩
    · cases he
  · rintro ⟨h1, h2⟩
    have hn : hget L k ≠ [] := fun e => by rw [e] at h1; simp [getV, atV, upto] at h1
    refine ⟨_, hget_of_ne hn, ?_⟩
    simp [h1, h2]
theorem scanH_keys (L : Hs) (key end_ : ByteArray) (m : Int) : ((scanH L key end_ m).map (·.1)).Sublist (L.map (·.1)) := by
  unfold scanH
  induction L with
  | nil => exact List.Sublist.slnil
  | cons p r ih =>
    rw [List.filterMap_cons]
    split
    · exact ih.cons _
    · rename_i b hb
      split at hb
      · simp only [Option.some.injEq] at hb; subst hb; exact ih.cons_cons _
      · cases hb
theorem scanH_rises {L : Hs} (h : HsOk L) (key end_ : ByteArray) (m : Int) : Rises ((scanH L key end_ m).map (·.1)) := h.rises.sublist (scanH_keys L key end_ m)
theorem ents_ext {A B : List (ByteArray × ByteArray)} (hA : Rises (A.map (·.1))) (hB : Rises (B.map (·.1))) (hm : ∀ k v, (k, v) ∈ A ↔ (k, v) ∈ B) : A = B := by
  have p1 : A.Pairwise fun a b => ltB a.1 b.1 = true := List.pairwise_map.1 hA
  have p2 : B.Pairwise fun a b => ltB a.1 b.1 = true := List.pairwise_map.1 hB
  have n1 : A.Nodup := p1.imp fun {a b} h e => by subst e; rw [ltB_irr] at h; cases h
  have n2 : B.Nodup := p2.imp fun {a b} h e => by subst e; rw [ltB_irr] at h; cases h
  exact List.Perm.eq_of_pairwise (le := fun a b => ltB a.1 b.1 = true) (fun a b _ _ h1 h2 => by rw [ltB_asymm h1] at h2; cases h2) p1 p2 ((List.perm_ext_iff_of_nodup n1 n2).2 fun x => hm x.1 x.2)
theorem scanH_ext {L L' : Hs} (h : HsOk L) (h' : HsOk L') {m : Int} (he : ∀ k, getV (hget L k) m = getV (hget L' k) m) (key end_ : ByteArray) : scanH L key end_ m = scanH L' key end_ m :=
  ents_ext (scanH_rises h _ _ _) (scanH_rises h' _ _ _) fun k v => by rw [mem_scanH h, mem_scanH h', he]
theorem sizeH_collH (L : Hs) (least : Int) : sizeH (collH L least) = sizeH L - goneH L least ∧ goneH L least ≤ sizeH L := by
  unfold sizeH collH goneH
  induction L with
  | nil => simp
  | cons p r ih =>
    have := upto_le p.2 least
    simp only [List.map_cons, List.sum_cons, len_collV] at *
    omega
end Go.Proofs.YtfpcgfgofemhoaaGreat

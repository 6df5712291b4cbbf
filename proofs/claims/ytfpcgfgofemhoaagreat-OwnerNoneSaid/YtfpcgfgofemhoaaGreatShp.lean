/- Versions of keys, in plain words: lists of versions by rising numbers, what is read, put, collected and dumped. Plain theorems. -/
import Derived.Test.YtfpcgfgofemhoaaGreatMap
namespace Go.Proofs.YtfpcgfgofemhoaaGreat
open Go.RowKit
set_option linter.unusedVariables false
set_option linter.unusedSimpArgs false

structure Ver where
  num : Int
  val : ByteArray
  drop : Bool
def Ver.cells (x : Ver) : List Value := [.int .i64 x.num, .string x.val, .bool x.drop]
def Ver.v (x : Ver) : Value := .agg #[.int .i64 x.num, .string x.val, .bool x.drop]
def verB (x : Ver) : Bool := decide (1 ≤ x.num) && decide (x.num ≤ 65536) && valB x.val && (!x.drop || decide (x.val.size = 0))
theorem len_ver (xs : List Ver) : ∀ x ∈ xs, (Ver.cells x).length = 3 := fun _ _ => rfl
def Asc (l : List Ver) : Prop := l.Pairwise fun a b => a.num < b.num
instance (l : List Ver) : Decidable (Asc l) := by unfold Asc; infer_instance
/-- May versions be? -/
def chkB (l : List Ver) : Bool := l.all verB && decide (Asc l)
theorem chkB_iff {l : List Ver} : chkB l = true ↔ (∀ x ∈ l, verB x = true) ∧ Asc l := by simp [chkB]
theorem chkB_sub {l l' : List Ver} (h : chkB l = true) (hs : l'.Sublist l) : chkB l' = true := by
  rw [chkB_iff] at *
  exact ⟨fun x hx => h.1 x (hs.subset hx), h.2.sublist hs⟩
theorem asc_mono {l : List Ver} (h : Asc l) {i j : Nat} {x y : Ver} (hi : l[i]? = some x) (hj : l[j]? = some y) (hij : i < j) : x.num < y.num := by
  obtain ⟨h1, rfl⟩ := List.getElem?_eq_some_iff.1 hi
  obtain ⟨h2, rfl⟩ := List.getElem?_eq_some_iff.1 hj
  exact List.pairwise_iff_getElem.1 h i j h1 h2 hij
theorem asc_inj {l : List Ver} (h : Asc l) {x y : Ver} (hx : x ∈ l) (hy : y ∈ l) (e : x.num = y.num) : x = y := by
  obtain ⟨i, hi⟩ := List.getElem?_of_mem hx
  obtain ⟨j, hj⟩ := List.getElem?_of_mem hy
  rcases Nat.lt_trichotomy i j with h1 | h1 | h1
  · have := asc_mono h hi hj h1; omega
  · subst h1; rw [hi] at hj; injection hj
  · have := asc_mono h hj hi h1; omega
theorem chkB_step {l : List Ver} {k : Nat} {x : Ver} (hx : l[k]? = some x) : chkB (l.take (k + 1)) = (chkB (l.take k) && (verB x && (decide (k = 0) || match l[k-1]? with | some y => decide (y.num < x.num) | none => true))) := by
  rw [Bool.eq_iff_iff, Bool.and_eq_true, Bool.and_eq_true, chkB_iff, chkB_iff]
  have ht : l.take (k + 1) = l.take k ++ [x] := by rw [List.take_add_one, hx]; rfl
  have hk : k < l.length := (List.getElem?_eq_some_iff.1 hx).1
  rw [ht]
  simp only [Asc, List.pairwise_append, List.mem_append, List.mem_singleton]
  constructor
  · rintro ⟨h1, h2, -, h3⟩
    refine ⟨⟨fun y hy => h1 y (.inl hy), h2⟩, h1 x (.inr rfl), ?_⟩
    rcases Nat.eq_zero_or_pos k with h0 | h0
    · simp [h0]
    · have hy : l[k-1]? = some (l[k-1]'(by omega)) := List.getElem?_eq_getElem _
      rw [hy]
      simp only [Bool.or_eq_true, decide_eq_true_eq]
      refine .inr (h3 _ ?_ x rfl)
      refine List.mem_of_getElem? (i := k - 1) ?_
      rw [List.getElem?_take_of_lt (by omega)]; exact hy
  · rintro ⟨⟨h1, h2⟩, h3, h4⟩
    refine ⟨fun y hy => hy.elim (h1 y) (fun e => e ▸ h3), h2, List.pairwise_singleton _ _, fun y hy z hz => ?_⟩
    subst hz
    obtain ⟨i, hi⟩ := List.getElem?_of_mem hy
    have hik : i < k := by have := (List.getElem?_eq_some_iff.1 hi).1; simp at this; omega
    have hp : l[k-1]? = some (l[k-1]'(by omega)) := List.getElem?_eq_getElem _
    rw [hp] at h4
    simp only [Bool.or_eq_true, decide_eq_true_eq] at h4
    rcases h4 with h4 | h4
    · omega
    · have hp' : (l.take k)[k-1]? = some (l[k-1]'(by omega)) := by rw [List.getElem?_take_of_lt (by omega)]; exact hp
      rcases Nat.lt_or_ge i (k - 1) with h5 | h5
      · have := asc_mono h2 hi hp' h5; omega
      · have : i = k - 1 := by omega
        subst this
        rw [hi] at hp'; injection hp' with e; rw [e]; exact h4
theorem chkB_take {l : List Ver} (k : Nat) (h : chkB l = true) : chkB (l.take k) = true := chkB_sub h (List.take_sublist _ _)
theorem chkB_drop {l : List Ver} (k : Nat) (h : chkB l = true) : chkB (l.drop k) = true := chkB_sub h (List.drop_sublist _ _)
theorem asc_len : ∀ {l : List Ver} {lo hi : Int}, Asc l → (∀ x ∈ l, lo ≤ x.num ∧ x.num < hi) → lo ≤ hi → (l.length : Int) ≤ hi - lo
  | [], _, _, _, _, h => by simp; omega
  | x :: r, lo, hi, ha, hb, h => by
    have h1 := hb x (by simp)
    have ha' := List.pairwise_cons.1 ha
    have := asc_len (l := r) (lo := x.num + 1) (hi := hi) ha'.2 (fun y hy => ⟨by have := ha'.1 y hy; omega, (hb y (by simp [hy])).2⟩) (by omega)
    simp only [List.length_cons]; omega
theorem verB_num {x : Ver} (h : verB x = true) : 1 ≤ x.num ∧ x.num ≤ 65536 := by simp only [verB] at h; grind
theorem verB_val {x : Ver} (h : verB x = true) : x.val.size ≤ 1024 := by simp only [verB, valB] at h; grind
theorem verB_drop {x : Ver} (h : verB x = true) (hd : x.drop = true) : x.val = ByteArray.empty := by
  have : x.val.size = 0 := by simp only [verB] at h; grind
  exact ByteArray.size_eq_zero_iff.1 this
theorem chkB_len {l : List Ver} (h : chkB l = true) : l.length ≤ 65536 := by
  rw [chkB_iff] at h
  have := asc_len (lo := 1) (hi := 65537) h.2 (fun x hx => by have := verB_num (h.1 x hx); omega) (by omega)
  omega

/-- How many are at or below a mark. -/
def upto (l : List Ver) (a : Int) : Nat := l.countP fun v => decide (v.num ≤ a)
theorem upto_le (l : List Ver) (a : Int) : upto l a ≤ l.length := List.countP_le_length
theorem asc_cut : ∀ {l : List Ver} (a : Int), Asc l → l.take (upto l a) = l.filter (fun v => decide (v.num ≤ a)) ∧ l.drop (upto l a) = l.filter (fun v => decide (a < v.num))
  | [], _, _ => by simp [upto]
  | x :: r, a, h => by
    have h' := List.pairwise_cons.1 h
    obtain ⟨h1, h2⟩ := asc_cut a h'.2
    by_cases hx : x.num ≤ a
    · have e : upto (x :: r) a = upto r a + 1 := by simp [upto, List.countP_cons, hx]
      rw [e, List.take_succ_cons, List.drop_succ_cons, h1, h2]
      simp [hx, Int.not_lt.2 hx]
    · have e : upto (x :: r) a = 0 := by
        unfold upto
        rw [List.countP_eq_zero]
        intro y hy
        rcases List.mem_cons.1 hy with rfl | hy
        · simpa using hx
        · have := h'.1 y hy; simp; omega
      rw [e]
      have n1 : ∀ y ∈ x :: r, ¬ (decide (y.num ≤ a) = true) := List.countP_eq_zero.1 e
      refine ⟨?_, ?_⟩
      · rw [List.take_zero, eq_comm, List.filter_eq_nil_iff]; exact n1
      · rw [List.drop_zero, eq_comm, List.filter_eq_self]
        intro y hy; have := n1 y hy; simp at this ⊢; omega
theorem upto_low {l : List Ver} {a : Int} (h : Asc l) {i : Nat} {x : Ver} (hx : l[i]? = some x) : i < upto l a ↔ x.num ≤ a := by
  obtain ⟨h1, h2⟩ := asc_cut a h
  constructor
  · intro hi
    have : x ∈ l.take (upto l a) := List.mem_of_getElem? (i := i) (by rw [List.getElem?_take_of_lt hi]; exact hx)
    rw [h1] at this; simpa using (List.mem_filter.1 this).2
  · intro hle
    refine Classical.byContradiction fun hc => ?_
    have : x ∈ l.drop (upto l a) := List.mem_of_getElem? (i := i - upto l a) (by rw [List.getElem?_drop, show upto l a + (i - upto l a) = i from by omega]; exact hx)
    rw [h2] at this
    have := (List.mem_filter.1 this).2
    simp at this; omega
/-- The newest one at a mark. -/
def atV (l : List Ver) (m : Int) : Option Ver := if upto l m = 0 then none else l[upto l m - 1]?
theorem atV_some {l : List Ver} (h : Asc l) {m : Int} {x : Ver} : atV l m = some x ↔ x ∈ l ∧ x.num ≤ m ∧ ∀ y ∈ l, y.num ≤ m → y.num ≤ x.num := by
  unfold atV
  constructor
  · intro he
    split at he
    · cases he
    · rename_i h0
      refine ⟨List.mem_of_getElem? he, (upto_low (a := m) h he).1 (by omega), fun y hy hm => ?_⟩
      obtain ⟨j, hj⟩ := List.getElem?_of_mem hy
      have := (upto_low h hj).2 hm
      rcases Nat.lt_or_ge j (upto l m - 1) with h1 | h1
      · have := asc_mono h hj he h1; omega
      · have : j = upto l m - 1 := by omega
        subst this; rw [he] at hj; injection hj with e; rw [e]; omega
  · rintro ⟨hx, hm, hmax⟩
    obtain ⟨i, hi⟩ := List.getElem?_of_mem hx
    have h1 := (upto_low h hi).2 hm
    rw [if_neg (by omega)]
    have hlt : upto l m - 1 < l.length := by have := upto_le l m; omega
    have hy : l[upto l m - 1]? = some (l[upto l m - 1]) := List.getElem?_eq_getElem hlt
    have hym := (upto_low (a := m) h hy).1 (by omega)
    have := hmax _ (List.mem_of_getElem? hy) hym
    rcases Nat.lt_or_ge i (upto l m - 1) with h2 | h2
    · have := asc_mono h hi hy h2; omega
    · have : i = upto l m - 1 := by omega
      rw [← this]; exact hi
theorem atV_none {l : List Ver} {m : Int} : atV l m = none ↔ ∀ y ∈ l, m < y.num := by
  unfold atV
  constructor
  · intro he
    split at he
    · rename_i h0
      intro y hy
      have := List.countP_eq_zero.1 h0 y hy
      simpa using this
    · rename_i h0
      have := upto_le l m
      rw [List.getElem?_eq_none_iff] at he; omega
  · intro h
    rw [if_pos]
    exact List.countP_eq_zero.2 fun y hy => by have := h y hy; simp; omega
theorem atV_mem {l : List Ver} {m : Int} {x : Ver} (h : atV l m = some x) : x ∈ l := by
  unfold atV at h; split at h
  · cases h
  · exact List.mem_of_getElem? h
/-- What a key reads as. -/
def getV (l : List Ver) (m : Int) : ByteArray × Bool := match atV l m with | some v => (v.val, !v.drop) | none => (ByteArray.empty, false)
/-- With one more. -/
def putV (l : List Ver) (x : Ver) : List Ver := l.take (upto l x.num) ++ x :: l.drop (upto l x.num)
def hasV (l : List Ver) (n : Int) : Bool := l.any fun y => decide (y.num = n)
theorem hasV_iff {l : List Ver} {n : Int} : hasV l n = true ↔ ∃ y ∈ l, y.num = n := by simp [hasV]
theorem hasV_at {l : List Ver} (h : Asc l) (n : Int) : hasV l n = match atV l n with | some y => decide (y.num = n) | none => false := by
  rw [Bool.eq_iff_iff, hasV_iff]
  constructor
  · rintro ⟨y, hy, rfl⟩
    have : atV l y.num = some y := (atV_some h).2 ⟨hy, by omega, fun z _ hz => hz⟩
    rw [this]; simp
  · intro he
    cases ha : atV l n with
    | none => rw [ha] at he; cases he
    | some y => rw [ha] at he; exact ⟨y, atV_mem ha, by simpa using he⟩
theorem mem_putV {l : List Ver} {x y : Ver} : y ∈ putV l x ↔ y = x ∨ y ∈ l := by
  have : y ∈ l ↔ y ∈ l.take (upto l x.num) ∨ y ∈ l.drop (upto l x.num) := by rw [← List.mem_append, List.take_append_drop]
  rw [putV, this]; simp only [List.mem_append, List.mem_cons]; grind
theorem len_putV (l : List Ver) (x : Ver) : (putV l x).length = l.length + 1 := by
  have := upto_le l x.num
  simp [putV]; omega
theorem asc_putV {l : List Ver} (h : Asc l) {x : Ver} (hn : hasV l x.num = false) : Asc (putV l x) := by
  obtain ⟨h1, h2⟩ := asc_cut x.num h
  have hn' : ∀ y ∈ l, y.num ≠ x.num := fun y hy e => by
    have := hasV_iff.2 ⟨y, hy, e⟩; rw [hn] at this; cases this
  unfold putV Asc
  rw [h1, h2, List.pairwise_append]
  refine ⟨h.sublist List.filter_sublist, List.pairwise_cons.2 ⟨fun y hy => by simpa using (List.mem_filter.1 hy).2, h.sublist List.filter_sublist⟩, fun y hy z hz => ?_⟩
  have hy' := List.mem_filter.1 hy
  have := hn' y hy'.1
  have h3 : y.num ≤ x.num := by simpa using hy'.2
  rcases List.mem_cons.1 hz with rfl | hz
  · omega
  · have := (List.mem_filter.1 hz).2; simp at this; omega
theorem chkB_putV {l : List Ver} (h : chkB l = true) {x : Ver} (hx : verB x = true) (hn : hasV l x.num = false) : chkB (putV l x) = true := by
  rw [chkB_iff] at *
  exact ⟨fun y hy => (mem_putV.1 hy).elim (fun e => e ▸ hx) (h.1 y), asc_putV h.2 hn⟩
theorem asc_ext {l l' : List Ver} (h : Asc l) (h' : Asc l') (hm : ∀ x, x ∈ l ↔ x ∈ l') : l = l' := by
  have n1 : l.Nodup := h.imp fun {a b} hab e => by subst e; omega
  have n2 : l'.Nodup := h'.imp fun {a b} hab e => by subst e; omega
  exact List.Perm.eq_of_pairwise (le := fun a b : Ver => a.num < b.num) (fun a b _ _ h1 h2 => by omega) h h' ((List.perm_ext_iff_of_nodup n1 n2).2 hm)
/-- Without what newer ones hide at a mark. -/
def collV (l : List Ver) (least : Int) : List Ver := l.drop (upto l least - 1)
theorem collV_sub (l : List Ver) (least : Int) : (collV l least).Sublist l := List.drop_sublist _ _
theorem len_collV (l : List Ver) (least : Int) : (collV l least).length = l.length - (upto l least - 1) := by simp [collV]
theorem collV_ne {l : List Ver} (h : l ≠ []) (least : Int) : collV l least ≠ [] := by
  have h1 := upto_le l least
  have h2 := List.length_pos_iff.2 h
  intro e
  have := congrArg List.length e
  simp [collV] at this; omega
theorem atV_collV {l : List Ver} (h : Asc l) {least m : Int} (hm : least ≤ m) : atV (collV l least) m = atV l m := by
  have ha : Asc (collV l least) := h.sublist (collV_sub _ _)
  cases e : atV l m with
  | none => exact atV_none.2 fun y hy => atV_none.1 e y ((collV_sub _ _).subset hy)
  | some x =>
    obtain ⟨h1, h2, h3⟩ := (atV_some h).1 e
    refine (atV_some ha).2 ⟨?_, h2, fun y hy => h3 y ((collV_sub _ _).subset hy)⟩
    obtain ⟨i, hi⟩ := List.getElem?_of_mem h1
    have hi' : upto l least - 1 ≤ i := by
      rcases Nat.lt_or_ge i (upto l least - 1) with h4 | h4
      · have hlt : upto l least - 1 < l.length := by have := upto_le l least; omega
        have hy : l[upto l least - 1]? = some (l[upto l least - 1]) := List.getElem?_eq_getElem hlt
        have := (upto_low h (a := least) hy).1 (by omega)
        have h5 := h3 _ (List.mem_of_getElem? hy) (by omega)
        have := asc_mono h hi hy h4; omega
      · exact h4
    refine List.mem_of_getElem? (i := i - (upto l least - 1)) ?_
    rw [collV, List.getElem?_drop, show upto l least - 1 + (i - (upto l least - 1)) = i from by omega]; exact hi
theorem low_collV {l : List Ver} (h : Asc l) (least : Int) : upto (collV l least) least ≤ 1 := by
  have : upto l least = upto (l.take (upto l least - 1)) least + upto (collV l least) least := by
    have := List.countP_append (p := fun v : Ver => decide (v.num ≤ least)) (l₁ := l.take (upto l least - 1)) (l₂ := l.drop (upto l least - 1))
    rw [List.take_append_drop] at this
    exact this
  have h2 : upto (l.take (upto l least - 1)) least = upto l least - 1 := by
    have h3 : (l.take (upto l least - 1)).length = upto l least - 1 := by have := upto_le l least; simp; omega
    have : (l.take (upto l least - 1)).countP (fun v : Ver => decide (v.num ≤ least)) = (l.take (upto l least - 1)).length := by
      rw [List.countP_eq_length]
      intro y hy
      obtain ⟨i, hi⟩ := List.getElem?_of_mem hy
      have hi' : i < upto l least - 1 := by have := (List.getElem?_eq_some_iff.1 hi).1; omega
      rw [List.getElem?_take_of_lt hi'] at hi
      simpa using (upto_low h (a := least) hi).1 (by omega)
    unfold upto at this h3 ⊢
    omega
  omega
/-- What a checkpoint keeps of a key. -/
def dumpV (l : List Ver) (mark : Int) (beyond : List Int) : List Ver :=
  (match atV l mark with | some v => if v.drop then [] else [v] | none => []) ++ (l.drop (upto l mark)).filter fun v => beyond.contains v.num
theorem mem_dumpV {l : List Ver} {mark : Int} {beyond : List Int} {x : Ver} (h : Asc l) : x ∈ dumpV l mark beyond ↔ (atV l mark = some x ∧ x.drop = false) ∨ (x ∈ l ∧ mark < x.num ∧ x.num ∈ beyond) := by
  unfold dumpV
  rw [(asc_cut mark h).2, List.mem_append, List.mem_filter, List.mem_filter]
  refine or_congr ?_ ?_
  · cases atV l mark with
    | none => simp
    | some v => cases hd : v.drop <;> simp [hd] <;> grind
  · simp; grind
theorem dumpV_sub {l : List Ver} {mark : Int} {beyond : List Int} : (dumpV l mark beyond).Sublist l := by
  unfold dumpV
  have h2 : ((l.drop (upto l mark)).filter fun v => beyond.contains v.num).Sublist (l.drop (upto l mark)) := List.filter_sublist
  have h1 : (match atV l mark with | some v => if v.drop then [] else [v] | none => []).Sublist (l.take (upto l mark)) := by
    cases e : atV l mark with
    | none => exact List.nil_sublist _
    | some v =>
      simp only
      split
      · exact List.nil_sublist _
      · unfold atV at e
        split at e
        · cases e
        · rename_i h0
          refine List.singleton_sublist.2 (List.mem_of_getElem? (i := upto l mark - 1) ?_)
          rw [List.getElem?_take_of_lt (by omega)]; exact e
  have := h1.append h2
  rwa [List.take_append_drop] at this
theorem getV_dumpV {l : List Ver} (h : chkB l = true) {mark m : Int} {beyond : List Int} (hm : mark ≤ m) (hb : ∀ x ∈ l, mark < x.num → x.num ∈ beyond) : getV (dumpV l mark beyond) m = getV l m := by
  have ha := (chkB_iff.1 h).2
  have hd : Asc (dumpV l mark beyond) := ha.sublist dumpV_sub
  have hsub : ∀ {y}, y ∈ dumpV l mark beyond → y ∈ l := fun hy => dumpV_sub.subset hy
  unfold getV
  cases e : atV l m with
  | none => rw [atV_none.2 fun y hy => atV_none.1 e y (hsub hy)]
  | some x =>
    obtain ⟨h1, h2, h3⟩ := (atV_some ha).1 e
    by_cases hx : mark < x.num
    · have : atV (dumpV l mark beyond) m = some x := (atV_some hd).2 ⟨(mem_dumpV ha).2 (.inr ⟨h1, hx, hb x h1 hx⟩), h2, fun y hy => h3 y (hsub hy)⟩
      rw [this]
    · have hat : atV l mark = some x := (atV_some ha).2 ⟨h1, by omega, fun y hy hy2 => h3 y hy (by omega)⟩
      cases hdr : x.drop with
      | false =>
        have : atV (dumpV l mark beyond) m = some x := (atV_some hd).2 ⟨(mem_dumpV ha).2 (.inl ⟨hat, hdr⟩), h2, fun y hy => h3 y (hsub hy)⟩
        rw [this]
      | true =>
        have : atV (dumpV l mark beyond) m = none := atV_none.2 fun y hy => by
          rcases (mem_dumpV ha).1 hy with ⟨h4, h5⟩ | ⟨h4, h5, h6⟩
          · rw [hat] at h4; injection h4 with h4; subst h4; rw [hdr] at h5; cases h5
          · refine Classical.byContradiction fun hc => ?_
            have := h3 y h4 (by omega); omega
        rw [this]
        have := verB_drop ((chkB_iff.1 h).1 x h1) hdr
        simp [hdr, this]
end Go.Proofs.YtfpcgfgofemhoaaGreat

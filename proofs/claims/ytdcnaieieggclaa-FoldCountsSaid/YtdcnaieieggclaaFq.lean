/- Plain laws of folds: what one more transaction changes, stretches, last writers, the writes that count. -/
import Derived.Test.YtdcnaieieggclaaFp
import Derived.Test.YtdcnaieieggclaaFlp
namespace Go.Proofs.Ytdcnaieieggclaa
open Go.RowKit
set_option linter.unusedVariables false
set_option linter.unusedSimpArgs false

theorem risesE_eq {st st' : List Ent} (h : RisesE st) (h' : RisesE st') (hm : ∀ e, e ∈ st ↔ e ∈ st') : st = st' :=
  List.Perm.eq_of_pairwise (le := fun a b : Ent => ltB a.key b.key = true) (fun a b _ _ h1 h2 => by rw [ltB_asymm h1] at h2; cases h2) h h'
    ((List.perm_ext_iff_of_nodup (List.Pairwise.imp (fun {a b} hab e => ltB_ne hab (congrArg Ent.key e)) h) (List.Pairwise.imp (fun {a b} hab e => ltB_ne hab (congrArg Ent.key e)) h')).2 hm)
theorem foldM_nodup (rs : List RTx) (n : Nat) : ((foldM rs n).map (·.1)).Nodup := (agree_fold rs n).2.1
theorem mem_fold (rs : List RTx) (n : Nat) (e : Ent) : e ∈ foldE rs n ↔ mget (foldM rs n) e.key = some e.val := (agree_fold rs n).2.2 e
theorem mget_fold_succ {rs : List RTx} {n : Nat} {r : RTx} (h : rs[n]? = some r) (k : ByteArray) :
    mget (foldM rs (n + 1)) k = match lastW r.ws k with | none => mget (foldM rs n) k | some x => if x.drop then none else some x.val := by
  rw [foldM_succ h]; exact mget_playM (foldM_nodup rs n) _ _
theorem foldE_ext {rs rs' : List RTx} {n n' : Nat} (h : ∀ k, mget (foldM rs' n') k = mget (foldM rs n) k) : foldE rs' n' = foldE rs n :=
  risesE_eq (agree_fold rs' n').1 (agree_fold rs n).1 fun e => by rw [mem_fold, mem_fold, h]
/-! ### one more -/
theorem step_x {rs : List RTx} {n : Nat} {r : RTx} (h : rs[n]? = some r) {e : Ent} (he : e ∈ foldE rs (n + 1)) :
    (lastW r.ws e.key = none → mget (foldM rs n) e.key = some e.val) ∧ (∀ x, lastW r.ws e.key = some x → x.drop = false ∧ x.val = e.val) := by
  have h1 := (mem_fold _ _ _).1 he
  rw [mget_fold_succ h] at h1
  refine ⟨fun hl => by rw [hl] at h1; exact h1, fun x hl => ?_⟩
  rw [hl] at h1
  simp only at h1
  split at h1
  · cases h1
  · injection h1 with h1; rename_i hd; exact ⟨by simpa using hd, h1⟩
theorem step_y {rs : List RTx} {n : Nat} {r : RTx} (h : rs[n]? = some r) {e : Ent} (he : e ∈ foldE rs n) :
    (lastW r.ws e.key = none → mget (foldM rs (n + 1)) e.key = some e.val) ∧ (∀ x, lastW r.ws e.key = some x → (mget (foldM rs (n + 1)) e.key).isSome = !x.drop) := by
  have h1 := (mem_fold _ _ _).1 he
  rw [mget_fold_succ h]
  refine ⟨fun hl => by rw [hl]; exact h1, fun x hl => ?_⟩
  rw [hl]
  cases hd : x.drop <;> simp [hd]
/-! ### stretches -/
theorem ltB_nil {k fin : ByteArray} (h : fin.size = 0) : ltB k fin = false := by
  have : kL fin = [] := List.eq_nil_of_length_eq_zero (by unfold kL; rw [Array.length_toList]; exact h)
  unfold ltB; rw [this, decide_eq_false_iff_not]; exact List.not_lt_nil _
theorem inB_all {key fin : ByteArray} (h : key.size = 0) (h' : fin.size = 0) (k : ByteArray) : inB key fin k = true := by simp [inB, ltB_nil h, h']
theorem low_high {st : List Ent} (h : RisesE st) (k : ByteArray) : st.filter (fun e => ltB e.key k) ++ st.filter (fun e => !ltB e.key k) = st := by
  induction st with
  | nil => rfl
  | cons x r ih =>
    obtain ⟨h1, h2⟩ := List.pairwise_cons.1 h
    cases hx : ltB x.key k
    · have hr : ∀ y ∈ x :: r, ltB y.key k = false := fun y hy => by
        rcases List.mem_cons.1 hy with rfl | hy
        · exact hx
        · cases hc : ltB y.key k
          · rfl
          · rw [ltB_trans (h1 y hy) hc] at hx; cases hx
      rw [List.filter_eq_nil_iff.2 (fun y hy => by rw [hr y hy]; simp), List.filter_eq_self.2 (fun y hy => by rw [hr y hy]; rfl)]; rfl
    · rw [List.filter_cons_of_pos (by simpa using hx), List.filter_cons_of_neg (by simp [hx]), List.cons_append, ih h2]
theorem cut_all {rs : List RTx} {n : Nat} {key fin : ByteArray} (h : key.size = 0) (h' : fin.size = 0) : (foldE rs n).filter (fun e => inB key fin e.key) = foldE rs n :=
  List.filter_eq_self.2 fun e _ => inB_all h h' _
theorem cut_both {rs : List RTx} {n : Nat} {key z : ByteArray} (hz : z.size = 0) (hk : key.size ≠ 0) :
    (foldE rs n).filter (fun e => inB z key e.key) ++ (foldE rs n).filter (fun e => inB key z e.key) = foldE rs n := by
  have h1 : ∀ k, inB z key k = ltB k key := fun k => by simp [inB, ltB_nil hz, hk]
  have h2 : ∀ k, inB key z k = !ltB k key := fun k => by simp [inB, hz]
  simp only [h1, h2]
  exact low_high (agree_fold rs n).1 key
theorem cut_part {rs : List RTx} {n : Nat} {key fin z : ByteArray} (hz : z.size = 0) :
    (foldE rs n).filter (fun e => inB key fin e.key) = ((foldE rs n).filter (fun e => inB key z e.key)).filter (fun e => decide (fin.size = 0) || ltB e.key fin) := by
  rw [List.filter_filter]
  refine List.filter_congr fun e _ => ?_
  simp only [inB, hz, decide_true, Bool.true_or, Bool.and_true]
  exact Bool.and_comm _ _
/-! ### last writers -/
def lastN (rs : List RTx) (k : ByteArray) : Nat → Nat
  | 0 => 0
  | n + 1 => if hasKey (wsOf rs n) k = true then n + 1 else lastN rs k n
theorem lastN_le (rs : List RTx) (k : ByteArray) : ∀ n, lastN rs k n ≤ n
  | 0 => Nat.le_refl _
  | n + 1 => by rw [lastN]; have := lastN_le rs k n; split <;> omega
theorem lastN_has (rs : List RTx) (k : ByteArray) : ∀ n, 0 < lastN rs k n → hasKey (wsOf rs (lastN rs k n - 1)) k = true
  | 0, h => by simp [lastN] at h
  | n + 1, h => by
    rw [lastN] at h ⊢
    split
    · assumption
    · rename_i hc; rw [if_neg hc] at h; exact lastN_has rs k n h
theorem lastN_gap (rs : List RTx) (k : ByteArray) : ∀ n q, lastN rs k n ≤ q → q < n → hasKey (wsOf rs q) k = false
  | 0, q, _, h => by omega
  | n + 1, q, h, h' => by
    rw [lastN] at h
    split at h
    · omega
    · rename_i hc
      by_cases hq : q = n
      · subst hq; simpa using hc
      · exact lastN_gap rs k n q h (by omega)
theorem lastW_cons (x : Wr) (r : List Wr) (k : ByteArray) : lastW (x :: r) k = match lastW r k with | some y => some y | none => if x.key = k then some x else none := by
  unfold lastW
  rw [List.reverse_cons, List.find?_append]
  cases (r.reverse.find? fun x => decide (x.key = k)) with
  | some y => rfl
  | none => simp [List.find?_cons]; split <;> simp_all
theorem lastW_some {ws : List Wr} {k : ByteArray} {x : Wr} (h : lastW ws k = some x) : x ∈ ws ∧ x.key = k := by
  unfold lastW at h
  exact ⟨List.mem_reverse.1 (List.mem_of_find?_eq_some h), by simpa using List.find?_some h⟩
theorem lastW_has (ws : List Wr) (k : ByteArray) : (lastW ws k).isSome = hasKey ws k := by
  rw [Bool.eq_iff_iff, hasKey_iff, Option.isSome_iff_exists]
  constructor
  · rintro ⟨x, hx⟩; exact ⟨x, lastW_some hx⟩
  · rintro ⟨x, hx, rfl⟩
    cases hl : lastW ws x.key with
    | some y => exact ⟨y, rfl⟩
    | none =>
      unfold lastW at hl
      have := List.find?_eq_none.1 hl x (List.mem_reverse.2 hx)
      simp at this
def lastWr (rs : List RTx) (k : ByteArray) (n : Nat) : Option Wr := if lastN rs k n = 0 then none else lastW (wsOf rs (lastN rs k n - 1)) k
theorem mget_last (rs : List RTx) (k : ByteArray) : ∀ n, n ≤ rs.length → mget (foldM rs n) k = (lastWr rs k n).bind fun x => if x.drop then none else some x.val
  | 0, _ => by simp [foldM, allW, playM, mget, lastWr, lastN]
  | n + 1, h => by
    have hx : rs[n]? = some (rs[n]'(by omega)) := List.getElem?_eq_getElem _
    rw [mget_fold_succ hx]
    have h1 : wsOf rs n = (rs[n]'(by omega)).ws := wsOf_get hx
    cases hl : lastW (rs[n]'(by omega)).ws k with
    | none =>
      have hk : hasKey (wsOf rs n) k = false := by rw [h1, ← lastW_has, hl]; rfl
      have h2 : lastN rs k (n + 1) = lastN rs k n := by rw [lastN, if_neg (by rw [hk]; simp)]
      simp only
      rw [mget_last rs k n (by omega)]
      unfold lastWr; rw [h2]
    | some x =>
      have hk : hasKey (wsOf rs n) k = true := by rw [h1, ← lastW_has, hl]; rfl
      have h2 : lastN rs k (n + 1) = n + 1 := by rw [lastN, if_pos hk]
      unfold lastWr
      rw [h2, if_neg (by omega), Nat.add_sub_cancel, h1, hl]; rfl
theorem mem_allW {rs : List RTx} {n : Nat} {x : Wr} (h : x ∈ allW rs n) : ∃ r ∈ rs, x ∈ r.ws := by
  unfold allW at h
  obtain ⟨r, hr, hx⟩ := List.mem_flatMap.1 h
  exact ⟨r, List.mem_of_mem_take hr, hx⟩
theorem fold_written {rs : List RTx} {n : Nat} {k : ByteArray} {v : ByteArray} (h : mget (foldM rs n) k = some v) : ∃ r ∈ rs, ∃ x ∈ r.ws, x.key = k := by
  unfold foldM at h
  rw [mget_playM (m := []) (by simp)] at h
  cases hl : lastW (allW rs n) k with
  | none => rw [hl] at h; simp [mget] at h
  | some x =>
    obtain ⟨h1, h2⟩ := lastW_some hl
    obtain ⟨r, hr, hx⟩ := mem_allW h1
    exact ⟨r, hr, x, hx, h2⟩
theorem found_all {rs : List RTx} {n : Nat} {seen : List ByteArray} (hn : seen.Nodup) (hm : ∀ r ∈ rs, ∀ x ∈ r.ws, x.key ∈ seen) :
    (seen.filter fun k => (mget (foldM rs n) k).isSome).length = (foldE rs n).length := by
  have hp : (seen.filter fun k => (mget (foldM rs n) k).isSome).Perm ((foldE rs n).map (·.key)) := by
    refine (List.perm_ext_iff_of_nodup (hn.filter _) (agree_fold rs n).1.keys.nodup).2 fun k => ?_
    rw [List.mem_filter, List.mem_map]
    constructor
    · rintro ⟨-, h⟩
      obtain ⟨v, hv⟩ := Option.isSome_iff_exists.1 h
      exact ⟨⟨k, v⟩, (mem_fold _ _ _).2 hv, rfl⟩
    · rintro ⟨e, he, rfl⟩
      have h1 := (mem_fold _ _ _).1 he
      obtain ⟨r, hr, x, hx, e2⟩ := fold_written h1
      exact ⟨e2 ▸ hm r hr x hx, by rw [h1]; rfl⟩
  rw [hp.length_eq, List.length_map]
/-! ### the writes that count -/
/-- Those of the first k that no later one of all writes again. -/
def cntU (ws : List Wr) : Nat → List Wr
  | 0 => []
  | k + 1 => match ws[k]? with
    | none => cntU ws k
    | some x => if (ws.drop (k + 1)).any (keyIs x.key) = true then cntU ws k else cntU ws k ++ [x]
theorem cntU_cons (x : Wr) (r : List Wr) : ∀ k, cntU (x :: r) (k + 1) = (if r.any (keyIs x.key) = true then [] else [x]) ++ cntU r k
  | 0 => by simp [cntU]
  | k + 1 => by
    rw [cntU, cntU_cons x r k]
    simp only [List.getElem?_cons_succ, List.drop_succ_cons]
    rw [cntU]
    cases hk : r[k]? with
    | none => simp
    | some y =>
      simp only
      split <;> simp
theorem cntU_len (ws : List Wr) : ∀ k, (cntU ws k).length ≤ k
  | 0 => by simp [cntU]
  | k + 1 => by
    rw [cntU]
    have := cntU_len ws k
    cases ws[k]? with
    | none => simp only; omega
    | some x => simp only; split <;> simp <;> omega
theorem cntU_sub (ws : List Wr) : ∀ k, ∀ x ∈ cntU ws k, x ∈ ws
  | 0, x, h => by simp [cntU] at h
  | k + 1, x, h => by
    rw [cntU] at h
    cases hk : ws[k]? with
    | none => rw [hk] at h; exact cntU_sub ws k x h
    | some y =>
      rw [hk] at h
      simp only at h
      split at h
      · exact cntU_sub ws k x h
      · rcases List.mem_append.1 h with h | h
        · exact cntU_sub ws k x h
        · simp at h; subst h; exact List.mem_of_getElem? hk
abbrev cnt (ws : List Wr) : List Wr := cntU ws ws.length
theorem lastW_cnt (ws : List Wr) (k : ByteArray) : lastW (cnt ws) k = lastW ws k := by
  induction ws with
  | nil => rfl
  | cons x r ih =>
    have h1 : cnt (x :: r) = (if r.any (keyIs x.key) = true then [] else [x]) ++ cnt r := by
      unfold cnt; rw [List.length_cons, cntU_cons]
    rw [h1, lastW_cons]
    by_cases hc : r.any (keyIs x.key) = true
    · rw [if_pos hc, List.nil_append, ih]
      by_cases hk : x.key = k
      · have : (lastW r k).isSome = true := by rw [lastW_has, ← hk]; exact hc
        obtain ⟨y, hy⟩ := Option.isSome_iff_exists.1 this
        rw [hy]
      · rw [if_neg hk]; cases lastW r k <;> rfl
    · rw [if_neg hc, List.singleton_append, lastW_cons, ih]
theorem hasKey_cnt (ws : List Wr) (k : ByteArray) : hasKey (cnt ws) k = hasKey ws k := by rw [← lastW_has, lastW_cnt, lastW_has]
theorem neigh_cnt (us vs : List Wr) : neighB (cnt us) (cnt vs) = neighB us vs := by
  rw [Bool.eq_iff_iff, neigh_iff, neigh_iff]
  have h : ∀ (ws : List Wr) (k : ByteArray), (∃ x ∈ cnt ws, x.key = k) ↔ ∃ x ∈ ws, x.key = k := fun ws k => by rw [← hasKey_iff, hasKey_cnt, hasKey_iff]
  constructor
  · rintro ⟨x, hx, y, hy, e⟩
    obtain ⟨x', hx', e'⟩ := (h us x.key).1 ⟨x, hx, rfl⟩
    obtain ⟨y', hy', e''⟩ := (h vs y.key).1 ⟨y, hy, rfl⟩
    exact ⟨x', hx', y', hy', by rw [e'', e, e']⟩
  · rintro ⟨x, hx, y, hy, e⟩
    obtain ⟨x', hx', e'⟩ := (h us x.key).2 ⟨x, hx, rfl⟩
    obtain ⟨y', hy', e''⟩ := (h vs y.key).2 ⟨y, hy, rfl⟩
    exact ⟨x', hx', y', hy', by rw [e'', e, e']⟩
/-- rs' is rs, of each just the writes that count. -/
def CutTo (rs rs' : List RTx) : Prop := rs'.map (fun r => (r.number, r.ws)) = rs.map (fun r => (r.number, cnt r.ws))
theorem CutTo.len {rs rs' : List RTx} (h : CutTo rs rs') : rs'.length = rs.length := by simpa using congrArg List.length h
theorem CutTo.at_ {rs rs' : List RTx} (h : CutTo rs rs') {i : Nat} {r : RTx} (hr : rs'[i]? = some r) : ∃ q, rs[i]? = some q ∧ r.number = q.number ∧ r.ws = cnt q.ws := by
  have h1 := congrArg (fun l => l[i]?) h
  simp only [List.getElem?_map, hr, Option.map_some] at h1
  cases hq : rs[i]? with
  | none => rw [hq] at h1; cases h1
  | some q => rw [hq] at h1; simp only [Option.map_some, Option.some.injEq, Prod.mk.injEq] at h1; exact ⟨q, rfl, h1.1, h1.2⟩
theorem logErr_of : ∀ {rs : List RTx} {m : Int}, (∀ (k : Nat) (r : RTx), rs[k]? = some r → txB r.number r.ws = true ∧ r.number = m + k) → logErr rs m = 0
  | [], _, _ => rfl
  | r :: rest, m, h => by
    obtain ⟨h1, h2⟩ := h 0 r rfl
    simp only [logErr]
    rw [if_pos h1, if_pos (by simpa using h2)]
    exact logErr_of fun k x hx => by
      obtain ⟨h3, h4⟩ := h (k + 1) x (by simpa using hx)
      exact ⟨h3, by rw [h4]; omega⟩
theorem txB_cnt {n : Int} {ws : List Wr} (h : txB n ws = true) : txB n (cnt ws) = true := by
  simp only [txB, Bool.and_eq_true, decide_eq_true_eq, List.all_eq_true] at h ⊢
  exact ⟨⟨h.1.1, Nat.le_trans (cntU_len _ _) h.1.2⟩, fun x hx => h.2 x (cntU_sub _ _ x hx)⟩
theorem CutTo.err {rs rs' : List RTx} (h : CutTo rs rs') (he : logErr rs 1 = 0) : logErr rs' 1 = 0 := logErr_of fun k r hr => by
  obtain ⟨q, hq, h1, h2⟩ := h.at_ hr
  have := logErr_ok he hq
  rw [h1, h2]
  exact ⟨txB_cnt this.1, this.2⟩
theorem CutTo.mget {rs rs' : List RTx} (h : CutTo rs rs') : ∀ n, n ≤ rs.length → ∀ k, mget (foldM rs' n) k = mget (foldM rs n) k
  | 0, _, k => rfl
  | n + 1, hn, k => by
    have hx : rs'[n]? = some (rs'[n]'(by have := h.len; omega)) := List.getElem?_eq_getElem _
    obtain ⟨q, hq, h1, h2⟩ := h.at_ hx
    rw [mget_fold_succ hx, mget_fold_succ hq, h2, lastW_cnt, CutTo.mget h n (by omega)]
theorem CutTo.fold {rs rs' : List RTx} (h : CutTo rs rs') {n : Nat} (hn : n ≤ rs.length) : foldE rs' n = foldE rs n := foldE_ext (h.mget n hn)
theorem CutTo.ws {rs rs' : List RTx} (h : CutTo rs rs') (p : Nat) : wsOf rs' p = cnt (wsOf rs p) := by
  cases hp : rs'[p]? with
  | none =>
    have : rs[p]? = none := by rw [List.getElem?_eq_none_iff] at hp ⊢; rw [← h.len]; exact hp
    simp [wsOf, hp, this, cnt, cntU]
  | some r =>
    obtain ⟨q, hq, h1, h2⟩ := h.at_ hp
    rw [wsOf_get hp, wsOf_get hq, h2]
theorem CutTo.reach {rs rs' : List RTx} (h : CutTo rs rs') (a : Nat) : ∀ t, reachL rs' a t = reachL rs a t
  | 0 => rfl
  | t + 1 => by
    have hp : ∀ q p, pairB rs' q p = pairB rs q p := fun q p => by unfold pairB; rw [h.ws, h.ws, neigh_cnt]
    rw [reachL, reachL, CutTo.reach h a t]
    simp only [hp]
end Go.Proofs.Ytdcnaieieggclaa

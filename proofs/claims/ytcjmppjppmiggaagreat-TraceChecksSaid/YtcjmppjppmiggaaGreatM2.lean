/- Lemmas and contracts of functions that statements of this seat stand on, many texts in one; each holds under the premises typed in its head. -/
import Derived.Test.YtcjmppjppmiggaaGreatM1
import Derived.Laws.BitsAllLaws
import Derived.Test.YtcjmppjppmiggaaGreatDq
import Derived.Test.YtcjmppjppmiggaaGreatCf
import Derived.Test.YtcjmppjppmiggaaGreatEv
/- The gate in plain words: a mark, and those beyond it, rising; as bits. Plain theorems. -/
namespace Go.Proofs.YtcjmppjppmiggaaGreat
open Go.RowKit
set_option linter.unusedVariables false
set_option linter.unusedSimpArgs false

structure BitsOf (W : List Nat) (S : Nat → Bool) : Prop where
  len : W.length = 1025
  bits : ∀ (i : Nat) (x : Nat), W[i]? = some x → x < 18446744073709551616 ∧ ∀ j, j < 64 → x.testBit j = S (64 * i + j)
theorem BitsOf.at_ {W : List Nat} {S : Nat → Bool} (h : BitsOf W S) {n : Nat} (hn : n ≤ 65599) : ∃ x, W[n / 64]? = some x ∧ x < 18446744073709551616 ∧ x.testBit (n % 64) = S n := by
  have hi : n / 64 < W.length := by rw [h.len]; omega
  obtain ⟨h1, h2⟩ := h.bits (n / 64) W[n / 64] (List.getElem?_eq_getElem hi)
  refine ⟨_, List.getElem?_eq_getElem hi, h1, ?_⟩
  rw [h2 _ (Nat.mod_lt _ (by omega))]
  congr 1
  omega
theorem BitsOf.zero : BitsOf (List.replicate 1025 0) (fun _ => false) := by
  refine ⟨List.length_replicate, fun i x hx => ?_⟩
  rw [List.getElem?_replicate] at hx
  split at hx
  · injection hx with hx; subst hx; exact ⟨by omega, by simp⟩
  · cases hx
theorem BitsOf.put {W : List Nat} {S T : Nat → Bool} {n x y : Nat} (h : BitsOf W S) (hn : n ≤ 65599) (hx : W[n / 64]? = some x) (hy : y < 18446744073709551616) (hb : ∀ j, j < 64 → y.testBit j = if j = n % 64 then T n else x.testBit j) (hT : ∀ k, k ≠ n → T k = S k) : BitsOf (W.set (n / 64) y) T := by
  refine ⟨by rw [List.length_set]; exact h.len, fun i z hz => ?_⟩
  by_cases hi : i = n / 64
  · subst hi
    have hl : n / 64 < W.length := by rw [h.len]; omega
    rw [List.getElem?_set_self hl] at hz
    injection hz with hz; subst hz
    refine ⟨hy, fun j hj => ?_⟩
    rw [hb j hj]
    by_cases hjn : j = n % 64
    · rw [if_pos hjn]; congr 1; omega
    · rw [if_neg hjn, (h.bits _ _ hx).2 j hj, hT _ (by omega)]
  · rw [List.getElem?_set_ne (fun e => hi e.symm)] at hz
    obtain ⟨h1, h2⟩ := h.bits i z hz
    exact ⟨h1, fun j hj => by rw [h2 j hj, hT _ (by omega)]⟩
theorem bit_or {x j : Nat} (hx : x < 18446744073709551616) (hj : j < 64) : (x ||| 2 ^ j) < 18446744073709551616 ∧ ∀ i, i < 64 → (x ||| 2 ^ j).testBit i = if i = j then true else x.testBit i := by
  refine ⟨Nat.or_lt_two_pow (n := 64) hx (Nat.pow_lt_pow_right (by omega) hj), fun i hi => ?_⟩
  rw [Nat.testBit_or, Nat.testBit_two_pow]
  by_cases h : i = j
  · subst h; simp
  · rw [if_neg h, decide_eq_false (fun e => h e.symm), Bool.or_false]
theorem bit_off {x j : Nat} (hx : x < 18446744073709551616) (hj : j < 64) : (x &&& (18446744073709551615 - 2 ^ j)) < 18446744073709551616 ∧ ∀ i, i < 64 → (x &&& (18446744073709551615 - 2 ^ j)).testBit i = if i = j then false else x.testBit i := by
  refine ⟨Nat.lt_of_le_of_lt Nat.and_le_left hx, fun i hi => ?_⟩
  have hp : 2 ^ j < 2 ^ 64 := Nat.pow_lt_pow_right (by omega) hj
  rw [Nat.testBit_and, show 18446744073709551615 - 2 ^ j = 2 ^ 64 - (2 ^ j + 1) by omega, Nat.testBit_two_pow_sub_succ hp, Nat.testBit_two_pow]
  by_cases h : i = j
  · subst h; simp
  · rw [if_neg h, decide_eq_false (p := j = i) (fun e => h e.symm)]; simp [hi]
theorem bit_is (x j : Nat) : x / 2 ^ j &&& 1 = if x.testBit j = true then 1 else 0 := by
  rw [Nat.and_one_is_mod, Nat.testBit_eq_decide_div_mod_eq]
  have := Nat.mod_two_eq_zero_or_one (x / 2 ^ j)
  rcases this with h | h <;> simp [h]
structure Gt where
  mark : Nat
  bs : List Nat
def cas : List Nat → Nat → Nat × List Nat
  | [], m => (m, [])
  | b :: r, m => if b = m + 1 then cas r (m + 1) else (m, b :: r)
def insN (n : Nat) : List Nat → List Nat
  | [] => [n]
  | b :: r => if n < b then n :: b :: r else b :: insN n r
def Gt.has (g : Gt) (n : Nat) : Bool := decide (1 ≤ n) && (decide (n ≤ g.mark) || g.bs.contains n)
def Gt.done (g : Gt) (n : Nat) : Gt × Nat × Int :=
  if 1 ≤ n ∧ n ≤ 65536 ∧ g.has n = false then (⟨(cas (insN n g.bs) g.mark).1, (cas (insN n g.bs) g.mark).2⟩, (cas (insN n g.bs) g.mark).1 - g.mark, 0) else (g, 0, 1)
structure Gt.Ok (g : Gt) : Prop where
  mark : g.mark ≤ 65536
  rise : g.bs.Pairwise (· < ·)
  lo : ∀ b ∈ g.bs, g.mark + 2 ≤ b ∧ b ≤ 65536
theorem mem_insN {n b : Nat} {l : List Nat} : b ∈ insN n l ↔ b = n ∨ b ∈ l := by
  induction l with
  | nil => simp [insN]
  | cons c r ih =>
    simp only [insN]
    split
    · simp
    · simp only [List.mem_cons, ih]
      constructor
      · rintro (h | h | h) <;> simp [h]
      · rintro (h | h | h) <;> simp [h]
theorem insN_rise {n : Nat} {l : List Nat} (h : l.Pairwise (· < ·)) (hn : n ∉ l) : (insN n l).Pairwise (· < ·) := by
  induction l with
  | nil => simp [insN]
  | cons c r ih =>
    simp only [List.mem_cons, not_or] at hn
    rw [List.pairwise_cons] at h
    simp only [insN]
    split
    · rename_i hc
      refine List.pairwise_cons.2 ⟨fun x hx => ?_, List.pairwise_cons.2 h⟩
      rcases List.mem_cons.1 hx with rfl | hx
      · exact hc
      · have := h.1 x hx; omega
    · refine List.pairwise_cons.2 ⟨fun x hx => ?_, ih h.2 hn.2⟩
      rcases mem_insN.1 hx with rfl | hx
      · omega
      · exact h.1 x hx
theorem cas_ok {l : List Nat} {m : Nat} (hr : l.Pairwise (· < ·)) (hl : ∀ b ∈ l, m + 1 ≤ b ∧ b ≤ 65536) (hm : m ≤ 65536) :
    m ≤ (cas l m).1 ∧ (cas l m).1 ≤ 65536 ∧ (cas l m).2.Pairwise (· < ·) ∧ (∀ b, b ∈ (cas l m).2 ↔ b ∈ l ∧ (cas l m).1 < b) ∧ (∀ b, m < b → b ≤ (cas l m).1 → b ∈ l) ∧ (∀ b ∈ (cas l m).2, (cas l m).1 + 2 ≤ b) := by
  induction l generalizing m with
  | nil => simp [cas]; omega
  | cons c r ih =>
    rw [List.pairwise_cons] at hr
    have hc := hl c (by simp)
    simp only [cas]
    split
    · rename_i e
      subst e
      obtain ⟨a1, a2, a3, a4, a5, a6⟩ := ih (m := m + 1) hr.2 (fun b hb => ⟨by have := hr.1 b hb; omega, (hl b (by simp [hb])).2⟩) (by omega)
      refine ⟨by omega, a2, a3, fun b => ?_, fun b h1 h2 => ?_, a6⟩
      · rw [a4 b]
        constructor
        · exact fun h => ⟨by simp [h.1], h.2⟩
        · rintro ⟨h1, h2⟩
          rcases List.mem_cons.1 h1 with rfl | h1
          · omega
          · exact ⟨h1, h2⟩
      · by_cases hb : b = m + 1
        · simp [hb]
        · exact List.mem_cons_of_mem _ (a5 b (by omega) h2)
    · rename_i e
      refine ⟨Nat.le_refl _, hm, List.pairwise_cons.2 hr, fun b => ?_, fun b h1 h2 => by omega, fun b hb => ?_⟩
      · constructor
        · intro h; have := (hl b h).1; exact ⟨h, by omega⟩
        · exact fun h => h.1
      · rcases List.mem_cons.1 hb with rfl | hb
        · omega
        · have := hr.1 b hb; omega
theorem Gt.Ok.done {g : Gt} (h : g.Ok) (n : Nat) : (g.done n).1.Ok ∧ g.mark ≤ (g.done n).1.mark ∧ (g.done n).2.1 = (g.done n).1.mark - g.mark := by
  unfold Gt.done
  split
  · rename_i hc
    obtain ⟨h1, h2, h3⟩ := hc
    simp only [Gt.has, Bool.and_eq_false_iff, Bool.or_eq_false_iff, decide_eq_false_iff_not, List.contains_eq_mem] at h3
    have hnm : ¬ n ≤ g.mark ∧ n ∉ g.bs := by rcases h3 with h3 | h3; omega; exact ⟨h3.1, by simpa using h3.2⟩
    obtain ⟨a1, a2, a3, a4, a5, a6⟩ := cas_ok (insN_rise h.rise hnm.2) (m := g.mark) (fun b hb => by
      rcases mem_insN.1 hb with rfl | hb
      · omega
      · have := h.lo b hb; omega) h.mark
    refine ⟨⟨a2, a3, fun b hb => ⟨a6 b hb, ?_⟩⟩, a1, rfl⟩
    rcases mem_insN.1 ((a4 b).1 hb).1 with rfl | hb
    · exact h2
    · exact (h.lo b hb).2
  · exact ⟨h, Nat.le_refl _, by simp⟩
end Go.Proofs.YtcjmppjppmiggaaGreat

/- A trace's story in plain words: what each task does next. -/
namespace Go.Proofs.YtcjmppjppmiggaaGreat
open Go.RowKit
set_option linter.unusedVariables false
set_option linter.unusedSimpArgs false

instance : DecidableEq Ev := fun a b => decidable_of_iff (a.task = b.task ∧ a.kind = b.kind ∧ a.number = b.number ∧ a.shard = b.shard ∧ a.count = b.count ∧ a.mark = b.mark) (by cases a; cases b; simp)
def cntW : List Wr → List Wr
  | [] => []
  | x :: r => if hasKey r x.key = true then cntW r else x :: cntW r
def hashB (l : List UInt8) : Nat := l.foldl (fun h b => (h ^^^ b.toNat) * 16777619 % 4294967296) 2166136261
def shd (c : Cfg) (k : ByteArray) : Nat := hashB k.data.toList % c.shards.toNat
structure Ln where
  num : Nat
  ws : List Wr
  sent : Nat
  ack : Nat
structure TS where
  at_ : Nat
  holds : Bool
  E : Nat → Bool
  G : Gt
  line : List Nat
  gone : List Nat
  lanes : List Ln
  qs : List (List (Int × Int))
  calls : List (Int × (Int × Bool))
def TS.m (s : TS) : Nat := if s.holds then s.at_ - 1 else s.at_
abbrev TrA := Int × Ev × Bool
def ev0 : Ev := ⟨0, 0, 0, 0, 0, 0⟩
def freeL (rs : List RTx) (m : Nat) (E : Nat → Bool) (n : Nat) : List Nat := (List.range (m + 1)).filter fun a => decide (1 ≤ a) && !E a && decide (depL rs E a = [n])
section
variable (c : Cfg) (rs rs' : List RTx) (by_ : List Int)
def TS.feed (s : TS) : TrA × TS :=
  if s.holds = false then
    if rs.length ≤ s.at_ then ((0, ev0, false), s)
    else ((1, ⟨0, 0, s.at_ + 1, 0, 0, 0⟩, true), { s with at_ := s.at_ + 1, holds := true })
  else if by_.contains (s.at_ : Int) = true then ((2, ⟨0, 0, s.at_, 0, 0, 0⟩, true), { s with holds := false, E := E1 s.E s.at_ })
  else if c.window < (s.at_ : Int) - s.G.mark then ((0, ev0, false), s)
  else ((3, ⟨0, 0, s.at_, 0, (depL rs' s.E s.at_).length, 0⟩, true), { s with holds := false, line := if (depL rs' s.E s.at_).length = 0 then s.line ++ [s.at_] else s.line })
def TS.lane (i : Nat) (s : TS) : TrA × TS :=
  match s.lanes[i]? with
  | none => ((0, ev0, false), s)
  | some h =>
    if h.num = 0 then
      match s.line with
      | [] => ((0, ev0, false), s)
      | n :: r => ((4, ⟨0, 0, n, 0, 0, 0⟩, true), { s with line := r, lanes := s.lanes.set i ⟨n, cntW (wsOf rs (n - 1)), 0, 0⟩ })
    else match h.ws[h.sent]? with
      | some x =>
        if ((s.qs[shd c x.key]?).getD []).length = c.queue.toNat then ((0, ev0, false), s)
        else ((5, ⟨0, 0, h.num, shd c x.key, 0, 0⟩, true), { s with qs := s.qs.modify (shd c x.key) (· ++ [((i : Int) + 1, (h.num : Int))]), lanes := s.lanes.set i { h with sent := h.sent + 1 } })
      | none =>
        if h.ack < h.ws.length then ((0, ev0, false), s)
        else ((6, ⟨0, 0, h.num, 0, 0, 0⟩, true), { s with gone := s.gone ++ [h.num], lanes := s.lanes.set i { h with num := 0 } })
def TS.owner (k : Nat) (s : TS) : TrA × TS :=
  match s.qs[k]? with
  | none => ((0, ev0, false), s)
  | some [] => ((0, ev0, false), s)
  | some (a :: r) =>
    ((7, ⟨0, 0, a.2, k, 0, 0⟩, true), if 0 < a.1 then { s with qs := s.qs.set k r, lanes := s.lanes.modify (a.1 - 1).toNat fun h => { h with ack := h.ack + 1 } }
      else { s with qs := s.qs.set k r, calls := match mget s.calls a.1 with | some x => mput s.calls a.1 (x.1 - 1, x.2) | none => s.calls })
def TS.gates (s : TS) : TrA × TS :=
  match s.gone with
  | [] => ((0, ev0, false), s)
  | n :: r => ((8, ⟨0, 0, n, 0, (s.G.done n).2.1, 0⟩, true), { s with gone := r, line := s.line ++ freeL rs' s.m s.E n, E := E1 s.E n, G := (s.G.done n).1 })
def TS.call (e : Ev) (s : TS) : TrA × TS :=
  match mget s.calls e.task with
  | none => ((9, ⟨0, 0, e.task, 0, 0, 0⟩, true), { s with calls := mput s.calls e.task (0, false) })
  | some x =>
    if x.2 = true then ((0, ⟨0, 0, e.task, 0, 0, 0⟩, false), s)
    else if e.kind = 10 then
      if e.shard < 0 ∨ c.shards ≤ e.shard ∨ ((s.qs[e.shard.toNat]?).getD []).length = c.queue.toNat then ((0, ⟨0, 0, e.task, 0, 0, 0⟩, false), s)
      else ((10, ⟨0, 0, e.task, e.shard, 0, 0⟩, true), { s with qs := s.qs.modify e.shard.toNat (· ++ [(e.task, e.task)]), calls := mput s.calls e.task (x.1 + 1, x.2) })
    else if e.kind = 11 then ((11, ⟨0, 0, e.task, 0, e.count, 0⟩, decide (0 ≤ e.count) && decide (x.1 = 0)), s)
    else if e.kind = 12 then ((12, ⟨0, 0, e.task, 0, 0, 0⟩, decide (x.1 = 0)), { s with calls := mput s.calls e.task (x.1, true) })
    else ((0, ⟨0, 0, e.task, 0, 0, 0⟩, false), s)
def TS.step (e : Ev) (s : TS) : TrA × TS :=
  if e.task < 0 then s.call c e
  else if e.task = 0 then s.feed c rs rs' by_
  else if e.task ≤ c.lanes then s.lane c rs (e.task - 1).toNat
  else if e.task ≤ c.lanes + c.shards then s.owner (e.task - c.lanes - 1).toNat
  else if e.task = c.lanes + c.shards + 1 then s.gates rs'
  else ((0, ev0, false), s)
def TS.fits (e : Ev) (s : TS) : Bool × TS :=
  let r := s.step c rs rs' by_ e
  (r.1.2.2 && decide (e = ⟨e.task, r.1.1, r.1.2.1.number, r.1.2.1.shard, r.1.2.1.count, r.2.G.mark⟩), r.2)
def tale : List Ev → TS → Nat
  | [], _ => 0
  | e :: r, s => if (s.fits c rs rs' by_ e).1 = true then tale r (s.fits c rs rs' by_ e).2 + 1 else 0
end
end Go.Proofs.YtcjmppjppmiggaaGreat

/- deps where some numbers are never added: they have no writes and have ended. -/

namespace Go.Proofs.YtcjmppjppmiggaaGreat
open Go.RowKit
set_option linter.unusedVariables false
set_option linter.unusedSimpArgs false

theorem TInv.skip {rs : List RTx} {m : Nat} {E : Nat → Bool} {d : DT} (h : TInv rs m E d) (hw : wsOf rs m = []) : TInv rs (m + 1) (E1 E (m + 1)) { d with top := (m : Int) + 1 } := by
  have hnd : ∀ b, ¬ dep rs (m + 1) b := fun b hb => by
    obtain ⟨-, x, hx, -⟩ := hb
    rw [Nat.add_sub_cancel, hw] at hx; cases hx
  have hE : ∀ j, j ≠ m + 1 → E1 E (m + 1) j = E j := fun j hj => by simp [E1, hj]
  have hEm : E1 E (m + 1) (m + 1) = true := by simp [E1]
  have hdl : ∀ a, a ≤ m → depL rs (E1 E (m + 1)) a = depL rs E a := fun a ha => by
    rw [depL_E1]
    refine List.filter_eq_self.2 fun b hb => ?_
    have := (dep_lt (mem_depL.1 hb).1).2
    simp; omega
  refine ⟨by simp, fun k => ?_, h.lastb, fun z => ?_, fun k => ?_, fun a ha1 ha2 hea b hb => ?_, fun j hj => ?_, h.no, h.nw⟩
  · simp only
    rw [lastN, hw, h.last, if_neg (by simp [hasKey])]
  · simp only
    rw [h.opn]
    by_cases hz : 1 ≤ z ∧ z ≤ m ∧ E z.toNat = false
    · rw [if_pos hz, if_pos ⟨hz.1, by have := hz.2.1; simp; omega, by rw [hE _ (by omega)]; exact hz.2.2⟩, hdl _ (by omega)]
    · rw [if_neg hz, if_neg]
      rintro ⟨h1, h2, h3⟩
      by_cases e : z.toNat = m + 1
      · rw [e, hEm] at h3; cases h3
      · rw [hE _ e] at h3
        exact hz ⟨h1, by simp at h2; omega, h3⟩
  · simp only
    rw [h.wts]
    by_cases hk : 1 ≤ k.1.1 ∧ k.1.1 ≤ m ∧ 1 ≤ k.2.1 ∧ depB rs k.1.1.toNat k.2.1.toNat = true ∧ E k.2.1.toNat = false
    · have := (dep_lt (depB_iff.1 hk.2.2.2.1)).2
      rw [if_pos hk, if_pos ⟨hk.1, by have := hk.2.1; simp; omega, hk.2.2.1, hk.2.2.2.1, by rw [hE _ (by omega)]; exact hk.2.2.2.2⟩]
    · rw [if_neg hk, if_neg]
      rintro ⟨h1, h2, h3, h4, h5⟩
      have h6 := depB_iff.1 h4
      by_cases e : k.1.1.toNat = m + 1
      · rw [e] at h6; exact hnd _ h6
      · have := (dep_lt h6).2
        rw [hE _ (by simp at h2; omega)] at h5
        exact hk ⟨h1, by simp at h2; omega, h3, h4, h5⟩
  · by_cases ham : a = m + 1
    · subst ham; exact absurd hb (hnd b)
    · have hba := (dep_lt hb).2
      rw [hE _ ham] at hea
      rw [hE _ (by omega)]
      exact h.closed a ha1 (by omega) hea b hb
  · rw [hE _ (by omega)]; exact h.fut j (by omega)
def TIG (rs : List RTx) (m : Nat) (E : Nat → Bool) (d : DT) : Prop := TInv rs m E { d with top := m } ∧ d.top ≤ m
def E0 (M : Nat) (j : Nat) : Bool := decide (1 ≤ j) && decide (j ≤ M)
theorem E0_succ (M : Nat) : E1 (E0 M) (M + 1) = E0 (M + 1) := by
  funext j
  simp only [E1, E0]
  by_cases h : j = M + 1
  · subst h; simp
  · have : decide (j ≤ M + 1) = decide (j ≤ M) := by simp; omega
    simp [h, this]
theorem TIG.start (rs : List RTx) : ∀ M, (∀ i, i < M → wsOf rs i = []) → TIG rs M (E0 M) ⟨[], [], [], 0⟩
  | 0, _ => ⟨TInv.start rs (E0 0) (fun j => by simp [E0]; omega), by simp⟩
  | M + 1, h => by
    obtain ⟨h1, -⟩ := TIG.start rs M (fun i hi => h i (by omega))
    have h2 := h1.skip (h M (by omega))
    rw [E0_succ] at h2
    exact ⟨by simpa using h2, by simp; omega⟩
section
variable {rs : List RTx} {m : Nat} {E : Nat → Bool} {d : DT}
theorem TIG.skip (h : TIG rs m E d) (hw : wsOf rs m = []) : TIG rs (m + 1) (E1 E (m + 1)) d := by
  have h2 := h.1.skip hw
  exact ⟨by simpa using h2, by have := h.2; simp; omega⟩
theorem TIG.add (h : TIG rs m E d) (hm : m + 1 ≤ 65536) {r : RTx} (hr : rs[m]? = some r) :
    TIG rs (m + 1) E ⟨putL d.last ((m : Int) + 1) r.ws r.ws.length, mput d.opn ((m : Int) + 1) (addWs d ((m : Int) + 1) r.ws r.ws.length).2, (addWs d ((m : Int) + 1) r.ws r.ws.length).1, (m : Int) + 1⟩ ∧ (addWs d ((m : Int) + 1) r.ws r.ws.length).2 = (depL rs E (m + 1)).length := by
  obtain ⟨h1, h2⟩ := h.1.add hm hr
  have e : addWs { d with top := (m : Int) } ((m : Int) + 1) r.ws r.ws.length = addWs d ((m : Int) + 1) r.ws r.ws.length := rfl
  rw [e] at h1 h2
  exact ⟨⟨by simpa using h1, by simp⟩, h2⟩
end
def maskL (M : Nat) (by_ : List Int) (rs : List RTx) : List RTx := rs.mapIdx fun i r => if i + 1 ≤ M ∨ by_.contains ((i : Int) + 1) = true then { r with ws := [] } else r
theorem maskL_get (M : Nat) (by_ : List Int) (rs : List RTx) (i : Nat) : (maskL M by_ rs)[i]? = (rs[i]?).map fun r => if i + 1 ≤ M ∨ by_.contains ((i : Int) + 1) = true then { r with ws := [] } else r := by
  unfold maskL; rw [List.getElem?_mapIdx]
theorem maskL_ws {M : Nat} {by_ : List Int} {rs : List RTx} {i : Nat} (h : i + 1 ≤ M ∨ by_.contains ((i : Int) + 1) = true) : wsOf (maskL M by_ rs) i = [] := by
  unfold wsOf; rw [maskL_get]
  cases rs[i]? with
  | none => rfl
  | some r => simp only [Option.map_some, if_pos h, Option.getD_some]
theorem maskL_at {M : Nat} {by_ : List Int} {rs : List RTx} {i : Nat} {r : RTx} (h : ¬ (i + 1 ≤ M ∨ by_.contains ((i : Int) + 1) = true)) (hr : rs[i]? = some r) : (maskL M by_ rs)[i]? = some r := by
  rw [maskL_get, hr, Option.map_some, if_neg h]
end Go.Proofs.YtcjmppjppmiggaaGreat

/- A trace's story: what holds of it at any time, and stays so. -/

namespace Go.Proofs.YtcjmppjppmiggaaGreat
open Go.RowKit
set_option linter.unusedVariables false
set_option linter.unusedSimpArgs false

def nums (l : List Ln) : List Nat := (l.map Ln.num).filter fun n => decide (n ≠ 0)
theorem nums_cons (h : Ln) (l : List Ln) : nums (h :: l) = if h.num = 0 then nums l else h.num :: nums l := by
  unfold nums; rw [List.map_cons, List.filter_cons]; simp only [decide_eq_true_eq, ne_eq]
  by_cases hz : h.num = 0
  · simp [hz]
  · simp [hz]
theorem nums_take {h : Ln} {n : Nat} (h' : Ln) (hn : h'.num = n) (h0 : n ≠ 0) : ∀ {l : List Ln} {i : Nat}, l[i]? = some h → h.num = 0 → (nums (l.set i h')).Perm (n :: nums l)
  | [], i, hi, _ => by simp at hi
  | x :: l, 0, hi, hz => by
    simp at hi; subst hi
    rw [List.set_cons_zero, nums_cons, nums_cons, if_pos hz, if_neg (by rw [hn]; exact h0), hn]
  | x :: l, i + 1, hi, hz => by
    have ih := nums_take h' hn h0 (l := l) (i := i) (by simpa using hi) hz
    rw [List.set_cons_succ, nums_cons, nums_cons]
    by_cases hx : x.num = 0
    · rw [if_pos hx, if_pos hx]; exact ih
    · rw [if_neg hx, if_neg hx]
      exact (ih.cons _).trans (List.Perm.swap _ _ _)
theorem nums_done {h : Ln} (h' : Ln) (hn : h'.num = 0) : ∀ {l : List Ln} {i : Nat}, l[i]? = some h → h.num ≠ 0 → (nums l).Perm (h.num :: nums (l.set i h'))
  | [], i, hi, _ => by simp at hi
  | x :: l, 0, hi, hz => by
    simp at hi; subst hi
    rw [List.set_cons_zero, nums_cons, nums_cons, if_neg hz, if_pos hn]
  | x :: l, i + 1, hi, hz => by
    have ih := nums_done h' hn (l := l) (i := i) (by simpa using hi) hz
    rw [List.set_cons_succ, nums_cons, nums_cons]
    by_cases hx : x.num = 0
    · rw [if_pos hx, if_pos hx]; exact ih
    · rw [if_neg hx, if_neg hx]
      exact (ih.cons _).trans (List.Perm.swap _ _ _)
theorem nums_same {h : Ln} (h' : Ln) (hn : h'.num = h.num) : ∀ {l : List Ln} {i : Nat}, l[i]? = some h → nums (l.set i h') = nums l
  | [], i, hi => by simp at hi
  | x :: l, 0, hi => by
    simp at hi; subst hi
    rw [List.set_cons_zero, nums_cons, nums_cons, hn]
  | x :: l, i + 1, hi => by
    rw [List.set_cons_succ, nums_cons, nums_cons, nums_same h' hn (l := l) (i := i) (by simpa using hi)]
theorem nums_modify (i : Nat) (f : Ln → Ln) (hf : ∀ h, (f h).num = h.num) : ∀ (l : List Ln), nums (l.modify i f) = nums l := by
  intro l
  unfold nums
  congr 1
  refine List.ext_getElem? fun j => ?_
  rw [List.getElem?_map, List.getElem?_map, List.getElem?_modify]
  cases l[j]? with
  | none => rfl
  | some x => by_cases h : i = j <;> simp [h, hf]
structure SInv (c : Cfg) (rs rs' : List RTx) (M k : Nat) (s : TS) : Prop where
  atl : s.at_ ≤ rs.length
  hM : M ≤ s.m
  hat : s.holds = true → 1 ≤ s.at_
  fut : ∀ j, s.m < j → s.E j = false
  busy : ∀ n ∈ s.line ++ (s.gone ++ nums s.lanes), 1 ≤ n ∧ n ≤ s.m ∧ s.E n = false ∧ depL rs' s.E n = []
  nodup : (s.line ++ (s.gone ++ nums s.lanes)).Nodup
  ll : (s.lanes.length : Int) = c.lanes
  lw : ∀ h ∈ s.lanes, h.sent ≤ h.ws.length ∧ h.ws.length ≤ 32 ∧ h.ack ≤ k ∧ ∀ x ∈ h.ws, wrB x = true
  ql : (s.qs.length : Int) = c.shards
  qw : ∀ q ∈ s.qs, (q.length : Int) ≤ c.queue ∧ ∀ p ∈ q, (0 < p.1 ∧ p.1 ≤ c.lanes) ∨ (p.1 < 0 ∧ (mget s.calls p.1).isSome = true)
  cw : ∀ t x, mget s.calls t = some x → t < 0 ∧ -(k : Int) ≤ x.1 ∧ x.1 ≤ k
  ok : s.G.Ok
section
variable {c : Cfg} {rs rs' : List RTx} {M k : Nat} {s : TS}
theorem SInv.more (h : SInv c rs rs' M k s) : SInv c rs rs' M (k + 1) s :=
  ⟨h.atl, h.hM, h.hat, h.fut, h.busy, h.nodup, h.ll, fun l hl => ⟨(h.lw l hl).1, (h.lw l hl).2.1, by have := (h.lw l hl).2.2.1; omega, (h.lw l hl).2.2.2⟩, h.ql, h.qw, fun t x hx => by have := h.cw t x hx; omega, h.ok⟩
theorem SInv.line_len (h : SInv c rs rs' M k s) : s.line.length ≤ s.m + 1 := by
  have := nodup_le (l := s.line) (l' := List.range (s.m + 1)) (List.nodup_append.1 h.nodup).1 (fun n hn => by
    have := (h.busy n (by simp [hn])).2.1
    simp; omega)
  simpa using this
theorem SInv.gone_len (h : SInv c rs rs' M k s) : s.gone.length ≤ s.m + 1 := by
  have := nodup_le (l := s.gone) (l' := List.range (s.m + 1)) (List.nodup_append.1 (List.nodup_append.1 h.nodup).2.1).1 (fun n hn => by
    have := (h.busy n (by simp [hn])).2.1
    simp; omega)
  simpa using this
theorem SInv.ml (h : SInv c rs rs' M k s) : s.m ≤ rs.length := by
  have := h.atl; unfold TS.m; split <;> omega
theorem SInv.feed {by_ : List Int} (h : SInv c rs rs' M k s) (hM : ∀ b ∈ by_, (M : Int) + 2 ≤ b) : SInv c rs rs' M (k + 1) (s.feed c rs rs' by_).2 := by
  unfold TS.feed
  by_cases hh : s.holds = false
  · rw [if_pos hh]
    by_cases hl : rs.length ≤ s.at_
    · rw [if_pos hl]; exact h.more
    · rw [if_neg hl]
      have hm : s.m = s.at_ := by unfold TS.m; rw [hh]; simp
      have hm2 : TS.m { s with at_ := s.at_ + 1, holds := true } = s.m := by rw [hm]; simp [TS.m]
      obtain ⟨a1, a2, a3, a4, a5, a6, a7, a8, a9, a10, a11, a12⟩ := h.more
      exact ⟨by simp; omega, by rw [hm2]; exact a2, fun _ => by simp, fun j hj => a4 j (by rw [hm2] at hj; exact hj), fun n hn => by rw [hm2]; exact a5 n hn, a6, a7, a8, a9, a10, a11, a12⟩
  · have hh2 : s.holds = true := by simpa using hh
    rw [if_neg hh]
    have hat := h.hat hh2
    have hm : s.m = s.at_ - 1 := by unfold TS.m; rw [hh2]; simp
    by_cases hb : by_.contains (s.at_ : Int) = true
    · rw [if_pos hb]
      have hm2 : TS.m { s with holds := false, E := E1 s.E s.at_ } = s.m + 1 := by rw [hm]; simp [TS.m]; omega
      obtain ⟨a1, a2, a3, a4, a5, a6, a7, a8, a9, a10, a11, a12⟩ := h.more
      refine ⟨a1, by rw [hm2]; omega, fun h => by simp at h, fun j hj => ?_, fun n hn => ?_, a6, a7, a8, a9, a10, a11, a12⟩
      · rw [hm2] at hj
        have : j ≠ s.at_ := by omega
        simp only [E1, this, decide_false, Bool.false_or]
        exact a4 j (by omega)
      · obtain ⟨b1, b2, b3, b4⟩ := a5 n hn
        refine ⟨b1, by rw [hm2]; omega, ?_, ?_⟩
        · have : n ≠ s.at_ := by omega
          simp only [E1, this, decide_false, Bool.false_or]; exact b3
        · rw [depL_E1, b4]; rfl
    · rw [if_neg hb]
      by_cases hw : c.window < (s.at_ : Int) - s.G.mark
      · rw [if_pos hw]; exact h.more
      · rw [if_neg hw]
        obtain ⟨a1, a2, a3, a4, a5, a6, a7, a8, a9, a10, a11, a12⟩ := h.more
        have hm2 : ∀ l, TS.m { s with holds := false, line := l } = s.m + 1 := fun l => by rw [hm]; simp [TS.m]; omega
        refine ⟨a1, by rw [hm2]; omega, fun h => by simp at h, fun j hj => a4 j (by rw [hm2] at hj; omega), fun n hn => ?_, ?_, a7, a8, a9, a10, a11, a12⟩
        · rw [hm2]
          simp only at hn ⊢
          by_cases hd : (depL rs' s.E s.at_).length = 0
          · rw [if_pos hd] at hn
            rw [List.append_assoc] at hn
            rcases List.mem_append.1 hn with hn | hn
            · obtain ⟨b1, b2, b3, b4⟩ := a5 n (by simp [hn]); exact ⟨b1, by omega, b3, b4⟩
            · rcases List.mem_append.1 hn with hn | hn
              · simp at hn; subst hn
                exact ⟨hat, by omega, a4 _ (by omega), List.length_eq_zero_iff.1 hd⟩
              · obtain ⟨b1, b2, b3, b4⟩ := a5 n (by rw [List.mem_append]; exact Or.inr hn); exact ⟨b1, by omega, b3, b4⟩
          · rw [if_neg hd] at hn
            obtain ⟨b1, b2, b3, b4⟩ := a5 n hn; exact ⟨b1, by omega, b3, b4⟩
        · simp only
          split
          · have hp : (s.line ++ [s.at_] ++ (s.gone ++ nums s.lanes)).Perm (s.at_ :: (s.line ++ (s.gone ++ nums s.lanes))) := by
              rw [List.append_assoc]; exact List.perm_middle
            rw [hp.nodup_iff, List.nodup_cons]
            exact ⟨fun hx => by have := (a5 _ hx).2.1; omega, a6⟩
          · exact a6
theorem cntW_sub : ∀ (ws : List Wr), (cntW ws).length ≤ ws.length ∧ ∀ x ∈ cntW ws, x ∈ ws
  | [] => ⟨Nat.le_refl _, fun x hx => hx⟩
  | x :: r => by
    obtain ⟨h1, h2⟩ := cntW_sub r
    unfold cntW
    split
    · exact ⟨by simp; omega, fun y hy => by simp [h2 y hy]⟩
    · exact ⟨by simpa using h1, fun y hy => by
        rcases List.mem_cons.1 hy with rfl | hy
        · simp
        · simp [h2 y hy]⟩
theorem SInv.lane {i : Nat} (h : SInv c rs rs' M k s) (hw : ∀ p, (wsOf rs p).length ≤ 32 ∧ ∀ x ∈ wsOf rs p, wrB x = true) : SInv c rs rs' M (k + 1) (s.lane c rs i).2 := by
  unfold TS.lane
  cases hi : s.lanes[i]? with
  | none => exact h.more
  | some l =>
    simp only
    have hil := (List.getElem?_eq_some_iff.1 hi).1
    have hlm := List.mem_of_getElem? hi
    by_cases h0 : l.num = 0
    · rw [if_pos h0]
      cases hl : s.line with
      | nil => simp only; exact h.more
      | cons n r =>
        simp only
        obtain ⟨a1, a2, a3, a4, a5, a6, a7, a8, a9, a10, a11, a12⟩ := h.more
        rw [hl] at a5 a6
        have hn0 : n ≠ 0 := by have := (a5 n (by simp)).1; omega
        have hp := nums_take (h := l) (⟨n, cntW (wsOf rs (n - 1)), 0, 0⟩ : Ln) rfl hn0 hi h0
        have hp2 : (r ++ (s.gone ++ nums (s.lanes.set i ⟨n, cntW (wsOf rs (n - 1)), 0, 0⟩))).Perm (n :: r ++ (s.gone ++ nums s.lanes)) := by
          refine ((hp.append_left s.gone).append_left r).trans ?_
          refine (List.Perm.append_left r List.perm_middle).trans ?_
          exact List.perm_middle
        refine ⟨a1, a2, a3, a4, fun q hq => a5 q (hp2.mem_iff.1 hq), hp2.nodup_iff.2 a6, by simpa using a7, fun h' hh => ?_, a9, a10, a11, a12⟩
        rcases List.mem_or_eq_of_mem_set hh with hh | rfl
        · exact a8 h' hh
        · obtain ⟨c1, c2⟩ := cntW_sub (wsOf rs (n - 1))
          exact ⟨Nat.zero_le _, by have := (hw (n - 1)).1; simp only; omega, Nat.zero_le _, fun x hx => (hw (n - 1)).2 x (c2 x hx)⟩
    · rw [if_neg h0]
      cases hx : l.ws[l.sent]? with
      | some x =>
        simp only
        split
        · exact h.more
        · obtain ⟨a1, a2, a3, a4, a5, a6, a7, a8, a9, a10, a11, a12⟩ := h.more
          have hsl := (List.getElem?_eq_some_iff.1 hx).1
          rename_i hq
          refine ⟨a1, a2, a3, a4, ?_, ?_, by simpa using a7, fun h' hh => ?_, by simpa using a9, fun q hq' => ?_, a11, a12⟩
          · simp only [nums_same (h := l) ({ l with sent := l.sent + 1 } : Ln) rfl hi]; exact a5
          · simp only [nums_same (h := l) ({ l with sent := l.sent + 1 } : Ln) rfl hi]; exact a6
          · rcases List.mem_or_eq_of_mem_set hh with hh | rfl
            · exact a8 h' hh
            · exact ⟨hsl, (a8 l hlm).2⟩
          · obtain ⟨j, hj⟩ := List.getElem?_of_mem hq'
            simp only [List.getElem?_modify] at hj
            cases hqj : s.qs[j]? with
            | none => rw [hqj] at hj; simp at hj
            | some q0 =>
              rw [hqj] at hj
              by_cases hjk : shd c x.key = j
              · simp [hjk] at hj
                subst hj
                obtain ⟨q1, q2⟩ := a10 q0 (List.mem_of_getElem? hqj)
                rw [hjk, hqj] at hq
                simp at hq
                refine ⟨by simp; omega, fun p hp => ?_⟩
                rcases List.mem_append.1 hp with hp | hp
                · exact q2 p hp
                · simp at hp; subst hp; exact Or.inl ⟨by simp only; omega, by simp only; omega⟩
              · simp [hjk] at hj
                subst hj
                exact a10 q0 (List.mem_of_getElem? hqj)
      | none =>
        simp only
        split
        · exact h.more
        · obtain ⟨a1, a2, a3, a4, a5, a6, a7, a8, a9, a10, a11, a12⟩ := h.more
          have hp := nums_done (h := l) ({ l with num := 0 } : Ln) rfl hi h0
          have hp2 : (s.line ++ (s.gone ++ [l.num] ++ nums (s.lanes.set i { l with num := 0 }))).Perm (s.line ++ (s.gone ++ nums s.lanes)) := by
            refine List.Perm.append_left _ ?_
            rw [List.append_assoc]
            exact List.Perm.append_left _ hp.symm
          refine ⟨a1, a2, a3, a4, fun q hq => a5 q (hp2.mem_iff.1 hq), hp2.nodup_iff.2 a6, by simpa using a7, fun h' hh => ?_, a9, a10, a11, a12⟩
          rcases List.mem_or_eq_of_mem_set hh with hh | rfl
          · exact a8 h' hh
          · exact a8 l hlm
theorem SInv.owner {i : Nat} (h : SInv c rs rs' M k s) : SInv c rs rs' M (k + 1) (s.owner i).2 := by
  unfold TS.owner
  cases hi : s.qs[i]? with
  | none => exact h.more
  | some q =>
    cases q with
    | nil => exact h.more
    | cons a r =>
      simp only
      obtain ⟨q1, q2⟩ := h.qw _ (List.mem_of_getElem? hi)
      have hset : ∀ q ∈ s.qs.set i r, (q.length : Int) ≤ c.queue ∧ ∀ p ∈ q, (0 < p.1 ∧ p.1 ≤ c.lanes) ∨ (p.1 < 0 ∧ (mget s.calls p.1).isSome = true) := fun q hq => by
        rcases List.mem_or_eq_of_mem_set hq with hq | rfl
        · exact h.qw q hq
        · exact ⟨by simp at q1; omega, fun p hp => q2 p (by simp [hp])⟩
      split
      · obtain ⟨a1, a2, a3, a4, a5, a6, a7, a8, a9, a10, a11, a12⟩ := h.more
        refine ⟨a1, a2, a3, a4, ?_, ?_, by simpa using a7, fun h' hh => ?_, by simpa using a9, hset, a11, a12⟩
        · simp only [nums_modify _ (fun h : Ln => { h with ack := h.ack + 1 }) (fun _ => rfl)]; exact a5
        · simp only [nums_modify _ (fun h : Ln => { h with ack := h.ack + 1 }) (fun _ => rfl)]; exact a6
        · obtain ⟨j, hj⟩ := List.getElem?_of_mem hh
          simp only [List.getElem?_modify] at hj
          cases hlj : s.lanes[j]? with
          | none => rw [hlj] at hj; simp at hj
          | some l =>
            rw [hlj] at hj
            have := h.lw l (List.mem_of_getElem? hlj)
            by_cases hjk : (a.1 - 1).toNat = j
            · simp only [Option.map_eq_map, Option.map_some, Option.some.injEq, if_pos hjk] at hj; subst hj; exact ⟨this.1, this.2.1, by simp only; omega, this.2.2.2⟩
            · simp only [Option.map_eq_map, Option.map_some, Option.some.injEq, if_neg hjk] at hj; subst hj; exact ⟨this.1, this.2.1, by omega, this.2.2.2⟩
      · obtain ⟨a1, a2, a3, a4, a5, a6, a7, a8, a9, a10, a11, a12⟩ := h.more
        have hk : ∀ t, (mget s.calls t).isSome = true → (mget (match mget s.calls a.1 with | some x => mput s.calls a.1 (x.1 - 1, x.2) | none => s.calls) t).isSome = true := fun t ht => by
          cases hc : mget s.calls a.1 with
          | none => simpa [hc] using ht
          | some x =>
            simp only
            rw [mget_mput]
            split
            · rfl
            · exact ht
        refine ⟨a1, a2, a3, a4, a5, a6, a7, a8, by simpa using a9, fun q hq => ?_, fun t x hx => ?_, a12⟩
        · obtain ⟨b1, b2⟩ := hset q hq
          exact ⟨b1, fun p hp => (b2 p hp).imp id fun hb => ⟨hb.1, hk _ hb.2⟩⟩
        · simp only at hx
          cases hc : mget s.calls a.1 with
          | none => rw [hc] at hx; exact a11 t x hx
          | some y =>
            rw [hc] at hx
            simp only [mget_mput] at hx
            split at hx
            · rename_i e
              injection hx with hx
              subst hx e
              have := h.cw _ _ hc
              simp only; omega
            · exact a11 t x hx
theorem freeL_mem {m : Nat} {E : Nat → Bool} {n a : Nat} : a ∈ freeL rs' m E n ↔ 1 ≤ a ∧ a ≤ m ∧ E a = false ∧ depL rs' E a = [n] := by
  simp only [freeL, List.mem_filter, List.mem_range, Bool.and_eq_true, Bool.not_eq_true', decide_eq_true_eq]
  exact ⟨fun h => ⟨h.2.1.1, by omega, h.2.1.2, h.2.2⟩, fun h => ⟨by omega, ⟨h.1, h.2.2.1⟩, h.2.2.2⟩⟩
theorem freeL_nodup (m : Nat) (E : Nat → Bool) (n : Nat) : (freeL rs' m E n).Nodup := List.nodup_range.filter _
theorem SInv.gates (h : SInv c rs rs' M k s) : SInv c rs rs' M (k + 1) (s.gates rs').2 := by
  unfold TS.gates
  cases hg : s.gone with
  | nil => exact h.more
  | cons n r =>
    simp only
    obtain ⟨a1, a2, a3, a4, a5, a6, a7, a8, a9, a10, a11, a12⟩ := h.more
    rw [hg] at a5 a6
    obtain ⟨n1, n2, n3, n4⟩ := a5 n (by simp)
    have hm2 : ∀ l g E G, TS.m { s with gone := l, line := g, E := E, G := G } = s.m := fun l g E G => rfl
    have hp : (s.line ++ (n :: r ++ nums s.lanes)).Perm (n :: (s.line ++ (r ++ nums s.lanes))) := List.perm_middle
    have hnd := hp.nodup_iff.1 a6
    rw [List.nodup_cons] at hnd
    have hold : ∀ q ∈ s.line ++ (r ++ nums s.lanes), q ≠ n ∧ 1 ≤ q ∧ q ≤ s.m ∧ s.E q = false ∧ depL rs' s.E q = [] := fun q hq => ⟨fun e => hnd.1 (e ▸ hq), a5 q (hp.mem_iff.2 (by simp [hq]))⟩
    have hp2 : (s.line ++ freeL rs' s.m s.E n ++ (r ++ nums s.lanes)).Perm (freeL rs' s.m s.E n ++ (s.line ++ (r ++ nums s.lanes))) := by
      have e1 : freeL rs' s.m s.E n ++ (s.line ++ (r ++ nums s.lanes)) = freeL rs' s.m s.E n ++ s.line ++ (r ++ nums s.lanes) := by rw [List.append_assoc]
      rw [e1]
      exact List.Perm.append_right _ List.perm_append_comm
    refine ⟨a1, a2, a3, fun j hj => ?_, fun q hq => ?_, hp2.nodup_iff.2 (List.nodup_append.2 ⟨freeL_nodup _ _ _, hnd.2, fun a ha b hb e => ?_⟩), a7, a8, a9, a10, a11, (a12.done n).1⟩
    · have hj' : s.m < j := hj
      have : j ≠ n := by omega
      simp only [E1, this, decide_false, Bool.false_or]
      exact a4 j hj
    · rcases List.mem_append.1 (hp2.mem_iff.1 hq) with hq | hq
      · obtain ⟨f1, f2, f3, f4⟩ := freeL_mem.1 hq
        have hqn : q ≠ n := fun e => by rw [e, n4] at f4; cases f4
        refine ⟨f1, f2, ?_, ?_⟩
        · simp only [E1, hqn, decide_false, Bool.false_or]; exact f3
        · simp only [depL_E1, f4]; simp
      · obtain ⟨o1, o2, o3, o4, o5⟩ := hold q hq
        refine ⟨o2, o3, ?_, ?_⟩
        · simp only [E1, o1, decide_false, Bool.false_or]; exact o4
        · simp only [depL_E1, o5]; rfl
    · subst e
      have := (freeL_mem.1 ha).2.2.2
      rw [(hold a hb).2.2.2.2] at this
      cases this
theorem mput_some {K V : Type} [DecidableEq K] {m : List (K × V)} {a t : K} {v : V} (h : (mget m t).isSome = true) : (mget (mput m a v) t).isSome = true := by
  rw [mget_mput]; split
  · rfl
  · exact h
theorem SInv.call {e : Ev} (h : SInv c rs rs' M k s) (ht : e.task < 0) : SInv c rs rs' M (k + 1) (s.call c e).2 := by
  unfold TS.call
  obtain ⟨a1, a2, a3, a4, a5, a6, a7, a8, a9, a10, a11, a12⟩ := h.more
  have hq : ∀ v, ∀ q ∈ s.qs, (q.length : Int) ≤ c.queue ∧ ∀ p ∈ q, (0 < p.1 ∧ p.1 ≤ c.lanes) ∨ (p.1 < 0 ∧ (mget (mput s.calls e.task v) p.1).isSome = true) := fun v q hq => ⟨(a10 q hq).1, fun p hp => ((a10 q hq).2 p hp).imp id fun hb => ⟨hb.1, mput_some hb.2⟩⟩
  cases hc : mget s.calls e.task with
  | none =>
    simp only
    refine ⟨a1, a2, a3, a4, a5, a6, a7, a8, a9, hq _, fun t x hx => ?_, a12⟩
    simp only [mget_mput] at hx
    split at hx
    · rename_i e2
      injection hx with hx
      subst hx e2
      simp only; omega
    · exact a11 t x hx
  | some x =>
    simp only
    have hx0 := h.cw _ _ hc
    by_cases h2 : x.2 = true
    · rw [if_pos h2]; exact h.more
    · rw [if_neg h2]
      by_cases k10 : e.kind = 10
      · rw [if_pos k10]
        split
        · exact h.more
        · rename_i hn
          refine ⟨a1, a2, a3, a4, a5, a6, a7, a8, by simpa using a9, fun q hq' => ?_, fun t y hy => ?_, a12⟩
          · obtain ⟨j, hj⟩ := List.getElem?_of_mem hq'
            simp only [List.getElem?_modify] at hj
            cases hqj : s.qs[j]? with
            | none => rw [hqj] at hj; simp at hj
            | some q0 =>
              rw [hqj] at hj
              obtain ⟨q1, q2⟩ := hq (x.1 + 1, x.2) q0 (List.mem_of_getElem? hqj)
              by_cases hjk : e.shard.toNat = j
              · simp [hjk] at hj
                subst hj
                rw [hjk, hqj] at hn
                simp at hn
                refine ⟨by simp; omega, fun p hp => ?_⟩
                rcases List.mem_append.1 hp with hp | hp
                · exact q2 p hp
                · simp at hp; subst hp; exact Or.inr ⟨ht, by simp [mget_mput]⟩
              · simp [hjk] at hj
                subst hj
                exact ⟨q1, q2⟩
          · simp only [mget_mput] at hy
            split at hy
            · rename_i e2
              injection hy with hy
              subst hy e2
              simp only; omega
            · exact a11 t y hy
      · rw [if_neg k10]
        by_cases k11 : e.kind = 11
        · rw [if_pos k11]; exact h.more
        · rw [if_neg k11]
          by_cases k12 : e.kind = 12
          · rw [if_pos k12]
            refine ⟨a1, a2, a3, a4, a5, a6, a7, a8, a9, hq _, fun t y hy => ?_, a12⟩
            simp only [mget_mput] at hy
            split at hy
            · rename_i e2
              injection hy with hy
              subst hy e2
              simp only; omega
            · exact a11 t y hy
          · rw [if_neg k12]; exact h.more
theorem SInv.step {by_ : List Int} {e : Ev} (h : SInv c rs rs' M k s) (hM : ∀ b ∈ by_, (M : Int) + 2 ≤ b) (hw : ∀ p, (wsOf rs p).length ≤ 32 ∧ ∀ x ∈ wsOf rs p, wrB x = true) : SInv c rs rs' M (k + 1) (s.step c rs rs' by_ e).2 := by
  unfold TS.step
  by_cases h1 : e.task < 0
  · rw [if_pos h1]; exact h.call h1
  rw [if_neg h1]
  by_cases h2 : e.task = 0
  · rw [if_pos h2]; exact h.feed hM
  rw [if_neg h2]
  by_cases h3 : e.task ≤ c.lanes
  · rw [if_pos h3]; exact h.lane hw
  rw [if_neg h3]
  by_cases h4 : e.task ≤ c.lanes + c.shards
  · rw [if_pos h4]; exact h.owner
  rw [if_neg h4]
  by_cases h5 : e.task = c.lanes + c.shards + 1
  · rw [if_pos h5]; exact h.gates
  rw [if_neg h5]; exact h.more
end
end Go.Proofs.YtcjmppjppmiggaaGreat

/- TraceHolds, TraceStops: the plain laws. -/

namespace Go.Proofs.YtcjmppjppmiggaaGreat
open Go.RowKit
set_option linter.unusedVariables false
set_option linter.unusedSimpArgs false

section
variable (c : Cfg) (rs rs' : List RTx) (by_ : List Int)
end
def waitN (rs' : List RTx) (m : Nat) (E : Nat → Bool) : Nat := ((List.range (m + 1)).filter fun a => decide (1 ≤ a) && !E a && decide (depL rs' E a ≠ [])).length
def TS.out (rs' : List RTx) (s : TS) : Nat := s.line.length + waitN rs' s.m s.E
theorem filter_ne_nil {l : List Nat} (hn : l.Nodup) (n : Nat) (h : l ≠ []) : (l.filter fun b => decide (b ≠ n)) = [] ↔ l = [n] := by
  constructor
  · intro h1
    have h2 : ∀ b ∈ l, b = n := fun b hb => by
      have := List.filter_eq_nil_iff.1 h1 b hb
      simpa using this
    cases l with
    | nil => exact absurd rfl h
    | cons a r =>
      have e1 := h2 a (by simp)
      subst e1
      cases r with
      | nil => rfl
      | cons b r =>
        have e2 := h2 b (by simp)
        subst e2
        simp at hn
  · rintro rfl; simp
def Tells (c : Cfg) (rs' : List RTx) (s : TS) (a : TrA × TS) : Prop := a.1.2.2 = true →
  s.G.mark ≤ a.2.G.mark ∧ (a.1.1 = 1 → a.1.2.1.number = (s.at_ : Int) + 1 ∧ a.2.at_ = s.at_ + 1) ∧ (a.1.1 ≠ 1 → a.2.at_ = s.at_) ∧
    (a.1.1 = 3 → a.1.2.1.number = s.at_ ∧ (s.at_ : Int) - s.G.mark ≤ c.window ∧ a.2.out rs' = s.out rs' + 1) ∧ (a.1.1 = 4 → a.2.out rs' + 1 = s.out rs') ∧ (a.1.1 ≠ 3 → a.1.1 ≠ 4 → a.2.out rs' = s.out rs')
theorem Tells.no {c : Cfg} {rs' : List RTx} {s : TS} {k : Int} {e : Ev} {s' : TS} : Tells c rs' s ((k, e, false), s') := fun h => by cases h
section
variable {c : Cfg} {rs rs' : List RTx} {by_ : List Int} {M k : Nat} {s : TS}
theorem SInv.fits {e : Ev} (h : SInv c rs rs' M k s) (hM : ∀ b ∈ by_, (M : Int) + 2 ≤ b) (hw : ∀ p, (wsOf rs p).length ≤ 32 ∧ ∀ x ∈ wsOf rs p, wrB x = true) : SInv c rs rs' M (k + 1) (s.fits c rs rs' by_ e).2 := h.step hM hw
end
end Go.Proofs.YtcjmppjppmiggaaGreat


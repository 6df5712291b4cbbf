/- XDq: out of XT3 XT4b XTwIb XIntC XConfb XTw XTwT XTwL XCore XSize XFold1 XFold2 XFold3 XFold4 XFold5 XFold6 XFp XFlp XFq XDp XIter XFr2 XFr3 XKey XFr4 XApp XSizeX XRng XAl XDt XDt2 XDt3 XDt4 XDt5 XDt6 XDt7 (pick.py). -/
import Derived.Test.YtcjmppjppmiggaaGreatM1
import Derived.Test.YtcjmppjppmiggaaGreatLay
import Derived.Maps.RangeWalk
import Derived.DeepKeys4
namespace Go.Proofs.YtcjmppjppmiggaaGreat
open Go.RowKit
set_option linter.unusedVariables false
set_option linter.unusedSimpArgs false

structure RTx where
  number : Int
  A : Option Addr
  len : Nat
  cap : Nat
  ws : List Wr
section
open Go.Maps
theorem toList_inj {a b : ByteArray} : a.toList = b.toList ↔ a = b := by
  rw [ByteArray.toList_eq, ByteArray.toList_eq]
  constructor
  · intro h; cases a; cases b; simp_all
  · intro h; rw [h]
def keyIs (k : ByteArray) (x : Wr) : Bool := x.key.toList == k.toList
def hasKey (ws : List Wr) (k : ByteArray) : Bool := ws.any (keyIs k)
def wsOf (rs : List RTx) (p : Nat) : List Wr := ((rs[p]?).map RTx.ws).getD []
/-! The plain law: both know the same chains. -/
theorem hasKey_iff (ws : List Wr) (k : ByteArray) : hasKey ws k = true ↔ ∃ x ∈ ws, x.key = k := by
  unfold hasKey; rw [List.any_eq_true]
  constructor
  · rintro ⟨x, hx, h⟩; exact ⟨x, hx, by simpa [keyIs, toList_inj] using h⟩
  · rintro ⟨x, hx, h⟩; exact ⟨x, hx, by simpa [keyIs, toList_inj] using h⟩
end
/-! ### last writers -/
def lastN (rs : List RTx) (k : ByteArray) : Nat → Nat
  | 0 => 0
  | n + 1 => if hasKey (wsOf rs n) k = true then n + 1 else lastN rs k n
theorem lastN_le (rs : List RTx) (k : ByteArray) : ∀ n, lastN rs k n ≤ n
  | 0 => Nat.le_refl _
  | n + 1 => by rw [lastN]; have := lastN_le rs k n; split <;> omega
def dep (rs : List RTx) (a b : Nat) : Prop := 1 ≤ b ∧ ∃ x ∈ wsOf rs (a - 1), lastN rs x.key (a - 1) = b
theorem dep_lt {rs : List RTx} {a b : Nat} (h : dep rs a b) : 1 ≤ b ∧ b < a := by
  obtain ⟨h1, x, hx, h2⟩ := h
  have := lastN_le rs x.key (a - 1)
  omega
def Closed (rs : List RTx) (n : Nat) (E : Nat → Bool) : Prop := ∀ a, 1 ≤ a → a ≤ n → E a = true → ∀ b, dep rs a b → E b = true
section
open Go.Maps Go.Sort Go.Shelf
def sortI (l : List Int) : List Int := l.mergeSort fun x y => decide (x ≤ y)
theorem sortI_perm {l l' : List Int} (h : l.Perm l') : sortI l = sortI l' := by
  have tr : ∀ a b c : Int, decide (a ≤ b) = true → decide (b ≤ c) = true → decide (a ≤ c) = true := fun a b c h1 h2 => by simp only [decide_eq_true_eq] at *; omega
  have to : ∀ a b : Int, (decide (a ≤ b) || decide (b ≤ a)) = true := fun a b => by simp only [Bool.or_eq_true, decide_eq_true_eq]; omega
  refine List.Perm.eq_of_pairwise (le := fun a b => decide (a ≤ b) = true) (fun a b _ _ h1 h2 => by simp only [decide_eq_true_eq] at *; omega) (List.pairwise_mergeSort tr to l) (List.pairwise_mergeSort tr to l') ?_
  exact (List.mergeSort_perm _ _).trans (h.trans (List.mergeSort_perm _ _).symm)
end
section
open Go.Maps
abbrev I64 := {n : Int // (Lit.int .i64 n).wf = true}
def i64 (n : Int) (h : -9223372036854775808 ≤ n ∧ n ≤ 9223372036854775807) : I64 := ⟨n, WalkArith.wf_i64 h⟩
end
section
open Go.MapKept Go.ChangeMaps
set_option linter.unusedSectionVars false
variable {K V : Type} [DecidableEq K] {κ : K → Value} {ν : V → Value} {P : Program} {kt vt t : TypeId} {w w' : World} {b r : Nat} {m todo : List (K × V)}
def RngM (κ : K → Value) (ν : V → Value) (w : World) (b r : Nat) (m todo : List (K × V)) : Prop :=
  ∃ es clock since seen c0, w.heap[b]? = some (.map es clock) ∧ Stamped es clock ∧ es.toList.map (fun e => (e.key, e.val)) = m.map (fun p => (κ p.1, ν p.2)) ∧
    w.heap[r]? = some (.mapIter (some b) since seen c0) ∧ (∀ x ∈ es.toList, x.born < since) ∧ (es.toList.filter fun e => !seen.contains e.born).map (fun e => (e.key, e.val)) = todo.map (fun p => (κ p.1, ν p.2)) ∧ since ≤ c0 ∧ since ≤ clock
theorem RngM.lt (h : RngM κ ν w b r m todo) : r < w.heap.size := by
  obtain ⟨es, clock, since, seen, c0, _, _, _, hr, _⟩ := h; exact (Array.getElem?_eq_some_iff.1 hr).1
theorem OwnM.range (h : OwnM κ ν w b m) (ht : P.underlying t = some (.map kt vt)) :
    ∃ w', (Instr.range t (.map (some b))).run P w = .ok (.pointer (some ⟨w.heap.size, 0, none⟩)) w' ∧ RngM κ ν w' b w.heap.size m m ∧ w.grownBy w' none ∧ w'.heap.size = w.heap.size + 1 := by
  have hlt := h.lt
  obtain ⟨es, clock, hb, hs, he⟩ := h
  refine ⟨_, run_range_map w t kt vt b es clock ht hb, ⟨es, clock, clock, #[], clock, ((MapKept.heap_alloc w _).2 b hlt).trans hb, hs, he, (MapKept.heap_alloc w _).1, hs.1, ?_, Nat.le_refl _, Nat.le_refl _⟩, World.grownBy_alloc w _ none, by simp⟩
  rw [List.filter_eq_self.2 (fun x _ => by simp)]
  exact he
end
section
open Go.Maps
set_option linter.unusedSectionVars false
theorem wf0 : (Lit.int .i64 0).wf = true := by decide
def toI (z : Int) : I64 := if h : (Lit.int .i64 z).wf = true then ⟨z, h⟩ else ⟨0, wf0⟩
theorem toI_val {z : Int} (h : (Lit.int .i64 z).wf = true) : (toI z).1 = z := by unfold toI; rw [dif_pos h]
structure DT where
  last : List (ByteArray × Int)
  opn : List (Int × Int)
  wts : List ((I64 × I64) × Bool)
  top : Int
end
section
open Go.Maps Go.Sort
theorem length_sortI (l : List Int) : (sortI l).length = l.length := List.length_mergeSort l
def waitL (W : List ((I64 × I64) × Bool)) (n : Int) : List Int := (W.filter fun p => decide (p.1.1.1 = n)).map fun p => p.1.2.1
theorem waitL_cons (p : (I64 × I64) × Bool) (W : List ((I64 × I64) × Bool)) (n : Int) : waitL (p :: W) n = if p.1.1.1 = n then p.1.2.1 :: waitL W n else waitL W n := by
  unfold waitL; rw [List.filter_cons]; simp only [decide_eq_true_eq]; split <;> rfl
def tellL (W : List ((I64 × I64) × Bool)) (n : Int) : List Int := (W.filter fun p => decide (p.1.2.1 = n)).map fun p => p.1.1.1
theorem mem_tellL {W : List ((I64 × I64) × Bool)} {n a : Int} : a ∈ tellL W n ↔ ∃ k : I64 × I64, k ∈ W.map (·.1) ∧ k.2.1 = n ∧ k.1.1 = a := by
  unfold tellL
  simp only [List.mem_map, List.mem_filter, decide_eq_true_eq]
  constructor
  · rintro ⟨p, ⟨h1, h2⟩, h3⟩; exact ⟨p.1, ⟨p, h1, rfl⟩, h2, h3⟩
  · rintro ⟨k, ⟨p, h1, rfl⟩, h2, h3⟩; exact ⟨p, ⟨h1, h2⟩, h3⟩
def addW (d : DT) (n : Int) (s : List ((I64 × I64) × Bool) × Nat) (x : Wr) : List ((I64 × I64) × Bool) × Nat :=
  if (mget d.opn ((mget d.last x.key).getD 0)).isSome = true ∧ (mget s.1 (toI n, toI ((mget d.last x.key).getD 0))).getD false = false then (mput s.1 (toI n, toI ((mget d.last x.key).getD 0)) true, s.2 + 1) else s
def addWs (d : DT) (n : Int) (ws : List Wr) (k : Nat) : List ((I64 × I64) × Bool) × Nat := (ws.take k).foldl (addW d n) (d.wts, 0)
theorem addWs_succ (d : DT) (n : Int) {ws : List Wr} {k : Nat} {x : Wr} (h : ws[k]? = some x) : addWs d n ws (k + 1) = addW d n (addWs d n ws k) x := by
  unfold addWs
  rw [List.take_add_one, h, List.foldl_append]
  rfl
def putL (m : List (ByteArray × Int)) (n : Int) (ws : List Wr) (k : Nat) : List (ByteArray × Int) := (ws.take k).foldl (fun m x => mput m x.key n) m
theorem putL_succ (m : List (ByteArray × Int)) (n : Int) {ws : List Wr} {k : Nat} {x : Wr} (h : ws[k]? = some x) : putL m n ws (k + 1) = mput (putL m n ws k) x.key n := by
  unfold putL
  rw [List.take_add_one, h, List.foldl_append]
  rfl
theorem nodup_le {α : Type} [DecidableEq α] : ∀ {l l' : List α}, l.Nodup → (∀ x ∈ l, x ∈ l') → l.length ≤ l'.length
  | [], _, _, _ => Nat.zero_le _
  | a :: l, l', hn, hs => by
    simp only [List.nodup_cons] at hn
    have h1 := nodup_le (l := l) (l' := l'.erase a) hn.2 (fun x hx => by
      have hxa : x ≠ a := by rintro rfl; exact hn.1 hx
      exact (List.mem_erase_of_ne hxa).2 (hs x (by simp [hx])))
    have h2 := List.length_erase_of_mem (hs a (by simp))
    have h3 : 0 < l'.length := List.length_pos_of_mem (hs a (by simp))
    simp only [List.length_cons]; omega
theorem nodup_perm {α : Type} [DecidableEq α] {l l' : List α} (h : l.Nodup) (h' : l'.Nodup) (hm : ∀ x, x ∈ l ↔ x ∈ l') : l.Perm l' := (List.perm_ext_iff_of_nodup h h').2 hm
def depB (rs : List RTx) (a b : Nat) : Bool := decide (1 ≤ b) && (wsOf rs (a - 1)).any fun x => decide (lastN rs x.key (a - 1) = b)
theorem depB_iff {rs : List RTx} {a b : Nat} : depB rs a b = true ↔ dep rs a b := by
  simp only [depB, Bool.and_eq_true, decide_eq_true_eq, List.any_eq_true, dep]
def depL (rs : List RTx) (E : Nat → Bool) (a : Nat) : List Nat := (List.range a).filter fun b => depB rs a b && !E b
theorem mem_depL {rs : List RTx} {E : Nat → Bool} {a b : Nat} : b ∈ depL rs E a ↔ dep rs a b ∧ E b = false := by
  simp only [depL, List.mem_filter, List.mem_range, Bool.and_eq_true, Bool.not_eq_true', depB_iff]
  exact ⟨fun h => h.2, fun h => ⟨(dep_lt h.1).2, h⟩⟩
theorem depL_nodup (rs : List RTx) (E : Nat → Bool) (a : Nat) : (depL rs E a).Nodup := List.nodup_range.filter _
theorem depL_rises (rs : List RTx) (E : Nat → Bool) (a : Nat) : (depL rs E a).Pairwise (· < ·) := List.pairwise_lt_range.filter _
def ints (l : List Nat) : List Int := l.map fun (n : Nat) => (n : Int)
theorem sortI_of {l : List Int} {r : List Nat} (h : l.Perm (ints r)) (hr : r.Pairwise (· < ·)) : sortI l = ints r := by
  rw [sortI_perm h]
  unfold sortI
  refine List.mergeSort_of_pairwise ?_
  unfold ints
  rw [List.pairwise_map]
  exact hr.imp fun h => by simp; omega
structure TInv (rs : List RTx) (m : Nat) (E : Nat → Bool) (d : DT) : Prop where
  top : d.top = m
  last : ∀ k, (mget d.last k).getD 0 = lastN rs k m
  lastb : ∀ p ∈ d.last, 0 ≤ p.2 ∧ p.2 ≤ 65536
  opn : ∀ z : Int, mget d.opn z = if 1 ≤ z ∧ z ≤ m ∧ E z.toNat = false then some ((depL rs E z.toNat).length : Int) else none
  wts : ∀ k : I64 × I64, mget d.wts k = if (1 ≤ k.1.1 ∧ k.1.1 ≤ m ∧ 1 ≤ k.2.1 ∧ depB rs k.1.1.toNat k.2.1.toNat = true ∧ E k.2.1.toNat = false) then some true else none
  closed : Closed rs m E
  fut : ∀ j, m < j → E j = false
  no : (d.opn.map (·.1)).Nodup
  nw : (d.wts.map (·.1)).Nodup
theorem TInv.start (rs : List RTx) (E : Nat → Bool) (hE : ∀ j, E j = false) : TInv rs 0 E ⟨[], [], [], 0⟩ := by
  refine ⟨rfl, fun k => (by simp [mget, lastN]), fun p hp => (by cases hp), fun z => ?_, fun k => ?_, fun a h1 h2 => (by omega), fun j _ => hE j, by simp, by simp⟩
  · rw [if_neg (by omega)]; rfl
  · rw [if_neg (by omega)]; rfl
end
section
open Go.Maps Go.Sort
variable {rs : List RTx} {m : Nat} {E : Nat → Bool} {d : DT}
theorem TInv.isOpen (h : TInv rs m E d) (z : Int) : (mget d.opn z).isSome = true ↔ 1 ≤ z ∧ z ≤ m ∧ E z.toNat = false := by
  rw [h.opn]; split <;> simp [*]
theorem TInv.mem_wts (h : TInv rs m E d) (k : I64 × I64) : k ∈ d.wts.map (·.1) ↔ (1 ≤ k.1.1 ∧ k.1.1 ≤ m ∧ 1 ≤ k.2.1 ∧ depB rs k.1.1.toNat k.2.1.toNat = true ∧ E k.2.1.toNat = false) := by
  have hw := h.wts k
  by_cases hc : (1 ≤ k.1.1 ∧ k.1.1 ≤ m ∧ 1 ≤ k.2.1 ∧ depB rs k.1.1.toNat k.2.1.toNat = true ∧ E k.2.1.toNat = false)
  · rw [if_pos hc] at hw
    exact ⟨fun _ => hc, fun _ => List.mem_map.2 ⟨_, mget_some_mem hw, rfl⟩⟩
  · rw [if_neg hc, mget_none_iff] at hw
    exact ⟨fun hh => absurd hh hw, fun hh => absurd hh hc⟩
theorem waitL_mem {W : List ((I64 × I64) × Bool)} {n a : Int} : a ∈ waitL W n ↔ ∃ k : I64 × I64, k ∈ W.map (·.1) ∧ k.1.1 = n ∧ k.2.1 = a := by
  unfold waitL
  simp only [List.mem_map, List.mem_filter, decide_eq_true_eq]
  constructor
  · rintro ⟨p, ⟨h1, h2⟩, h3⟩; exact ⟨p.1, ⟨p, h1, rfl⟩, h2, h3⟩
  · rintro ⟨k, ⟨p, h1, rfl⟩, h2, h3⟩; exact ⟨p, ⟨h1, h2⟩, h3⟩
theorem waitL_nodup {W : List ((I64 × I64) × Bool)} (n : Int) (h : (W.map (·.1)).Nodup) : (waitL W n).Nodup := by
  induction W with
  | nil => exact List.nodup_nil
  | cons p W ih =>
    simp only [List.map_cons, List.nodup_cons] at h
    rw [waitL_cons]
    split
    · rename_i hp
      refine List.nodup_cons.2 ⟨fun hm => ?_, ih h.2⟩
      obtain ⟨k, hk, h1, h2⟩ := waitL_mem.1 hm
      have : k = p.1 := Prod.ext (Subtype.ext (h1.trans hp.symm)) (Subtype.ext h2)
      exact h.1 (this ▸ hk)
    · exact ih h.2
theorem ints_nodup {l : List Nat} (h : l.Nodup) : (ints l).Nodup := List.Pairwise.map _ (fun a b (hab : a ≠ b) => by omega) h
theorem mem_ints {l : List Nat} {z : Int} : z ∈ ints l ↔ 0 ≤ z ∧ z.toNat ∈ l := by
  unfold ints
  rw [List.mem_map]
  constructor
  · rintro ⟨a, h, rfl⟩; exact ⟨by omega, by simpa using h⟩
  · rintro ⟨h0, h⟩; exact ⟨_, h, by omega⟩
theorem wfI {z : Int} (h : 0 ≤ z ∧ z ≤ 4294967296) : (Lit.int .i64 z).wf = true := WalkArith.wf_i64 (by omega)
theorem TInv.waits (h : TInv rs m E d) (hm : m ≤ 65536) {n : Nat} (h1 : 1 ≤ n) (h2 : n ≤ m) : sortI (waitL d.wts n) = ints (depL rs E n) := by
  refine sortI_of (nodup_perm (waitL_nodup _ h.nw) (ints_nodup (depL_nodup rs E n)) fun z => ?_) (depL_rises rs E n)
  rw [waitL_mem, mem_ints, mem_depL]
  constructor
  · rintro ⟨k, hk, h3, rfl⟩
    rw [h.mem_wts, h3] at hk
    refine ⟨by omega, ?_, hk.2.2.2.2⟩
    have := depB_iff.1 hk.2.2.2.1
    simpa using this
  · rintro ⟨h3, h4, h5⟩
    have hlt := dep_lt h4
    refine ⟨(toI n, toI z), ?_, toI_val (wfI (by omega)), toI_val (wfI (by omega))⟩
    rw [h.mem_wts]
    simp only [toI_val (wfI (show 0 ≤ (n : Int) ∧ (n : Int) ≤ 4294967296 by omega)), toI_val (wfI (show 0 ≤ z ∧ z ≤ 4294967296 by omega))]
    exact ⟨by omega, by omega, by omega, depB_iff.2 (by simpa using h4), h5⟩
theorem grid_len (m : Nat) : ∀ n, ((List.range n).flatMap fun a => (List.range m).map fun b => (a, b)).length = n * m
  | 0 => by simp
  | n + 1 => by
    rw [List.range_succ, List.flatMap_append, List.length_append, grid_len m n]
    simp [Nat.add_mul]
theorem TInv.wts_len (h : TInv rs m E d) (hm : m ≤ 65536) : d.wts.length ≤ (m + 1) * (m + 1) := by
  have h1 : ((d.wts.map (·.1)).map fun k => (k.1.1.toNat, k.2.1.toNat)).Nodup := by
    refine List.pairwise_map.2 (List.Pairwise.imp_of_mem (fun {a b} ha hb hab e => ?_) h.nw)
    rw [h.mem_wts] at ha hb
    simp only [Prod.mk.injEq] at e
    exact hab (Prod.ext (Subtype.ext (by omega)) (Subtype.ext (by omega)))
  have h2 := nodup_le (l' := (List.range (m + 1)).flatMap fun a => (List.range (m + 1)).map fun b => (a, b)) h1 (fun x hx => by
    obtain ⟨k, hk, rfl⟩ := List.mem_map.1 hx
    rw [h.mem_wts] at hk
    have := dep_lt (depB_iff.1 hk.2.2.2.1)
    refine List.mem_flatMap.2 ⟨_, List.mem_range.2 (by omega), List.mem_map.2 ⟨_, List.mem_range.2 (by omega), rfl⟩⟩)
  rw [grid_len] at h2
  simpa using h2
end
section
open Go.Maps Go.Sort
theorem mem_mput {K V : Type} [DecidableEq K] {m : List (K × V)} {k : K} {v : V} {p : K × V} (h : p ∈ mput m k v) : p.2 = v ∨ p ∈ m := by
  induction m with
  | nil => simp [mput] at h; exact Or.inl (by rw [h])
  | cons q r ih =>
    obtain ⟨j, u⟩ := q
    simp only [mput] at h
    split at h
    · rcases List.mem_cons.1 h with h | h
      · exact Or.inl (by rw [h])
      · exact Or.inr (by simp [h])
    · rcases List.mem_cons.1 h with h | h
      · exact Or.inr (by simp [h])
      · rcases ih h with h | h
        · exact Or.inl h
        · exact Or.inr (by simp [h])
theorem putL_get (m : List (ByteArray × Int)) (n : Int) (ws : List Wr) (key : ByteArray) : ∀ k, (mget (putL m n ws k) key).getD 0 = if hasKey (ws.take k) key = true then n else (mget m key).getD 0
  | 0 => by simp [putL, hasKey]
  | k + 1 => by
    cases hx : ws[k]? with
    | none =>
      have h1 : ws.take (k + 1) = ws.take k := by rw [List.take_add_one, hx]; simp
      have h2 : putL m n ws (k + 1) = putL m n ws k := by unfold putL; rw [h1]
      rw [h1, h2]; exact putL_get m n ws key k
    | some x =>
      rw [putL_succ m n hx, mget_mput]
      have h1 : ws.take (k + 1) = ws.take k ++ [x] := by rw [List.take_add_one, hx]; rfl
      by_cases hk : x.key = key
      · rw [if_pos hk, if_pos ((hasKey_iff _ _).2 ⟨x, by rw [h1]; simp, hk⟩)]; rfl
      · rw [if_neg hk, putL_get m n ws key k]
        have : hasKey (ws.take (k + 1)) key = true ↔ hasKey (ws.take k) key = true := by
          rw [hasKey_iff, hasKey_iff, h1]
          constructor
          · rintro ⟨y, hy, e⟩
            rcases List.mem_append.1 hy with hy | hy
            · exact ⟨y, hy, e⟩
            · simp at hy; subst hy; exact absurd e hk
          · rintro ⟨y, hy, e⟩; exact ⟨y, by simp [hy], e⟩
        simp only [this]
theorem putL_bound (m : List (ByteArray × Int)) (n : Int) (ws : List Wr) (hn : 0 ≤ n ∧ n ≤ 65536) (hm : ∀ p ∈ m, 0 ≤ p.2 ∧ p.2 ≤ 65536) : ∀ k, ∀ p ∈ putL m n ws k, 0 ≤ p.2 ∧ p.2 ≤ 65536
  | 0, p, hp => hm p (by simpa [putL] using hp)
  | k + 1, p, hp => by
    cases hx : ws[k]? with
    | none =>
      have h2 : putL m n ws (k + 1) = putL m n ws k := by unfold putL; rw [List.take_add_one, hx]; simp
      rw [h2] at hp; exact putL_bound m n ws hn hm k p hp
    | some x =>
      rw [putL_succ m n hx] at hp
      rcases mem_mput hp with h | h
      · rw [h]; exact hn
      · exact putL_bound m n ws hn hm k p h
end
section
open Go.Maps Go.Sort
variable {rs : List RTx} {m : Nat} {E : Nat → Bool} {d : DT}
theorem TInv.adds (h : TInv rs m E d) (hm : m + 1 ≤ 65536) (ws : List Wr) : ∀ k, k ≤ ws.length → ∃ L : List Nat, L.Nodup ∧ (∀ b, b ∈ L ↔ (1 ≤ b ∧ b ≤ m ∧ E b = false) ∧ ∃ x ∈ ws.take k, lastN rs x.key m = b) ∧ (addWs d ((m : Int) + 1) ws k).2 = L.length ∧
    (∀ key : I64 × I64, mget (addWs d ((m : Int) + 1) ws k).1 key = if key.1.1 = (m : Int) + 1 ∧ 0 ≤ key.2.1 ∧ key.2.1.toNat ∈ L then some true else mget d.wts key) ∧ ((addWs d ((m : Int) + 1) ws k).1.map (·.1)).Nodup
  | 0, _ => ⟨[], by simp, by simp, rfl, by simp [addWs], by simpa [addWs] using h.nw⟩
  | k + 1, hk => by
    obtain ⟨L, h1, h2, h3, h4, h5⟩ := h.adds hm ws k (by omega)
    have hx : ws[k]? = some (ws[k]'(by omega)) := List.getElem?_eq_getElem _
    generalize ws[k]'(by omega) = x at hx
    have ht : ws.take (k + 1) = ws.take k ++ [x] := by rw [List.take_add_one, hx]; rfl
    have hop := h.isOpen (lastN rs x.key m : Nat)
    have hle := lastN_le rs x.key m
    rw [addWs_succ d _ hx, ht]
    generalize addWs d ((m : Int) + 1) ws k = s at *
    unfold addW
    rw [h.last]
    generalize hb : lastN rs x.key m = b at *
    have hv1 : (toI ((m : Int) + 1)).1 = (m : Int) + 1 := toI_val (wfI (by omega))
    have hv2 : (toI (b : Int)).1 = b := toI_val (wfI (by omega))
    have hg : mget s.1 (toI ((m : Int) + 1), toI (b : Int)) = if b ∈ L then some true else none := by
      rw [h4]
      simp only [hv1, hv2]
      by_cases hbl : b ∈ L
      · rw [if_pos ⟨trivial, by omega, by simpa using hbl⟩, if_pos hbl]
      · rw [if_neg (fun e => hbl (by simpa using e.2.2)), if_neg hbl, h.wts]
        simp only [hv1]
        rw [if_neg (by omega)]
    by_cases ho : (mget d.opn (b : Int)).isSome = true
    · have ho2 := hop.1 ho
      have ho3 : 1 ≤ b ∧ b ≤ m ∧ E b = false := ⟨by omega, by omega, by simpa using ho2.2.2⟩
      by_cases hbl : b ∈ L
      · rw [if_neg (by rw [hg, if_pos hbl]; simp)]
        refine ⟨L, h1, fun c => ?_, h3, h4, h5⟩
        rw [h2]
        constructor
        · rintro ⟨p, y, hy, e⟩; exact ⟨p, y, by simp [hy], e⟩
        · rintro ⟨p, y, hy, e⟩
          rcases List.mem_append.1 hy with hy | hy
          · exact ⟨p, y, hy, e⟩
          · simp at hy; subst hy
            rw [hb] at e; subst e
            exact ((h2 b).1 hbl)
      · rw [if_pos ⟨ho, by rw [hg, if_neg hbl]; rfl⟩]
        refine ⟨b :: L, List.nodup_cons.2 ⟨hbl, h1⟩, fun c => ?_, by simp [h3], fun key => ?_, nodup_mput _ _ h5⟩
        · rw [List.mem_cons, h2]
          constructor
          · rintro (rfl | ⟨p, y, hy, e⟩)
            · exact ⟨ho3, x, by simp, hb⟩
            · exact ⟨p, y, by simp [hy], e⟩
          · rintro ⟨p, y, hy, e⟩
            rcases List.mem_append.1 hy with hy | hy
            · exact Or.inr ⟨p, y, hy, e⟩
            · simp at hy; subst hy
              rw [hb] at e; exact Or.inl e.symm
        · rw [mget_mput]
          by_cases hkey : (toI ((m : Int) + 1), toI (b : Int)) = key
          · rw [if_pos hkey, ← hkey]
            simp only [hv1, hv2]
            rw [if_pos ⟨trivial, by omega, by simp⟩]
          · rw [if_neg hkey, h4]
            by_cases hc : key.1.1 = (m : Int) + 1 ∧ 0 ≤ key.2.1 ∧ key.2.1.toNat ∈ L
            · rw [if_pos hc, if_pos ⟨hc.1, hc.2.1, by simp [hc.2.2]⟩]
            · rw [if_neg hc, if_neg (fun e => ?_)]
              rcases List.mem_cons.1 e.2.2 with e2 | e2
              · exact hkey (Prod.ext (Subtype.ext (by rw [hv1]; exact e.1.symm)) (Subtype.ext (by rw [hv2]; omega)))
              · exact hc ⟨e.1, e.2.1, e2⟩
    · rw [if_neg (fun e => ho e.1)]
      refine ⟨L, h1, fun c => ?_, h3, h4, h5⟩
      rw [h2]
      constructor
      · rintro ⟨p, y, hy, e⟩; exact ⟨p, y, by simp [hy], e⟩
      · rintro ⟨p, y, hy, e⟩
        rcases List.mem_append.1 hy with hy | hy
        · exact ⟨p, y, hy, e⟩
        · simp at hy; subst hy
          rw [hb] at e; subst e
          exact absurd (hop.2 ⟨by omega, by omega, by simpa using p.2.2⟩) ho
theorem wsOf_at {rs : List RTx} {m : Nat} {r : RTx} (h : rs[m]? = some r) : wsOf rs m = r.ws := by unfold wsOf; rw [h]; rfl
theorem TInv.add (h : TInv rs m E d) (hm : m + 1 ≤ 65536) {r : RTx} (hr : rs[m]? = some r) :
    TInv rs (m + 1) E ⟨putL d.last ((m : Int) + 1) r.ws r.ws.length, mput d.opn ((m : Int) + 1) (addWs d ((m : Int) + 1) r.ws r.ws.length).2, (addWs d ((m : Int) + 1) r.ws r.ws.length).1, (m : Int) + 1⟩ ∧ (addWs d ((m : Int) + 1) r.ws r.ws.length).2 = (depL rs E (m + 1)).length := by
  obtain ⟨L, h1, h2, h3, h4, h5⟩ := h.adds hm r.ws r.ws.length (Nat.le_refl _)
  rw [List.take_of_length_le (Nat.le_refl _)] at h2
  have hw := wsOf_at hr
  have hdep : ∀ b, dep rs (m + 1) b ↔ 1 ≤ b ∧ ∃ x ∈ r.ws, lastN rs x.key m = b := fun b => by
    unfold dep; rw [Nat.add_sub_cancel, hw]
  have hL : ∀ b, b ∈ L ↔ b ∈ depL rs E (m + 1) := fun b => by
    rw [h2, mem_depL, hdep]
    constructor
    · rintro ⟨⟨p1, p2, p3⟩, p4⟩; exact ⟨⟨p1, p4⟩, p3⟩
    · rintro ⟨⟨p1, x, p2, p3⟩, p4⟩
      have := lastN_le rs x.key m
      exact ⟨⟨p1, by omega, p4⟩, x, p2, p3⟩
  have hc : L.length = (depL rs E (m + 1)).length := (nodup_perm h1 (depL_nodup rs E (m + 1)) hL).length_eq
  refine ⟨⟨by simp, fun k => ?_, putL_bound _ _ _ (by omega) h.lastb _, fun z => ?_, fun k => ?_, fun a ha1 ha2 hea b hb => ?_, fun j hj => h.fut j (by omega), nodup_mput _ _ h.no, h5⟩, by rw [h3, hc]⟩
  · simp only
    rw [putL_get, List.take_of_length_le (Nat.le_refl _), lastN, hw, h.last]
    split <;> simp
  · simp only
    rw [mget_mput, h3, hc, h.opn]
    by_cases hz : (m : Int) + 1 = z
    · subst hz
      rw [if_pos rfl, if_pos ⟨by omega, by simp, h.fut _ (by omega)⟩]
      rfl
    · rw [if_neg hz]
      by_cases hc2 : 1 ≤ z ∧ z ≤ m ∧ E z.toNat = false
      · rw [if_pos hc2, if_pos ⟨hc2.1, by have := hc2.2.1; simp; omega, hc2.2.2⟩]
      · rw [if_neg hc2, if_neg (fun e => hc2 ⟨e.1, by have := e.2.1; simp at this; omega, e.2.2⟩)]
  · simp only
    rw [h4, h.wts]
    by_cases hk : k.1.1 = (m : Int) + 1
    · have hkn : k.1.1.toNat = m + 1 := by omega
      by_cases hm2 : 0 ≤ k.2.1 ∧ k.2.1.toNat ∈ L
      · have h6 := mem_depL.1 ((hL _).1 hm2.2)
        have := dep_lt h6.1
        rw [if_pos ⟨hk, hm2⟩, if_pos ⟨by omega, by simp; omega, by omega, by rw [hkn]; exact depB_iff.2 h6.1, h6.2⟩]
      · rw [if_neg (fun e => hm2 e.2), if_neg (by omega), if_neg (fun e => hm2 ⟨by omega, (hL _).2 (mem_depL.2 ⟨depB_iff.1 (by rw [← hkn]; exact e.2.2.2.1), e.2.2.2.2⟩)⟩)]
    · rw [if_neg (fun e => hk e.1)]
      by_cases hc2 : 1 ≤ k.1.1 ∧ k.1.1 ≤ m ∧ 1 ≤ k.2.1 ∧ depB rs k.1.1.toNat k.2.1.toNat = true ∧ E k.2.1.toNat = false
      · rw [if_pos hc2, if_pos ⟨hc2.1, by have := hc2.2.1; simp; omega, hc2.2.2⟩]
      · rw [if_neg hc2, if_neg (fun e => hc2 ⟨e.1, by have := e.2.1; simp at this; omega, e.2.2⟩)]
  · by_cases ham : a = m + 1
    · subst ham; rw [h.fut _ (by omega)] at hea; cases hea
    · exact h.closed a ha1 (by omega) hea b hb
theorem filter_ne_len {l : List Nat} (hn : l.Nodup) (n : Nat) : (l.filter fun b => decide (b ≠ n)).length = if n ∈ l then l.length - 1 else l.length := by
  induction l with
  | nil => simp
  | cons a l ih =>
    simp only [List.nodup_cons] at hn
    have ih := ih hn.2
    by_cases ha : a = n
    · subst ha
      rw [if_neg hn.1] at ih
      rw [List.filter_cons_of_neg (by simp), ih]
      simp
    · have ha' : n ≠ a := fun e => ha e.symm
      rw [List.filter_cons_of_pos (by simpa using ha), List.length_cons, ih]
      by_cases hm : n ∈ l
      · have := List.length_pos_of_mem hm
        simp [hm]; omega
      · simp [hm, ha']
def E1 (E : Nat → Bool) (n : Nat) : Nat → Bool := fun j => decide (j = n) || E j
theorem depL_E1 (rs : List RTx) (E : Nat → Bool) (n a : Nat) : depL rs (E1 E n) a = (depL rs E a).filter fun b => decide (b ≠ n) := by
  unfold depL E1
  rw [List.filter_filter]
  refine List.filter_congr fun b _ => ?_
  by_cases hb : b = n <;> simp [hb]
theorem TInv.tell (h : TInv rs m E d) (hm : m ≤ 65536) {n : Nat} (h1 : 1 ≤ n) (h2 : n ≤ m) (hE : E n = false) (a : Int) : a ∈ tellL d.wts n ↔ (1 ≤ a ∧ a ≤ m ∧ dep rs a.toNat n) := by
  rw [mem_tellL]
  constructor
  · rintro ⟨k, hk, h3, rfl⟩
    rw [h.mem_wts, h3] at hk
    exact ⟨hk.1, hk.2.1, by simpa using depB_iff.1 hk.2.2.2.1⟩
  · rintro ⟨h3, h4, h5⟩
    refine ⟨(toI a, toI n), ?_, toI_val (wfI (by omega)), toI_val (wfI (by omega))⟩
    rw [h.mem_wts]
    simp only [toI_val (wfI (show 0 ≤ (n : Int) ∧ (n : Int) ≤ 4294967296 by omega)), toI_val (wfI (show 0 ≤ a ∧ a ≤ 4294967296 by omega))]
    exact ⟨h3, h4, by omega, depB_iff.2 (by simpa using h5), by simpa using hE⟩
theorem TInv.told (h : TInv rs m E d) (hm : m ≤ 65536) {n : Nat} (h1 : 1 ≤ n) (h2 : n ≤ m) (hE : E n = false) {a : Int} (ha : a ∈ tellL d.wts n) : mget (mdel d.opn n) a = some ((depL rs E a.toNat).length : Int) ∧ E a.toNat = false ∧ n ∈ depL rs E a.toNat ∧ (n : Int) ≠ a := by
  obtain ⟨h3, h4, h5⟩ := (h.tell hm h1 h2 hE a).1 ha
  have hlt := dep_lt h5
  have hEa : E a.toNat = false := by
    cases he : E a.toNat
    · rfl
    · rw [h.closed a.toNat (by omega) (by omega) he n h5] at hE; cases hE
  refine ⟨?_, hEa, mem_depL.2 ⟨h5, hE⟩, by omega⟩
  rw [mget_mdel h.no, if_neg (by omega), h.opn, if_pos ⟨h3, h4, hEa⟩]
theorem TInv.done (h : TInv rs m E d) (hm : m ≤ 65536) {n : Nat} (h1 : 1 ≤ n) (h2 : n ≤ m) (hE : E n = false) (hd : depL rs E n = []) {m2 : List (Int × Int)} {m3 : List ((I64 × I64) × Bool)}
    (hm2 : ∀ a, mget m2 a = if a ∈ tellL d.wts n then (mget (mdel d.opn n) a).map (· - 1) else mget (mdel d.opn n) a) (hm3 : ∀ k, mget m3 k = if k.2.1 = n then none else mget d.wts k) (hn2 : (m2.map (·.1)).Nodup) (hn3 : (m3.map (·.1)).Nodup) :
    TInv rs m (E1 E n) ⟨d.last, m2, m3, d.top⟩ := by
  refine ⟨h.top, h.last, h.lastb, fun z => ?_, fun k => ?_, fun a ha1 ha2 hea b hb => ?_, fun j hj => ?_, hn2, hn3⟩
  · simp only
    rw [hm2]
    by_cases hz : z ∈ tellL d.wts n
    · obtain ⟨p1, p2, p3, p4⟩ := h.told hm h1 h2 hE hz
      obtain ⟨q1, q2, -⟩ := (h.tell hm h1 h2 hE z).1 hz
      rw [if_pos hz, p1, if_pos ⟨q1, q2, by simp only [E1, p2, Bool.or_false, decide_eq_false_iff_not]; omega⟩, depL_E1, filter_ne_len (depL_nodup _ _ _), if_pos p3]
      have := List.length_pos_of_mem p3
      simp only [Option.map_some, Option.some.injEq]
      omega
    · rw [if_neg hz, mget_mdel h.no]
      by_cases hzn : (n : Int) = z
      · subst hzn
        rw [if_pos rfl, if_neg (fun e => by have := e.2.2; simp [E1] at this)]
      · rw [if_neg hzn, h.opn]
        by_cases hc : 1 ≤ z ∧ z ≤ m ∧ E z.toNat = false
        · have hnd : ¬ n ∈ depL rs E z.toNat := fun e => hz ((h.tell hm h1 h2 hE z).2 ⟨hc.1, hc.2.1, (mem_depL.1 e).1⟩)
          rw [if_pos hc, if_pos ⟨hc.1, hc.2.1, by simp only [E1, hc.2.2, Bool.or_false, decide_eq_false_iff_not]; omega⟩, depL_E1, filter_ne_len (depL_nodup _ _ _), if_neg hnd]
        · rw [if_neg hc, if_neg (fun e => hc ⟨e.1, e.2.1, by have := e.2.2; simp only [E1, Bool.or_eq_false_iff] at this; exact this.2⟩)]
  · simp only
    rw [hm3, h.wts]
    by_cases hk : k.2.1 = n
    · rw [if_pos hk, if_neg (fun e => by have := e.2.2.2.2; rw [hk] at this; simp [E1] at this)]
    · rw [if_neg hk]
      by_cases hc : 1 ≤ k.1.1 ∧ k.1.1 ≤ m ∧ 1 ≤ k.2.1 ∧ depB rs k.1.1.toNat k.2.1.toNat = true ∧ E k.2.1.toNat = false
      · rw [if_pos hc, if_pos ⟨hc.1, hc.2.1, hc.2.2.1, hc.2.2.2.1, by have h9 := hc.2.2.1; simp only [E1, hc.2.2.2.2, Bool.or_false, decide_eq_false_iff_not]; omega⟩]
      · rw [if_neg hc, if_neg (fun e => hc ⟨e.1, e.2.1, e.2.2.1, e.2.2.2.1, by have := e.2.2.2.2; simp only [E1, Bool.or_eq_false_iff] at this; exact this.2⟩)]
  · simp only [E1, Bool.or_eq_true, decide_eq_true_eq] at hea ⊢
    rcases hea with rfl | hea
    · right
      cases he : E b
      · have : b ∈ depL rs E a := mem_depL.2 ⟨hb, he⟩
        rw [hd] at this; cases this
      · rfl
    · exact Or.inr (h.closed a ha1 ha2 hea b hb)
  · simp only [E1, Bool.or_eq_false_iff, decide_eq_false_iff_not]
    exact ⟨by omega, h.fut j hj⟩
end
end Go.Proofs.YtcjmppjppmiggaaGreat

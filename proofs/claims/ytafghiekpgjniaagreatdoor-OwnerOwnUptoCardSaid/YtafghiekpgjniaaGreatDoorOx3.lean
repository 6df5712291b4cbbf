/- OwnerOwn: Ask, in one post; two asks of one request. -/
import Derived.Test.YtafghiekpgjniaaGreatDoorOx1
namespace Go.Proofs.YtafghiekpgjniaaGreatDoor
open Go.RowKit
set_option linter.unusedVariables false
set_option linter.unusedSimpArgs false

set_option maxRecDepth 100000
def AskU (w : World) (o : OB) (f : Nat) (L : Hs) (q : List Rq) (r : Rq) (e : Ending) (w' : World) : Prop :=
  ∃ (b : Bool) (er : Int) (qz : List Rq), e = .returned (.tuple #[.bool b, .int .i64 er]) ∧ OwAt w' o f L qz ∧ Kept w w' (fun b => b = o.p ∨ b = o.b) ∧ (if mayR r = true ∧ q.length < o.cap then ∃ A' c', qz = q ++ [{ r with A := A', cap := c' }] else qz = q)
theorem oask_u (o : OB) (first : Nat) (L : Hs) (q : List Rq) (r : Rq) (w : World) (h : OwAt w o first L q) (hi : RowAt Icell 1 w w.heap.size r.A r.len r.bs) (hA : r.A = none → r.cap = 0) (hl : r.len ≤ 17592186044416) :
    Calls Tryz.prog 38 #[.pointer (some ⟨o.g, 0, none⟩), r.val] w (AskU w o first L q r) := by
  refine (oask_any o first L q r w h hi hA hl).mono fun e w' he => ?_
  unfold OAskEnd at he
  unfold AskU
  by_cases hm : mayR r = true
  · rw [if_pos hm] at he
    by_cases hr : q.length < o.cap
    · rw [if_pos hr] at he
      obtain ⟨A', c', rfl, hf, ho, k⟩ := he
      exact ⟨_, _, _, rfl, ho, k, by rw [if_pos ⟨hm, hr⟩]; exact ⟨A', c', rfl⟩⟩
    · rw [if_neg hr] at he
      obtain ⟨rfl, hb'⟩ := he
      exact ⟨_, _, q, rfl, h.below hb', Kept.of_below hb', by rw [if_neg (fun h => hr h.2)]⟩
  · rw [if_neg hm] at he
    obtain ⟨rfl, hb'⟩ := he
    exact ⟨_, _, q, rfl, h.below hb', Kept.of_below hb', by rw [if_neg (fun h => hm h.1)]⟩
theorem two_asks {c : Nat} {r : Rq} {q1 q2 : List Rq} (hc : c = 4) (h1 : if mayR r = true ∧ ([] : List Rq).length < c then ∃ A' c', q1 = [] ++ [{ r with A := A', cap := c' }] else q1 = [])
    (h2 : if mayR r = true ∧ q1.length < c then ∃ A' c', q2 = q1 ++ [{ r with A := A', cap := c' }] else q2 = q1) : (K5 q2 ↔ K5 q2.tail) ∧ q2.tail.tail = [] := by
  subst hc
  by_cases hm : mayR r = true
  · rw [if_pos ⟨hm, by simp⟩] at h1
    obtain ⟨A', c', rfl⟩ := h1
    rw [if_pos ⟨hm, by simp⟩] at h2
    obtain ⟨A2, c2, rfl⟩ := h2
    simp [K5]
  · rw [if_neg (fun h => hm h.1)] at h1
    subst h1
    rw [if_neg (fun h => hm h.1)] at h2
    subst h2
    simp [K5]
/-- A row keeps where no block of its own is written: told by place and type. -/
theorem own_keptT {w w' : World} {X : Nat → Prop} {base size n : Nat} {e : TypeId} {v : Value} {xs : List Value} (h : w.ownsRow base e size v n xs) (k : Kept w w' X) (hX : ∀ b cs, base ≤ b → b < w.heap.size → w.heap[b]? = some (.cells cs e (0, 0)) → ¬ X b) : w'.ownsRow base e size v n xs := by
  obtain ⟨h1, h2 | ⟨g, cap, cur, hv, hg, hh, r⟩⟩ := h
  · exact ⟨h1, Or.inl h2⟩
  · exact ⟨h1, Or.inr ⟨g, cap, cur, hv, hg, k.blk hh (blk_lt hh) (hX g cur hg (blk_lt hh) hh), r⟩⟩
theorem hrow_keptT {w w' : World} {X : Nat → Prop} {B : Nat} {v : Value} {hs : List HR} (h : HRow w B v hs) (k : Kept w w' X) (hX : ∀ b cs t, B ≤ b → b < w.heap.size → w.heap[b]? = some (.cells cs t (0, 0)) → t = 132 ∨ t = 140 → ¬ X b) : HRow w' B v hs :=
  ⟨own_keptT h.1 k (fun b cs h1 h2 h3 => hX b cs _ h1 h2 h3 (Or.inl rfl)), fun r hr => ⟨own_keptT (h.2.1 r hr).1 k (fun b cs h1 h2 h3 => hX b cs _ h1 h2 h3 (Or.inr rfl)), (h.2.1 r hr).2⟩, h.2.2⟩
theorem ty_no {w : World} {g : Nat} (hg : ∃ cs, w.heap[g]? = some (.cells cs 44 (0, 0))) {b : Nat} {cs : Array Value} {t : TypeId} (hb : w.heap[b]? = some (.cells cs t (0, 0))) (ht : t = 132 ∨ t = 140 ∨ t = 116) : ¬ TyX w g HdP b := by
  obtain ⟨c, hg⟩ := hg
  rcases ht with rfl | rfl | rfl
  · exact TyX.ne hb (blk_ne2 hb hg (by decide)) (by unfold HdP; decide)
  · exact TyX.ne hb (blk_ne2 hb hg (by decide)) (by unfold HdP; decide)
  · exact TyX.ne hb (blk_ne2 hb hg (by decide)) (by unfold HdP; decide)
theorem hrow_ty {w w' : World} {g B : Nat} {v : Value} {hs : List HR} (h : HRow w B v hs) (k : Kept w w' (TyX w g HdP)) (hg : ∃ cs, w.heap[g]? = some (.cells cs 44 (0, 0))) : HRow w' B v hs :=
  hrow_keptT h k (fun b cs t _ _ h3 h4 => ty_no hg h3 (h4.imp id Or.inl))
theorem owne_ty {w w' : World} {g B : Nat} {v : Value} {es : List (ByteArray × ByteArray)} (h : OwnE w B v es) (k : Kept w w' (TyX w g HdP)) (hg : ∃ cs, w.heap[g]? = some (.cells cs 44 (0, 0))) : OwnE w' B v es :=
  own_keptT h k (fun b cs _ _ h3 => ty_no hg h3 (Or.inr (Or.inr rfl)))
theorem Kept.tyx {a b c : World} {g : Nat} {P : TypeId → Prop} {J : Nat → Prop} (h : Kept a b (TyX a g P)) (k : Kept b c (fun i => J i ∨ TyX b g P i)) : Kept a c (fun i => J i ∨ TyX a g P i) :=
  (h.mono fun i hi => Or.inr hi).trans2 k fun i hi => by
    by_cases hs : i < a.heap.size
    · refine Or.inl ?_
      by_cases hx : TyX a g P i
      · exact Or.inr hx
      · rcases hi with hi | hi | ⟨cs, t, ht, hi⟩
        · exact Or.inl hi
        · exact Or.inr (Or.inl hi)
        · exact Or.inr (Or.inr ⟨cs, t, ht, by rw [← h.block i hs hx]; exact hi⟩)
    · exact Or.inr (by omega)
/-- The lists lie from n on. -/
def Ovr (x : List BkE) (n : Nat) : Prop := ∀ e ∈ x, ∀ a, e.A = some a → n ≤ a.block
theorem und_hr {w : World} {B n c k : Nat} {A : Option Addr} {hs : List HR} (h : HRow w B (.slice A n c) hs) : Und (tellH k hs) w.heap.size ∧ Ovr (tellH k hs) B ∧ (∀ a, A = some a → B ≤ a.block ∧ a.block < w.heap.size) := by
  refine ⟨fun e he a ea => ?_, fun e he a ea => ?_, fun a ea => h.1.lt _ (by rw [ea]; rfl)⟩
  · obtain ⟨r, hr, er⟩ := tellH_mem _ _ _ he
    exact ((h.2.1 r hr).1.lt a.block (by rw [← er, ea]; rfl)).2
  · obtain ⟨r, hr, er⟩ := tellH_mem _ _ _ he
    exact ((h.2.1 r hr).1.lt a.block (by rw [← er, ea]; rfl)).1
theorem BkAtP.tyE {w : World} {g Bo cnt : Nat} {xE xV xH : List BkE} (h : BkAtP w g Bo cnt xE xV xH) {b : Nat} (hb : InE xE b) : ∃ cs, w.heap[b]? = some (.cells cs 116 (0, 0)) := by
  obtain ⟨cs, -, -, -, hh⟩ := h.st
  have hk : KdQ 185 5 (fun w e => P0 mkEntry 2 116 4398046511033 w Bo e) w Bo cs xE := hh.2.2.2.2.2.2.2.2.1
  obtain ⟨-, -, -, -, q3, -⟩ := hk
  obtain ⟨e, he, a, ha, rfl⟩ := hb
  exact (q3 e he).tk.ty ha
theorem BkAtP.tyV {w : World} {g Bo cnt : Nat} {xE xV xH : List BkE} (h : BkAtP w g Bo cnt xE xV xH) {b : Nat} (hb : InE xV b) : ∃ cs, w.heap[b]? = some (.cells cs 140 (0, 0)) := by
  obtain ⟨cs, -, -, -, hh⟩ := h.st
  have hk : KdQ 200 6 (fun w e => P0 mkVersion 3 140 4398046511033 w Bo e) w Bo cs xV := hh.2.2.2.2.2.2.2.2.2.1
  obtain ⟨-, -, -, -, q3, -⟩ := hk
  obtain ⟨e, he, a, ha, rfl⟩ := hb
  exact (q3 e he).tk.ty ha
theorem BkAtP.tyH {w : World} {g Bo cnt : Nat} {xE xV xH : List BkE} (h : BkAtP w g Bo cnt xE xV xH) {b : Nat} (hb : InE xH b) : ∃ cs, w.heap[b]? = some (.cells cs 132 (0, 0)) := by
  obtain ⟨cs, -, -, -, hh⟩ := h.st
  have hk : KdQ 204 8 (fun w e => P0 mkHeld 2 132 3518437208812 w Bo e) w Bo cs xH := hh.2.2.2.2.2.2.2.2.2.2
  obtain ⟨-, -, -, -, q3, -⟩ := hk
  obtain ⟨e, he, a, ha, rfl⟩ := hb
  exact (q3 e he).tk.ty ha
theorem ty_own {w : World} {g n : Nat} (hg : ∃ cs, w.heap[g]? = some (.cells cs 44 (0, 0))) (b : Nat) (h : TyX w g HdP b) : ∃ cs t, w.heap[b]? = some (.cells cs t (0, 0)) ∧ t ≠ 160 ∧ t ≠ 263 ∧ t ≠ 98 ∧ t ≠ 84 ∧ (t = 140 → n ≤ b) := by
  rcases h with rfl | ⟨cs, t, ht, hb⟩
  · obtain ⟨cs, hg⟩ := hg
    exact ⟨cs, _, hg, by decide, by decide, by decide, by decide, fun e => absurd e (by decide)⟩
  · rcases ht with rfl | rfl | rfl
    · exact ⟨cs, _, hb, by decide, by decide, by decide, by decide, fun e => absurd e (by decide)⟩
    · exact ⟨cs, _, hb, by decide, by decide, by decide, by decide, fun e => absurd e (by decide)⟩
    · exact ⟨cs, _, hb, by decide, by decide, by decide, by decide, fun e => absurd e (by decide)⟩
theorem ty_resp {w w' : World} {g b : Nat} {cs : Array Value} (k : Kept w w' (TyX w g HdP)) (hg : ∃ cs, w.heap[g]? = some (.cells cs 44 (0, 0))) (hb : w.heap[b]? = some (.cells cs 105 (0, 0))) : w'.heap[b]? = some (.cells cs 105 (0, 0)) :=
  k.blk hb (blk_lt hb) (by
    obtain ⟨c, hg⟩ := hg
    exact TyX.ne hb (blk_ne2 hb hg (by decide)) (by unfold HdP; decide))
theorem Und.app {x y : List BkE} {n : Nat} (h : Und x n) (k : Und y n) : Und (x ++ y) n := fun e he => by
  rcases List.mem_append.1 he with he | he
  · exact h e he
  · exact k e he
theorem Und.one {A : Option Addr} {l c k n : Nat} (h : ∀ a, A = some a → a.block < n) : Und [⟨A, l, c, k, none, 0, 0⟩] n := fun e he a ea => by
  simp at he; subst he; exact h a ea
theorem Ovr.app {x y : List BkE} {n : Nat} (h : Ovr x n) (k : Ovr y n) : Ovr (x ++ y) n := fun e he => by
  rcases List.mem_append.1 he with he | he
  · exact h e he
  · exact k e he
theorem Ovr.more {x : List BkE} {n m : Nat} (h : Ovr x n) (hm : m ≤ n) : Ovr x m := fun e he a ea => Nat.le_trans hm (h e he a ea)
theorem InE.und {x : List BkE} {n b : Nat} (h : Und x n) (hb : InE x b) : b < n := by
  obtain ⟨e, he, a, ea, rfl⟩ := hb; exact h e he a ea
theorem InE.ovr {x : List BkE} {n b : Nat} (h : Ovr x n) (hb : InE x b) : n ≤ b := by
  obtain ⟨e, he, a, ea, rfl⟩ := hb; exact h e he a ea
theorem InE.app {x y : List BkE} {b : Nat} (h : InE (x ++ y) b) : InE x b ∨ InE y b := by
  obtain ⟨e, he, a, ea, rfl⟩ := h
  rcases List.mem_append.1 he with he | he
  · exact Or.inl ⟨e, he, a, ea, rfl⟩
  · exact Or.inr ⟨e, he, a, ea, rfl⟩
end Go.Proofs.YtafghiekpgjniaaGreatDoor

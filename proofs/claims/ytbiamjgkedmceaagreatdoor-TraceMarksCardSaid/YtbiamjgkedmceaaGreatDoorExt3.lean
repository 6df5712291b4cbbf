/- A region that draws its order: reads, then makers of new memory in any order, then a forced tail. Over any program. -/
import Derived.Test.YtbiamjgkedmceaaGreatDoorExt2
namespace Go.Proofs.YtbiamjgkedmceaaGreatDoor
open Go.RowKit
set_option linter.unusedVariables false
set_option linter.unusedSimpArgs false

/-- The operation makes memory only: a value with a property that growth keeps. -/
def Makes (P : Program) (o : Oper) (a : Act) (R : Value → World → Prop) (X : World) : Prop :=
  match (execOp a.eval o).run P X with
  | .ok (.value v) X' => Below X.heap.size X X' ∧ R v X'
  | .ok (.enter f args) X' => X' = X ∧ Calls P f args X fun e X'' => ∃ v, e = .returned v ∧ Below X.heap.size X X'' ∧ R v X''
  | _ => False
section
variable {P : Program} {ops : Array Oper} {Q : Exit → Act → World → Prop} {md : Region.Mode}
theorem Makes.wpOp {o : Oper} {a : Act} {R : Value → World → Prop} {X : World} {i : Nat} {K : Act → World → Prop} (hi : ops[i]? = some o) (hg : o.guard = none) (h : Makes P o a R X)
    (hK : ∀ v X', Below X.heap.size X X' → R v X' → K (a.put o.dst v) X') : wpOp P ops Q i K a X := by
  have hw : Region.wanted o (yielded ops a.tmps) = true := by simp [Region.wanted, hg]
  unfold Go.wpOp
  simp only [hi, hw, if_true]
  refine Or.inl ?_
  unfold Makes at h
  unfold Oper.wp
  cases hr : (execOp a.eval o).run P X with
  | ok n X' =>
    rw [hr] at h
    cases n <;> simp only at h
    case value v => simp only [Oper.upon]; exact hK v X' h.1 h.2
    case enter f args =>
      obtain ⟨rfl, hc⟩ := h
      simp only [Oper.upon]
      refine hc.mono fun e w'' he => ?_
      obtain ⟨v, rfl, hb, hR⟩ := he
      exact hK v w'' hb hR
  | halt x X' => rw [hr] at h; exact h.elim
/-- A slot that the operation does not look at. -/
theorem Makes.put_ {o : Oper} {a : Act} {R : Value → World → Prop} {X : World} {d : Option Tmp} {v : Value} (hs : ∀ cs b, o.op ≠ .select cs b) (hl : ∀ t, d = some t → t ∉ o.looksAt ops) (h : Makes P o a R X) : Makes P o (a.put d v) R X := by
  unfold Makes at *
  rw [execOp_put (ops := ops) o hs a d v hl]
  exact h
end
/-- A maker: its place, its slot, what it makes. -/
structure Mk where
  j : Nat
  d : Tmp
  R : Value → World → Prop
  own : Value → Nat → Prop
/-- What it makes lies in new blocks. -/
def Mk.RF (m : Mk) (X : World) (v : Value) (X' : World) : Prop := m.R v X' ∧ ∀ b, m.own v b → X.heap.size ≤ b ∧ b < X'.heap.size
/-- What was made so far: each in blocks of its own. -/
def MkInv (w : World) (L : List Mk) (vs : Nat → Option Value) (X : World) : Prop :=
  (∀ m ∈ L, ∀ v, vs m.j = some v → m.R v X ∧ ∀ b, m.own v b → w.heap.size ≤ b ∧ b < X.heap.size) ∧
  ∀ m ∈ L, ∀ m' ∈ L, m.j ≠ m'.j → ∀ v v', vs m.j = some v → vs m'.j = some v' → ∀ b, m.own v b → ¬ m'.own v' b
def puts (vs : Nat → Option Value) : List Mk → Act → Act
  | [], a => a
  | m :: r, a => puts vs r (match vs m.j with | some v => a.put (some m.d) v | none => a)
def upd (vs : Nat → Option Value) (j : Nat) (v : Value) : Nat → Option Value := fun i => if i = j then some v else vs i
theorem puts_same {vs vs' : Nat → Option Value} : ∀ {L : List Mk} {a : Act}, (∀ m ∈ L, vs m.j = vs' m.j) → puts vs L a = puts vs' L a
  | [], _, _ => rfl
  | m :: r, a, h => by
    simp only [puts]
    rw [h m (by simp), puts_same (fun m' hm => h m' (List.mem_cons_of_mem _ hm))]
theorem puts_put {vs : Nat → Option Value} {d : Tmp} {v : Value} : ∀ {L : List Mk} {a : Act}, (∀ m ∈ L, m.d ≠ d) → (puts vs L a).put (some d) v = puts vs L (a.put (some d) v)
  | [], _, _ => rfl
  | m :: r, a, h => by
    simp only [puts]
    rw [puts_put (fun m' hm => h m' (List.mem_cons_of_mem _ hm))]
    cases vs m.j with
    | none => rfl
    | some u =>
      simp only
      rw [Act.put_comm a u v (by intro t h1 h2; injection h1 with h1; injection h2 with h2; exact h m (by simp) (by rw [h1, h2]))]
theorem puts_upd {vs : Nat → Option Value} {v : Value} {m : Mk} : ∀ {L : List Mk} {a : Act}, (L.map Mk.j).Nodup → (L.map Mk.d).Nodup → m ∈ L → vs m.j = none → (puts vs L a).put (some m.d) v = puts (upd vs m.j v) L a
  | m0 :: r, a, hj, hd, hm, hv => by
    simp only [List.map_cons, List.nodup_cons] at hj hd
    simp only [puts]
    by_cases e : m0.j = m.j
    · have hmm : m0 = m := by
        rcases List.mem_cons.1 hm with h | h
        · exact h.symm
        · exact absurd (List.mem_map.2 ⟨m, h, e.symm⟩) hj.1
      subst hmm
      rw [hv]
      simp only [upd, if_true]
      rw [puts_put (fun m' hm' e2 => hd.1 (List.mem_map.2 ⟨m', hm', e2⟩))]
      refine puts_same fun m' hm' => ?_
      have : m'.j ≠ m0.j := fun e2 => hj.1 (List.mem_map.2 ⟨m', hm', e2⟩)
      simp [upd, this]
    · have hm' : m ∈ r := by
        rcases List.mem_cons.1 hm with h | h
        · exact absurd (by rw [h]) e
        · exact h
      rw [puts_upd hj.2 hd.2 hm' hv]
      simp [upd, e]
theorem Makes.puts_ {P : Program} {ops : Array Oper} {o : Oper} {R : Value → World → Prop} {X : World} {vs : Nat → Option Value} (hs : ∀ cs b, o.op ≠ .select cs b) : ∀ {L : List Mk} {a : Act}, (∀ m ∈ L, m.d ∉ o.looksAt ops) → Makes P o a R X → Makes P o (puts vs L a) R X
  | [], _, _, h => h
  | m :: r, a, hl, h => by
    simp only [puts]
    refine Makes.puts_ hs (fun m' hm => hl m' (List.mem_cons_of_mem _ hm)) ?_
    cases vs m.j with
    | none => exact h
    | some v => exact h.put_ hs (fun t e => by injection e with e; rw [← e]; exact hl m (by simp))
def lst (vs : Nat → Option Value) : List Mk → Array Bool → Array Bool
  | [], l => l
  | m :: r, l => lst vs r (if (vs m.j).isSome then l.setIfInBounds m.j true else l)
theorem lst_same {vs vs' : Nat → Option Value} : ∀ {L : List Mk} {l : Array Bool}, (∀ m ∈ L, (vs m.j).isSome = (vs' m.j).isSome) → lst vs L l = lst vs' L l
  | [], _, _ => rfl
  | m :: r, l, h => by
    simp only [lst]
    rw [h m (by simp), lst_same (fun m' hm => h m' (List.mem_cons_of_mem _ hm))]
theorem lst_put {vs : Nat → Option Value} {j : Nat} : ∀ {L : List Mk} {l : Array Bool}, (∀ m ∈ L, m.j ≠ j) → (lst vs L l).setIfInBounds j true = lst vs L (l.setIfInBounds j true)
  | [], _, _ => rfl
  | m :: r, l, h => by
    simp only [lst]
    rw [lst_put (fun m' hm => h m' (List.mem_cons_of_mem _ hm))]
    split
    · rw [Array.setIfInBounds_comm _ _ (h m (by simp))]
    · rfl
theorem lst_upd {vs : Nat → Option Value} {v : Value} {m : Mk} : ∀ {L : List Mk} {l : Array Bool}, (L.map Mk.j).Nodup → m ∈ L → vs m.j = none → (lst vs L l).setIfInBounds m.j true = lst (upd vs m.j v) L l
  | m0 :: r, l, hj, hm, hv => by
    simp only [List.map_cons, List.nodup_cons] at hj
    simp only [lst]
    by_cases e : m0.j = m.j
    · rw [e, hv]
      simp only [upd, if_true, Option.isSome_none, Option.isSome_some, Bool.false_eq_true, if_false]
      rw [lst_put (fun m' hm' e2 => hj.1 (List.mem_map.2 ⟨m', hm', by rw [e2, e]⟩))]
      refine lst_same fun m' hm' => ?_
      have : m'.j ≠ m.j := fun e2 => hj.1 (List.mem_map.2 ⟨m', hm', by rw [e2, e]⟩)
      show (vs m'.j).isSome = (if m'.j = m.j then some v else vs m'.j).isSome
      rw [if_neg this]
    · have hm' : m ∈ r := by
        rcases List.mem_cons.1 hm with h | h
        · exact absurd (by rw [h]) e
        · exact h
      rw [lst_upd (v := v) hj.2 hm' hv]
      simp [upd, e]
theorem nodup_j : ∀ {L : List Mk}, (L.map Mk.j).Nodup → ∀ {m m' : Mk}, m ∈ L → m' ∈ L → m.j = m'.j → m = m'
  | m0 :: r, h, m, m', h1, h2, e => by
    simp only [List.map_cons, List.nodup_cons] at h
    rcases List.mem_cons.1 h1 with e1 | h3
    · rcases List.mem_cons.1 h2 with e2 | h4
      · rw [e1, e2]
      · exact absurd (List.mem_map.2 ⟨m', h4, by rw [← e, e1]⟩) h.1
    · rcases List.mem_cons.1 h2 with e2 | h4
      · exact absurd (List.mem_map.2 ⟨m, h3, by rw [e, e2]⟩) h.1
      · exact nodup_j h.2 h3 h4 e
theorem filter_upd {vs : Nat → Option Value} {v : Value} {m : Mk} : ∀ {L : List Mk}, (L.map Mk.j).Nodup → m ∈ L → vs m.j = none → (L.filter fun m' => (vs m'.j).isNone).length = (L.filter fun m' => (upd vs m.j v m'.j).isNone).length + 1
  | m0 :: r, hj, hm, hv => by
    simp only [List.map_cons, List.nodup_cons] at hj
    by_cases e : m0.j = m.j
    · have h1 : (vs m0.j).isNone = true := by rw [e, hv]; rfl
      have h2 : (upd vs m.j v m0.j).isNone = false := by simp [upd, e]
      have h3 : (r.filter fun m' => (upd vs m.j v m'.j).isNone) = r.filter fun m' => (vs m'.j).isNone := by
        refine List.filter_congr fun m' hm' => ?_
        have : m'.j ≠ m.j := fun e2 => hj.1 (List.mem_map.2 ⟨m', hm', by rw [e2, e]⟩)
        simp [upd, this]
      rw [List.filter_cons, if_pos h1, List.filter_cons, if_neg (by rw [h2]; exact Bool.false_ne_true), h3, List.length_cons]
    · have hm' : m ∈ r := by
        rcases List.mem_cons.1 hm with h | h
        · exact absurd (by rw [h]) e
        · exact h
      have ih := filter_upd (v := v) hj.2 hm' hv
      have h2 : (upd vs m.j v m0.j).isNone = (vs m0.j).isNone := by simp [upd, e]
      rw [List.filter_cons, List.filter_cons, h2]
      split
      · rw [List.length_cons, List.length_cons, ih]
      · exact ih
section
variable {P : Program} {ops : Array Oper} {Q : Exit → Act → World → Prop} {md : Region.Mode} {S : World → Prop} {z g : Nat}
theorem Z_makers {w : World} {L : List Mk} {base : Array Bool} {a0 : Act} (hj : (L.map Mk.j).Nodup) (hd : (L.map Mk.d).Nodup)
    (hop : ∀ m ∈ L, ∃ o, ops[m.j]? = some o ∧ o.guard = none ∧ o.dst = some m.d ∧ (∀ cs b, o.op ≠ .select cs b) ∧ (∀ m' ∈ L, m'.d ∉ o.looksAt ops) ∧ ∀ X, Below w.heap.size w X → Makes P o a0 (m.RF X) X)
    (hgrow : ∀ m ∈ L, ∀ v X X', m.R v X → Below X.heap.size X X' → m.R v X') (hS : ∀ X, Below w.heap.size w X → S X)
    (hready : ∀ vs : Nat → Option Value, (∃ m ∈ L, vs m.j = none) → Region.ready md ops (lst vs L base) ≠ [] ∧ ∀ i ∈ Region.ready md ops (lst vs L base), ∃ m ∈ L, m.j = i ∧ vs m.j = none)
    (hend : ∀ (v : Nat → Value) (X : World), Below w.heap.size w X → MkInv w L (fun j => some (v j)) X → wpAnyZ P md ops Q S z g (lst (fun j => some (v j)) L base) (puts (fun j => some (v j)) L a0) X) :
    ∀ (k : Nat) (vs : Nat → Option Value) (X : World), (L.filter fun m => (vs m.j).isNone).length = k → Below w.heap.size w X → MkInv w L vs X → wpAnyZ P md ops Q S z (k + g) (lst vs L base) (puts vs L a0) X
  | 0, vs, X, hk, hX, hR => by
    have hall : ∀ m ∈ L, ∃ v, vs m.j = some v := fun m hm => by
      have h0 := List.eq_nil_of_length_eq_zero hk
      cases hv : vs m.j with
      | some v => exact ⟨v, rfl⟩
      | none => exact absurd (List.mem_filter.2 ⟨hm, show (vs m.j).isNone = true by rw [hv]; rfl⟩) (by rw [h0]; exact List.not_mem_nil)
    have e : ∀ m ∈ L, vs m.j = some ((vs m.j).getD undef) := fun m hm => by obtain ⟨v, hv⟩ := hall m hm; rw [hv]; rfl
    rw [Nat.zero_add, puts_same (vs' := fun j => some ((vs j).getD undef)) e, lst_same (vs' := fun j => some ((vs j).getD undef)) (fun m hm => by rw [e m hm]; rfl)]
    refine hend (fun j => (vs j).getD undef) X hX ⟨fun m hm v hv => ?_, fun m hm m' hm' hj v v' hv hv' => ?_⟩
    · injection hv with hv; exact hR.1 m hm v (by rw [e m hm, hv])
    · injection hv with hv; injection hv' with hv'; exact hR.2 m hm m' hm' hj v v' (by rw [e m hm, hv]) (by rw [e m' hm', hv'])
  | k + 1, vs, X, hk, hX, hR => by
    have hex : ∃ m ∈ L, vs m.j = none := by
      obtain ⟨m, hm⟩ := List.exists_mem_of_length_pos (l := L.filter fun m => (vs m.j).isNone) (by omega)
      rw [List.mem_filter] at hm
      exact ⟨m, hm.1, by simpa using hm.2⟩
    obtain ⟨h1, h2⟩ := hready vs hex
    rw [show k + 1 + g = (k + g) + 1 by omega]
    refine ⟨fun h => absurd h h1, fun i hi => ?_⟩
    obtain ⟨m, hm, rfl, hv⟩ := h2 i hi
    obtain ⟨o, ho, hg, hdst, hsel, hl, hM⟩ := hop m hm
    refine Makes.wpOp ho hg (Makes.puts_ hsel hl (hM X hX)) fun v X' hb hRv => ⟨fun _ => hS _ (hX.trans (hb.mono hX.size)), ?_⟩
    rw [hdst, puts_upd hj hd hm hv, lst_upd (v := v) hj hm hv]
    have hold : ∀ m' : Mk, m' ∈ L → m'.j ≠ m.j → ∀ u, upd vs m.j v m'.j = some u → vs m'.j = some u := fun m' _ hne u hu => by simpa [upd, hne] using hu
    have hnew : ∀ u, upd vs m.j v m.j = some u → u = v := fun u hu => by simpa [upd] using hu.symm
    refine Z_makers hj hd hop hgrow hS hready hend k (upd vs m.j v) X' ?_ (hX.trans (hb.mono hX.size)) ⟨fun m' hm' u hu => ?_, fun m1 hm1 m2 hm2 hne u u' hu hu' b hb1 hb2 => ?_⟩
    · have hp := filter_upd (v := v) hj hm hv
      omega
    · by_cases e : m'.j = m.j
      · obtain rfl := nodup_j hj hm' hm e
        obtain rfl := hnew u hu
        exact ⟨hRv.1, fun b hb2 => ⟨Nat.le_trans hX.size (hRv.2 b hb2).1, (hRv.2 b hb2).2⟩⟩
      · obtain ⟨g1, g2⟩ := hR.1 m' hm' u (hold m' hm' e u hu)
        exact ⟨hgrow m' hm' u X X' g1 hb, fun b hb2 => ⟨(g2 b hb2).1, Nat.lt_of_lt_of_le (g2 b hb2).2 hb.size⟩⟩
    · by_cases e1 : m1.j = m.j
      · obtain rfl := nodup_j hj hm1 hm e1
        obtain rfl := hnew u hu
        have g := (hR.1 m2 hm2 u' (hold m2 hm2 (fun e => hne e.symm) u' hu')).2 b hb2
        have := (hRv.2 b hb1).1
        omega
      · by_cases e2 : m2.j = m.j
        · obtain rfl := nodup_j hj hm2 hm e2
          obtain rfl := hnew u' hu'
          have g := (hR.1 m1 hm1 u (hold m1 hm1 e1 u hu)).2 b hb1
          have := (hRv.2 b hb2).1
          omega
        · exact hR.2 m1 hm1 m2 hm2 hne u u' (hold m1 hm1 e1 u hu) (hold m2 hm2 e2 u' hu') b hb1 hb2
/-- Reads, wherever they stand, are taken first. -/
def lexHeadI (md : Region.Mode) (ops : Array Oper) : List Nat → Array Bool → Bool
  | [], _ => true
  | k :: ks, listed => (Region.ready md ops listed).contains k && Region.free md ops listed k && lexHeadI md ops ks (listed.setIfInBounds k true)
def setI : List Nat → Array Bool → Array Bool
  | [], l => l
  | k :: ks, l => setI ks (l.setIfInBounds k true)
theorem Z_lexI {R : Act → Prop} {w : World} (hS : S w) (hsel : Region.noSelect ops = true) (hs : Region.sinkB md ops z = true) (hc : Region.chainB md ops z = true) (hzl : z + 1 = ops.size) (hQ : ∀ c a d v w, Q (.panic c) (a.put d v) w → Q (.panic c) a w) :
    ∀ (ks : List Nat) (lo : List Oper) (listed : Array Bool) (a : Act), ks.map (fun k => ops[k]?) = lo.map some → (∀ k ∈ ks, k < z) → lo.all (fun o => rdB o.op) = true → HeadInv md ops z listed → lexHeadI md ops ks listed = true →
      (∀ b, R b → wpAnyZ P md ops Q S z g (setI ks listed) b w) → wpQuiet P ops S R lo a → wpAnyZ P md ops Q S z (ks.length + g) listed a w
  | [], lo, listed, a, hl, _, _, _, _, hR, h => by
    obtain rfl : lo = [] := by cases lo with | nil => rfl | cons o r => simp at hl
    rw [List.length_nil, Nat.zero_add]
    exact hR a h
  | k :: ks, [], listed, a, hl, _, _, _, _, _, _ => by simp at hl
  | k :: ks, o :: lo, listed, a, hl, hkz, hrd, inv, hB, hR, h => by
    simp only [List.map_cons, List.cons.injEq] at hl
    simp only [lexHeadI, Bool.and_eq_true] at hB
    simp only [List.all_cons, Bool.and_eq_true] at hrd
    have hr : k ∈ Region.ready md ops listed := by simpa using hB.1.1
    have hkz' := hkz k (by simp)
    obtain ⟨v, hy, hK⟩ := yieldsIn_of_qOp (C := S) hl.1 (show qOp P ops S k (wpQuiet P ops S R lo) a by unfold qOp; simp only [hl.1]; exact h)
    have := Z_first (P := P) (Q := Q) hl.1 hkz' hs hc (by omega) hzl (Region.noSelect_spec hsel) (fun c a w => hQ c a o.dst v w) (ks.length + g) listed a w inv (Region.free_spec hl.1 hB.1.2) hr (YieldsIn.toIf hrd.1 hy) hS
      (Z_lexI hS hsel hs hc hzl hQ ks lo _ _ hl.2 (fun k' hk' => hkz k' (List.mem_cons_of_mem _ hk')) hrd.2 (inv.set hr hkz') hB.2 hR hK)
    rwa [show (k :: ks).length + g = ks.length + g + 1 by simp; omega]
end
def lstB : List Nat → List Bool → Array Bool → Array Bool
  | j :: js, b :: bs, l => lstB js bs (if b then l.setIfInBounds j true else l)
  | _, _, l => l
theorem lst_B {vs : Nat → Option Value} : ∀ {L : List Mk} {l : Array Bool}, lst vs L l = lstB (L.map Mk.j) (L.map fun m => (vs m.j).isSome) l
  | [], _ => rfl
  | m :: r, l => by simp only [lst, List.map_cons, lstB]; rw [lst_B]
def allBools (p : List Bool → Bool) : Nat → Bool
  | 0 => p []
  | n + 1 => allBools (fun r => p (true :: r)) n && allBools (fun r => p (false :: r)) n
theorem allBools_spec : ∀ {n : Nat} {p : List Bool → Bool}, allBools p n = true → ∀ bs : List Bool, bs.length = n → p bs = true
  | 0, p, h, bs, hb => by
    obtain rfl := List.eq_nil_of_length_eq_zero hb
    exact h
  | n + 1, p, h, [], hb => by simp at hb
  | n + 1, p, h, b :: bs, hb => by
    simp only [allBools, Bool.and_eq_true] at h
    cases b
    · exact allBools_spec (p := fun r => p (false :: r)) h.2 bs (by simpa using hb)
    · exact allBools_spec (p := fun r => p (true :: r)) h.1 bs (by simpa using hb)
def readyB (md : Region.Mode) (ops : Array Oper) (js : List Nat) (base : Array Bool) (bs : List Bool) : Bool :=
  bs.all id || (!(Region.ready md ops (lstB js bs base)).isEmpty && (Region.ready md ops (lstB js bs base)).all fun i => (js.zip bs).any fun p => p.1 == i && !p.2)
theorem zip_selfE {α : Type} : ∀ (L : List α), L.zip L = L.map fun x => (x, x)
  | [] => rfl
  | a :: r => by rw [List.zip_cons_cons, List.map_cons, zip_selfE r]
theorem ready_of {md : Region.Mode} {ops : Array Oper} {L : List Mk} {base : Array Bool} (h : allBools (readyB md ops (L.map Mk.j) base) L.length = true) (vs : Nat → Option Value) (hex : ∃ m ∈ L, vs m.j = none) :
    Region.ready md ops (lst vs L base) ≠ [] ∧ ∀ i ∈ Region.ready md ops (lst vs L base), ∃ m ∈ L, m.j = i ∧ vs m.j = none := by
  have h1 := allBools_spec h (L.map fun m => (vs m.j).isSome) (by simp)
  rw [lst_B]
  simp only [readyB, Bool.or_eq_true, Bool.and_eq_true, Bool.not_eq_true', List.isEmpty_eq_false_iff] at h1
  rcases h1 with h1 | ⟨h1, h2⟩
  · obtain ⟨m, hm, hv⟩ := hex
    have := List.all_eq_true.1 h1 _ (List.mem_map.2 ⟨m, hm, rfl⟩)
    simp [hv] at this
  · refine ⟨h1, fun i hi => ?_⟩
    obtain ⟨p, hp, hp2⟩ := List.any_eq_true.1 (List.all_eq_true.1 h2 i hi)
    simp only [Bool.and_eq_true, beq_iff_eq, Bool.not_eq_true'] at hp2
    rw [List.zip_map, List.mem_map] at hp
    obtain ⟨q, hq, rfl⟩ := hp
    have hqq : q.1 = q.2 ∧ q.1 ∈ L := by
      rw [zip_selfE, List.mem_map] at hq
      obtain ⟨x, hx, rfl⟩ := hq
      exact ⟨rfl, hx⟩
    refine ⟨q.1, hqq.2, hp2.1, ?_⟩
    have h3 := hp2.2
    simp only [Prod.map] at h3
    rw [← hqq.1] at h3
    simpa using h3
theorem lst_all {v : Nat → Value} : ∀ {L : List Mk} {l : Array Bool}, lst (fun j => some (v j)) L l = setI (L.map Mk.j) l
  | [], _ => rfl
  | m :: r, l => by simp only [lst, List.map_cons, setI, Option.isSome_some, if_true]; rw [lst_all]
theorem lst_none : ∀ (L : List Mk) (l : Array Bool), lst (fun _ => none) L l = l
  | [], _ => rfl
  | m :: r, l => by simp only [lst, Option.isSome_none, Bool.false_eq_true, if_false]; exact lst_none r l
theorem puts_none : ∀ (L : List Mk) (a : Act), puts (fun _ => none) L a = a
  | [], _ => rfl
  | m :: r, a => by simp only [puts]; exact puts_none r a
theorem setI_inv {md : Region.Mode} {ops : Array Oper} {z : Nat} : ∀ (ks : List Nat) (l : Array Bool), (∀ k ∈ ks, k < z) → HeadInv md ops z l → lexHeadI md ops ks l = true → HeadInv md ops z (setI ks l)
  | [], _, _, h, _ => h
  | k :: ks, l, hk, h, hB => by
    simp only [lexHeadI, Bool.and_eq_true] at hB
    exact setI_inv ks _ (fun k' h' => hk k' (List.mem_cons_of_mem _ h')) (h.set (by simpa using hB.1.1) (hk k (by simp))) hB.2
def mkB (l : List Oper) (ks : List Nat) (ms : List (Nat × Tmp)) (n : Nat) : Bool :=
  (Region.noSelect l.toArray && decide (n < l.length ∧ l.length = ks.length + (ms.length + (l.length - n))) && Region.sinkB .any l.toArray (l.length - 1) && Region.chainB .any l.toArray (l.length - 1) && ks.all (fun k => decide (k < l.length - 1)) && lexHeadI .any l.toArray ks (Array.replicate l.length false)) &&
  (decide ((ms.map (·.1)).Nodup) && decide ((ms.map (·.2)).Nodup) && ms.all (fun m => match l[m.1]? with | some o => o.guard.isNone && o.dst == some m.2 && ms.all (fun m' => !(o.looksAt l.toArray).contains m'.2) | none => false) &&
    allBools (readyB .any l.toArray (ms.map (·.1)) (setI ks (Array.replicate l.length false))) ms.length && Region.seqB .any l.toArray (l.length - n) n (setI (ms.map (·.1)) (setI ks (Array.replicate l.length false))))
/-- Reads (ks), makers (L) in any order, a forced tail from n on. -/
theorem wp_region_makers {P : Program} {id : Nat} {Q : Exit → Act → World → Prop} {a : Act} {w : World} {l : List Oper} (ks : List Nat) (lo : List Oper) (L : List Mk) (n : Nat) (hm : P.follows .mixedOrders = true)
    (hlo : ks.map (fun k => l.toArray[k]?) = lo.map some) (hrd : lo.all (fun o => rdB o.op) = true) (hB : mkB l ks (L.map fun m => (m.j, m.d)) n = true) (hQ : ∀ c a d v w, Q (.panic c) (a.put d v) w → Q (.panic c) a w)
    (hgrow : ∀ m ∈ L, ∀ v X X', m.R v X → Below X.heap.size X X' → m.R v X')
    (h : wpQuiet P l.toArray (fun w' => ∃ m : Ext w, w' = m.X) (fun b => (∀ m ∈ L, ∀ o, l[m.j]? = some o → ∀ X, Below w.heap.size w X → Makes P o b (m.RF X) X) ∧
      ∀ (v : Nat → Value) (X : World), Below w.heap.size w X → MkInv w L (fun j => some (v j)) X → tailC P l.toArray Q (fun w' => ∃ m : Ext w, w' = m.X) (l.drop n) (puts (fun j => some (v j)) L b) X) lo a) : (Code.region id l.toArray true).wp P Q a w := by
  simp only [mkB, Bool.and_eq_true, decide_eq_true_eq, List.map_map] at hB
  obtain ⟨⟨⟨⟨⟨⟨hsel, hn, hn2⟩, hs⟩, hc⟩, hkz⟩, hx⟩, ⟨⟨⟨hj, hd⟩, hms⟩, hrb⟩, hsq⟩ := hB
  have hj' : (L.map Mk.j).Nodup := hj
  have hd' : (L.map Mk.d).Nodup := hd
  have hdl : (l.drop n).length = l.length - n := by simp
  have hzs : l.length - 1 + 1 = l.toArray.size := by simp; omega
  have hkz' : ∀ k ∈ ks, k < l.length - 1 := fun k hk => by simpa using List.all_eq_true.1 hkz k hk
  have inv0 : HeadInv .any l.toArray (l.length - 1) (Array.replicate l.length false) := ⟨by simp, fun j q _ hl => (by rw [getD_replicate_false] at hl; cases hl), fun t _ h2 => getD_in (by simpa using h2) (getD_replicate_false _ _)⟩
  refine wp_region_any hm (wpAny_of_Z _ _ _ _ (z := l.length - 1) (S := fun w' => ∃ m : Ext w, w' = m.X) ?_)
  have hlen : l.toArray.size = ks.length + (L.length + (l.length - n)) := by rw [List.length_map] at hn2; simpa using hn2
  rw [hlen, show Array.replicate (ks.length + (L.length + (l.length - n))) false = Array.replicate l.length false by rw [← hlen]; simp]
  refine Z_lexI (S := fun w' => ∃ m : Ext w, w' = m.X) ⟨⟨_, (Below.refl _ w).drew⟩, rfl⟩ hsel hs hc hzs hQ ks lo _ a hlo hkz' hrd inv0 hx (fun b hb => ?_) h
  obtain ⟨hM, hT⟩ := hb
  have hmk := Z_makers (P := P) (Q := Q) (md := .any) (ops := l.toArray) (S := fun w' => ∃ m : Ext w, w' = m.X) (z := l.length - 1) (g := l.length - n) (w := w) (L := L) (base := setI ks (Array.replicate l.length false)) (a0 := b) hj' hd'
    (fun m hmL => by
      have := List.all_eq_true.1 hms (m.j, m.d) (List.mem_map.2 ⟨m, hmL, rfl⟩)
      simp only at this
      split at this
      · rename_i o ho
        simp only [Bool.and_eq_true, Option.isNone_iff_eq_none, beq_iff_eq] at this
        refine ⟨o, by simpa using ho, this.1.1, this.1.2, fun cs b => Region.noSelect_spec hsel m.j o cs b (by simpa using ho), fun m' hm' => ?_, hM m hmL o ho⟩
        have h3 := List.all_eq_true.1 this.2 (m'.j, m'.d) (List.mem_map.2 ⟨m', hm', rfl⟩)
        simpa using h3
      · cases this)
    hgrow (fun X hX => ⟨⟨X, hX⟩, rfl⟩) (ready_of (by have h9 := hrb; rw [List.length_map] at h9; exact h9))
    (fun v X hX hR => by
      rw [lst_all]
      have h3 := Z_seq (P := P) (Q := Q) (md := .any) (ops := l.toArray) (S := fun w' => ∃ m : Ext w, w' = m.X) (z := l.length - 1) (l.drop n) n (setI (L.map Mk.j) (setI ks (Array.replicate l.length false))) _ X (fun j => by simp [List.getElem?_drop]) (by rw [hdl]; omega) (by rw [hdl]; exact hsq) (hT v X hX hR)
      rwa [hdl] at h3)
    L.length (fun _ => none) w.drew (by simp) (Below.refl _ w).drew ⟨fun m _ v e => by (cases e), fun m _ m' _ _ v v' e => by (cases e)⟩
  have e1 : lst (fun _ => none) L (setI ks (Array.replicate l.length false)) = setI ks (Array.replicate l.length false) := lst_none _ _
  have e2 : puts (fun _ => none) L b = b := puts_none _ _
  rw [e1, e2] at hmk
  exact hmk
end Go.Proofs.YtbiamjgkedmceaaGreatDoor

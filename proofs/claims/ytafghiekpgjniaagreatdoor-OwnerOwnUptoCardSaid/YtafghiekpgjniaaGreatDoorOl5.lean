/- OwnerQuiet: plain laws: what is served twice. -/
import Derived.Test.YtafghiekpgjniaaGreatDoorOl2
import Derived.Test.YtafghiekpgjniaaGreatDoorOl0
import Derived.Test.YtafghiekpgjniaaGreatDoorSl1
namespace Go.Proofs.YtafghiekpgjniaaGreatDoor
open Go.RowKit
set_option linter.unusedVariables false
set_option linter.unusedSimpArgs false

set_option maxRecDepth 100000
theorem collV_idem {l : List Ver} (h : Asc l) (m : Int) : collV (collV l m) m = collV l m := by
  have h1 := low_collV h m
  show (collV l m).drop (upto (collV l m) m - 1) = _
  rw [show upto (collV l m) m - 1 = 0 by omega, List.drop_zero]
theorem collH_idem {L : Hs} (ok : HsOk L) (m : Int) : collH (collH L m) m = collH L m := by
  unfold collH
  rw [List.map_map]
  apply List.map_congr_left
  intro p hp
  simp only [Function.comp]
  rw [collV_idem (chkB_iff.1 (ok.chk p hp)).2]
theorem newP_inst (L : Hs) (p : Part) : newP (instH L p) p = false := by
  unfold instH
  by_cases h : newP L p = true
  · rw [if_pos h]
    show (okP p && !hasV (hget (hput L p.w.key (putV (hget L p.w.key) p.ver)) p.w.key) p.num) = false
    rw [hget_hput, if_pos rfl]
    have h1 : hasV (putV (hget L p.w.key) p.ver) p.num = true := hasV_iff.2 ⟨p.ver, mem_putV.2 (Or.inl rfl), rfl⟩
    rw [h1]
    simp
  · rw [if_neg h]; simpa using h
theorem inst_inst (L : Hs) (p : Part) : instH (instH L p) p = instH L p := by
  have h := newP_inst L p
  generalize instH L p = M at *
  unfold instH
  rw [if_neg (by rw [h]; exact Bool.false_ne_true)]
def repE (L : Hs) (r : Rq) : List (ByteArray × ByteArray) :=
  if r.kind = 2 then (if (getV (hget L r.key) r.num).2 = true then [(r.key, (getV (hget L r.key) r.num).1)] else []) else if r.kind = 3 then scanH L r.key r.fin r.num else []
def repH (L : Hs) (r : Rq) : Hs := if r.kind = 5 then dumpH L r.num r.bs else []
def repO (L : Hs) (r : Rq) : Bool := if r.kind = 2 then (getV (hget L r.key) r.num).2 else true
section
variable {w w' : World} {L L' : Hs} {r : Rq} {cs : Array Value}
theorem RepR.rows (h : RepR w L r L' cs w') (hk : r.kind = 2 ∨ r.kind = 3 ∨ r.kind = 5) : L' = L ∧ ∃ A1 n1 c1 A2 n2 c2 hs, cs = #[.int .i64 r.from_, .bool (repO L r), .slice A1 n1 c1, .slice A2 n2 c2, .int .i64 0] ∧
    OwnE w' w.heap.size (.slice A1 n1 c1) (repE L r) ∧ HRow w' w.heap.size (.slice A2 n2 c2) hs ∧ plainR hs = repH L r := by
  rcases hk with hk | hk | hk
  · obtain ⟨e, v, rfl, hv⟩ := h.k2 hk
    obtain ⟨A1, n1, c1, rfl⟩ := slice_of_get hv
    refine ⟨e, A1, n1, c1, none, 0, 0, [], by simp [repO, hk], ?_, HRow.nil _ _, by simp [repH, hk, plainR]⟩
    unfold repE
    rw [if_pos hk]
    cases hc : (getV (hget L r.key) r.num).2
    · rw [hc] at hv
      simp only [Bool.false_eq_true, if_false] at hv ⊢
      rw [hv]
      exact World.ownsRow_nil _ _ _ _
    · rw [hc] at hv
      simpa using hv
  · obtain ⟨e, v, rfl, hv⟩ := h.k3 hk
    obtain ⟨A1, n1, c1, rfl⟩ := slice_of_own hv
    refine ⟨e, A1, n1, c1, none, 0, 0, [], by simp [repO, hk], ?_, HRow.nil _ _, by simp [repH, hk, plainR]⟩
    unfold repE
    rw [if_neg (by omega), if_pos hk]
    exact hv
  · obtain ⟨e, v, hs, rfl, hv, hp⟩ := h.k5 hk
    obtain ⟨A1, n1, c1, rfl⟩ := slice_of_own hv.1
    refine ⟨e, none, 0, 0, A1, n1, c1, hs, by simp [repO, hk], ?_, hv, by simp [repH, hk, hp]⟩
    unfold repE
    rw [if_neg (by omega), if_neg (by omega)]
    exact World.ownsRow_nil _ _ _ _
end
theorem RepR.again {w1 w1' w2 w2' : World} {L L1 L2 : Hs} {r : Rq} {cs1 cs2 : Array Value} (h1 : RepR w1 L r L1 cs1 w1') (h2 : RepR w2 L1 r L2 cs2 w2') (ok : HsOk L) (hm : mayR r = true) : L2 = L1 := by
  rcases mayR_kind hm with hk | hk | hk | hk | hk
  · obtain ⟨rfl, -⟩ := h1.k1 hk
    obtain ⟨rfl, -⟩ := h2.k1 hk
    exact inst_inst _ _
  · exact (h2.k2 hk).1
  · exact (h2.k3 hk).1
  · obtain ⟨rfl, -⟩ := h1.k4 hk
    obtain ⟨rfl, -⟩ := h2.k4 hk
    exact collH_idem ok _
  · exact (h2.k5 hk).1
theorem hr_at {w : World} {B n c : Nat} {A : Option Addr} {hs : List HR} (h : HRow w B (.slice A n c) hs) : HdsAt w w.heap.size A n hs ∧ n = hs.length := by
  obtain ⟨A', c', e, h1, -⟩ := h.hds
  injection e with e1 e2 e3
  subst e1
  exact ⟨by rw [e2]; exact h1, e2⟩
theorem hr_lens {w : World} {B : Nat} {v : Value} {hs : List HR} {M : Hs} (h : HRow w B v hs) (hp : plainR hs = M) (ok : HsOk M) : ∀ x ∈ hs, x.len ≤ 4398046511104 := fun x hx => by
  have h1 := (h.2.1 x hx).2.1
  have h2 : (x.key, x.vs) ∈ M := by rw [← hp]; exact List.mem_map.2 ⟨x, hx, rfl⟩
  have h3 := chkB_len (ok.chk _ h2)
  simp only at h3
  omega
theorem plainR_len (hs : List HR) : (plainR hs).length = hs.length := by simp [plainR]
theorem repH_ok {L : Hs} (ok : HsOk L) (r : Rq) : HsOk (repH L r) := by
  unfold repH
  split
  · exact dumpH_ok ok _ _
  · exact HsOk.nil
theorem scanH_len (L : Hs) (key fin : ByteArray) (m : Int) : (scanH L key fin m).length ≤ L.length := by
  have := (scanH_keys L key fin m).length_le
  simpa using this
theorem repE_len (L : Hs) (r : Rq) : (repE L r).length ≤ L.length + 1 := by
  unfold repE
  split
  · split <;> simp
  · split
    · have := scanH_len L r.key r.fin r.num; omega
    · simp
theorem repH_len (L : Hs) (r : Rq) : (repH L r).length ≤ L.length := by
  unfold repH
  split
  · unfold dumpH pickH
    exact Nat.le_trans (List.length_filter_le _ _) (by simp)
  · simp
theorem sizeb {L : Hs} (h : HsOk L) (hl : L.length ≤ 3518437208883) : sizeH L ≤ 1152921504606846976 := by
  have h1 : ∀ M : Hs, (∀ p ∈ M, p.2.length ≤ 65536) → sizeH M ≤ M.length * 65536 := by
    intro M
    induction M with
    | nil => simp [sizeH]
    | cons p r ih =>
      intro hm
      have h2 := ih (fun q hq => hm q (by simp [hq]))
      have h3 := hm p (by simp)
      simp only [sizeH, List.map_cons, List.sum_cons, List.length_cons] at *
      omega
  have h2 := h1 L (fun p hp => chkB_len (h.chk p hp))
  omega
theorem sizeb2 {L : Hs} (h : HsOk L) (hl : L.length ≤ 3518437208883) : sizeH L ≤ 576460752303423488 := by
  have h1 : ∀ M : Hs, (∀ p ∈ M, p.2.length ≤ 65536) → sizeH M ≤ M.length * 65536 := by
    intro M
    induction M with
    | nil => simp [sizeH]
    | cons p r ih =>
      intro hm
      have h2 := ih (fun q hq => hm q (by simp [hq]))
      have h3 := hm p (by simp)
      simp only [sizeH, List.map_cons, List.sum_cons, List.length_cons] at *
      omega
  have h2 := h1 L (fun p hp => chkB_len (h.chk p hp))
  omega
theorem en_at2 {w : World} {B n c : Nat} {A : Option Addr} {es : List (ByteArray × ByteArray)} (h : OwnE w B (.slice A n c) es) : RowAt EnC 2 w w.heap.size A n es := by
  obtain ⟨A', c', e, hr, -, -⟩ := rowAt_own (len_en _) h
  injection e with e1 e2 e3
  subst e1 e2
  exact hr
end Go.Proofs.YtafghiekpgjniaaGreatDoor

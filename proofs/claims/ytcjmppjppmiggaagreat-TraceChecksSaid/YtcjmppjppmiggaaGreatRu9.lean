/- The document's story at its beginning, at memory; what its Check's makers make. -/
import Derived.Test.YtcjmppjppmiggaaGreatRu7
import Derived.Test.YtcjmppjppmiggaaGreatMC
namespace Go.Proofs.YtcjmppjppmiggaaGreat
open Go.RowKit
set_option linter.unusedVariables false
set_option linter.unusedSimpArgs false

open Go.Maps
set_option maxRecDepth 100000
theorem info_laneR : (Tryz.prog.info? 149).map (fun i => (i.zero, i.size, i.bytes)) = some (some (.agg #[.int .i64 0, .slice none 0 0, .bool false, .int .i64 0, .int .i64 0]), 5, 56) := by kernel_rfl
theorem info_waitS : (Tryz.prog.info? 144).map (fun i => (i.zero, i.size, i.bytes)) = some (some (.slice none 0 0), 1, 24) := by kernel_rfl
def ownPR (v : Value) (b : Nat) : Prop := v = ptrV b
def rTabR (v : Value) (X : World) : Prop := ∃ g, v = ptrV g ∧ X.heap[g]? = some (.cells #[.slice none 0 0] 114 (0, 0))
def mkR (L S : Nat) : List Mk := [⟨6, 43, rTabR, ownPR⟩, ⟨10, 47, rRow L 5 (.agg #[.int .i64 0, .slice none 0 0, .bool false, .int .i64 0, .int .i64 0]) 149, ownS⟩, ⟨13, 50, rRow S 1 (.slice none 0 0) 144, ownS⟩]
theorem mkR_grow (L S : Nat) : ∀ m ∈ mkR L S, ∀ v X X', m.R v X → Below X.heap.size X X' → m.R v X' := by
  intro m hm v X X' hR hb
  simp only [mkR, List.mem_cons, List.not_mem_nil, or_false] at hm
  rcases hm with rfl | rfl | rfl
  · obtain ⟨g, e, hT⟩ := hR; exact ⟨g, e, (hb.block _ (blk_lt hT)).trans hT⟩
  · obtain ⟨g, e, hT⟩ := hR; exact ⟨g, e, (hb.block _ (blk_lt hT)).trans hT⟩
  · obtain ⟨g, e, hT⟩ := hR; exact ⟨g, e, (hb.block _ (blk_lt hT)).trans hT⟩
theorem mk_tabR (X : World) : Calls Tryz.prog 28 #[] X fun e X'' => ∃ v, e = .returned v ∧ Below X.heap.size X X'' ∧ (⟨6, 43, rTabR, ownPR⟩ : Mk).RF X v X'' := by
  refine (r11new_any X).mono ?_
  rintro e X2 ⟨rfl, hT, hB⟩
  refine ⟨_, rfl, hB, ⟨_, rfl, hT.st⟩, ?_⟩
  intro b e
  simp only [ownPR, ptrV, Value.pointer.injEq, Option.some.injEq, Addr.mk.injEq] at e
  have := blk_lt hT.st
  omega
theorem mkR_all {w X : World} {L S : Nat} {v : Nat → Value} (hI : MkInv w (mkR L S) (fun j => some (v j)) X) :
    ∃ (h ln qb : Nat), v 6 = ptrV h ∧ v 10 = .slice (some ⟨ln, 0, none⟩) L L ∧ v 13 = .slice (some ⟨qb, 0, none⟩) S S ∧
      X.heap[h]? = some (.cells #[.slice none 0 0] 114 (0, 0)) ∧ X.heap[ln]? = some (.cells (madeCells (Value.agg #[.int .i64 0, .slice none 0 0, .bool false, .int .i64 0, .int .i64 0]).cells (L * 5)) 149 (0, 0)) ∧
      X.heap[qb]? = some (.cells (madeCells (Value.slice none 0 0).cells (S * 1)) 144 (0, 0)) ∧ (w.heap.size ≤ h ∧ w.heap.size ≤ ln ∧ w.heap.size ≤ qb) ∧ (qb ≠ ln ∧ h ≠ ln ∧ h ≠ qb) := by
  have m6 : (⟨6, 43, rTabR, ownPR⟩ : Mk) ∈ mkR L S := by simp [mkR]
  have m10 : (⟨10, 47, rRow L 5 (.agg #[.int .i64 0, .slice none 0 0, .bool false, .int .i64 0, .int .i64 0]) 149, ownS⟩ : Mk) ∈ mkR L S := by simp [mkR]
  have m13 : (⟨13, 50, rRow S 1 (.slice none 0 0) 144, ownS⟩ : Mk) ∈ mkR L S := by simp [mkR]
  obtain ⟨⟨h, e6, t6⟩, o6⟩ := hI.1 _ m6 _ rfl
  obtain ⟨⟨ln, e10, t10⟩, o10⟩ := hI.1 _ m10 _ rfl
  obtain ⟨⟨qb, e13, t13⟩, o13⟩ := hI.1 _ m13 _ rfl
  have w6 : ownPR (v 6) h := e6
  have w10 : ownS (v 10) ln := ⟨_, _, _, e10, rfl⟩
  have w13 : ownS (v 13) qb := ⟨_, _, _, e13, rfl⟩
  refine ⟨h, ln, qb, e6, e10, e13, t6, t10, t13, ⟨(o6 h w6).1, (o10 ln w10).1, (o13 qb w13).1⟩, ⟨fun e => ?_, fun e => ?_, fun e => ?_⟩⟩
  · exact hI.2 _ m13 _ m10 (by simp) _ _ rfl rfl _ w13 (e ▸ w10)
  · exact hI.2 _ m6 _ m10 (by simp) _ _ rfl rfl _ w6 (e ▸ w10)
  · exact hI.2 _ m6 _ m13 (by simp) _ _ rfl rfl _ w6 (e ▸ w13)
theorem rstory_built (c0 c1 c2 c3 m : Int) (A : Option Addr) (n cp : Nat) (A5 : Option Addr) (n5 c5 : Nat) (tb gt ln qb L S : Nat) :
    Tryz.prog.built 79 [(0, .agg #[.int .i64 c0, .int .i64 c1, .int .i64 c2, .int .i64 c3]), (1, .slice A n cp), (2, .int .i64 m), (4, .slice A5 n5 c5), (5, ptrV tb), (6, ptrV gt), (9, .slice (some ⟨ln, 0, none⟩) L L), (10, .slice (some ⟨qb, 0, none⟩) S S)] =
      some #[.int .i64 c0, .int .i64 c1, .int .i64 c2, .int .i64 c3, .slice A n cp, .int .i64 m, .int .i64 0, .slice A5 n5 c5, ptrV tb, ptrV gt, .slice none 0 0, .slice none 0 0, .slice (some ⟨ln, 0, none⟩) L L, .slice (some ⟨qb, 0, none⟩) S S, .slice none 0 0] := by kernel_rfl
set_option maxHeartbeats 1000000 in
theorem rstory_begins {X : World} {Bo : Nat} {c : Cfg} {rs : List RTx} {by_ : List Int} {M : Nat} {bs : List Nat} {a : RA} {K : SL} (hN : a.N = 0)
    (hlo : Bo ≤ X.heap.size) (hlog : TxsAt X Bo a.A a.n rs)
    (hst : X.heap[a.g]? = some (.cells (rstoryC c a ⟨⟨none, 0, 0⟩, ⟨none, 0, 0⟩, List.replicate c.shards.toNat ⟨none, 0, 0⟩, List.replicate c.lanes.toNat ⟨0, ⟨none, 0, 0⟩, []⟩, ⟨none, 0, 0⟩, [], ⟨none, 0, 0⟩, [], K, 0⟩ (TS.start c M bs)) 79 (0, 0)))
    (hB : RowAt Icell 1 X Bo a.B.A a.B.n by_) (ht : X.heap[a.t]? = some (.cells #[.slice none 0 0] 114 (0, 0))) (hln : X.heap[a.ln]? = some (.cells (madeCells (Value.agg #[.int .i64 0, .slice none 0 0, .bool false, .int .i64 0, .int .i64 0]).cells (c.lanes.toNat * 5)) 149 (0, 0)))
    (hqb : X.heap[a.qb]? = some (.cells (madeCells (Value.slice none 0 0).cells (c.shards.toNat * 1)) 144 (0, 0))) (hgt : RGAt X Bo a.gt K.A K.n K.c ⟨M, bs⟩)
    (h0 : Bo ≤ a.g ∧ Bo ≤ a.ln ∧ Bo ≤ a.qb ∧ Bo ≤ a.gt ∧ Bo ≤ a.t)
    (h1 : a.ln ≠ a.g ∧ a.qb ≠ a.g ∧ a.qb ≠ a.ln ∧ a.gt ≠ a.g ∧ a.gt ≠ a.ln ∧ a.gt ≠ a.qb ∧ a.t ≠ a.g ∧ a.t ≠ a.ln ∧ a.t ≠ a.qb ∧ a.t ≠ a.gt)
    (h3 : ∀ ad, K.A = some ad → ad.block ≠ a.g ∧ ad.block ≠ a.ln ∧ ad.block ≠ a.qb ∧ ad.block ≠ a.t) :
    ∃ φ x, RsAt X φ Bo c rs (maskL M by_ rs) by_ a x (TS.start c M bs) ∧ x.bd = 0 := by
  obtain ⟨b1, b2, b3, b5, b6⟩ := h0
  obtain ⟨d1, d2, d3, d7, d8, d9, d10, d11, d12, d13⟩ := h1
  have hw0 : ∀ i, i < M → wsOf (maskL M by_ rs) i = [] := fun i hi => maskL_ws (Or.inl (by omega))
  refine ⟨fun b => if b < Bo then 0 else if b = a.g then 1 else if b = a.ln then 2 else if b = a.qb then 3 else if b = a.t then 8 else 9, _, ⟨hlo, fun b hb => if_pos hb, hlog, hB, fun _ => hst, ⟨?_, b1, blk_lt hst⟩, fun _ => ⟨?_, by simp [TS.start]⟩, ⟨?_, b2, blk_lt hln⟩, fun i h l e1 e2 e3 => ?_, fun _ => ⟨?_, by simp [TS.start]⟩, ⟨?_, b3, blk_lt hqb⟩, fun i q l e1 e2 _ => ?_, fun _ => ⟨TkAt.nil _ _, At.none_ _⟩, fun _ => ⟨TkAt.nil _ _, At.none_ _⟩, fun _ => ⟨TkAt.nil _ _, At.none_ _, ⟨Nat.le_refl _, fun r hr => (by cases hr), List.nodup_nil, fun t => by simp [mget, TS.start]⟩⟩, fun _ => hgt, ⟨?_, b5, blk_lt hgt.st, fun ad e => ?_⟩, fun _ => ⟨⟨ht, TkAt.nil _ _, fun x hx => (by cases hx)⟩, RInv.start _ _ hw0, fun q h1 h2 h3 => ?_⟩, fun b hb => ?_, ⟨by rw [hN]; exact Nat.zero_le _, fun b hb => by rw [hN] at hb; exact absurd hb (Nat.not_lt_zero _)⟩⟩, rfl⟩
  · show (if a.g < Bo then 0 else if a.g = a.g then 1 else _) = 1; rw [if_neg (by omega), if_pos rfl]
  · rw [hln]
    congr 2
    simp only [TS.start, rlanesC]
    rw [List.zip_replicate']
    refine Array.ext (by simp [madeCells, rlaneC]) fun i h1 h2 => ?_
    have h1' : i < c.lanes.toNat * 5 := by simpa [madeCells] using h1
    have : ((List.replicate c.lanes.toNat ((⟨0, [], 0, 0⟩ : Ln), (⟨0, ⟨none, 0, 0⟩, []⟩ : RL))).flatMap fun p => rlaneC p.1 p.2)[i]? = some (([.int .i64 0, .slice none 0 0, .bool false, .int .i64 0, .int .i64 0] : List Value)[i % 5]'(by simp; omega)) := by
      have hq := flat_get (cells := fun p : Ln × RL => rlaneC p.1 p.2) (size := 5) (List.replicate c.lanes.toNat ((⟨0, [], 0, 0⟩ : Ln), (⟨0, ⟨none, 0, 0⟩, []⟩ : RL))) (fun x _ => rfl) (i / 5) ((⟨0, [], 0, 0⟩ : Ln), (⟨0, ⟨none, 0, 0⟩, []⟩ : RL)) (by rw [List.getElem?_replicate, if_pos (by omega)]) (i % 5) (([.int .i64 0, .slice none 0 0, .bool false, .int .i64 0, .int .i64 0] : List Value)[i % 5]'(by simp; omega)) (List.getElem?_eq_getElem (by simp [rlaneC]; omega))
      rwa [show i / 5 * 5 + i % 5 = i by omega] at hq
    obtain ⟨_, hq⟩ := List.getElem?_eq_some_iff.1 this
    simp only [List.getElem_toArray]
    refine Eq.trans ?_ hq.symm
    have h4 : i % 5 < ([.int .i64 0, .slice none 0 0, .bool false, .int .i64 0, .int .i64 0] : List Value).length := by simp; omega
    simp [madeCells, Value.cells, List.getElem?_eq_getElem h4]
  · show (if a.ln < Bo then 0 else if a.ln = a.g then 1 else if a.ln = a.ln then 2 else _) = 2; rw [if_neg (by omega), if_neg d1, if_pos rfl]
  · simp only [TS.start] at e1
    rw [List.getElem?_replicate] at e1
    split at e1
    · injection e1 with e1
      subst e1
      exact absurd rfl e3
    · cases e1
  · rw [hqb, List.map_replicate]
    congr 2
    refine Array.ext (by simp [madeCells]) fun i h1 h2 => by simp [madeCells, Value.cells, Nat.mod_one, SL.v]
  · show (if a.qb < Bo then 0 else if a.qb = a.g then 1 else if a.qb = a.ln then 2 else if a.qb = a.qb then 3 else _) = 3; rw [if_neg (by omega), if_neg d2, if_neg d3, if_pos rfl]
  · simp only [TS.start] at e1
    rw [List.getElem?_replicate] at e1 e2
    split at e1
    · injection e1 with e1
      split at e2
      · injection e2 with e2
        subst e1 e2
        exact ⟨TkAt.nil _ _, At.none_ _⟩
      · omega
    · cases e1
  · show (if a.gt < Bo then 0 else if a.gt = a.g then 1 else if a.gt = a.ln then 2 else if a.gt = a.qb then 3 else if a.gt = a.t then 8 else 9) = 9; rw [if_neg (by omega), if_neg d7, if_neg d8, if_neg d9, if_neg (Ne.symm d13)]
  · obtain ⟨g1, g2, g3, g4⟩ := h3 ad e
    have := (hgt.tk.lt e).1
    simp only
    rw [if_neg (by omega), if_neg g1, if_neg g2, if_neg g3, if_neg g4]
  · refine List.eq_nil_iff_forall_not_mem.2 fun b hb => ?_
    obtain ⟨k1, k2⟩ := mem_depL.1 hb
    have := (TIG.start (maskL M by_ rs) M hw0).1.closed q h1 h2 h3 b k1
    simp only [TS.start] at k2
    rw [this] at k2
    cases k2
  · rcases hb with rfl | ⟨ad, e, _⟩ | ⟨x, hx, _⟩
    · refine ⟨?_, b6, blk_lt ht⟩
      simp only
      rw [if_neg (by omega), if_neg d10, if_neg d11, if_neg d12, if_pos trivial]
    · cases e
    · cases hx
end Go.Proofs.YtcjmppjppmiggaaGreat

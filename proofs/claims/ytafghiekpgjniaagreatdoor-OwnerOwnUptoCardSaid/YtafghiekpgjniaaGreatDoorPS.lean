/- Lemmas and contracts of functions that statements of this seat stand on, many texts in one; each holds under the premises typed in its head. -/
import Derived.Test.YtafghiekpgjniaaGreatDoorPC
import Derived.Test.YtafghiekpgjniaaGreatDoorExt
import Derived.Test.YtafghiekpgjniaaGreatDoorIter
import Derived.Test.YtafghiekpgjniaaGreatDoorPA
/- shard: New, may, gone, Get, Install. -/
namespace Go.Proofs.YtafghiekpgjniaaGreatDoor
open Go.RowKit
set_option linter.unusedVariables false
set_option linter.unusedSimpArgs false

set_option maxRecDepth 100000
theorem kstr : Keying Tryz.prog 9 Value.string := keying_string Tryz.underlying9
theorem zvs (w : World) : (zeroValue 130).run Tryz.prog w = .ok (.slice none 0 0) w := by kernel_rfl
theorem eqmv_some (b : Nat) (w : World) : (binOp .eql 80 (.map (some b)) (.map none)).run Tryz.prog w = .ok (.bool false) w := by kernel_rfl
theorem mem_mput {K V : Type} [DecidableEq K] {m : List (K × V)} {k : K} {v : V} {p : K × V} (h : p ∈ mput m k v) : p = (k, v) ∨ p ∈ m := by
  induction m with
  | nil => simp [mput] at h; exact .inl h
  | cons q r ih =>
    obtain ⟨a, u⟩ := q
    simp only [mput] at h
    split at h
    · rcases List.mem_cons.1 h with e | e
      · exact .inl e
      · exact .inr (by simp [e])
    · rcases List.mem_cons.1 h with e | e
      · exact .inr (by simp [e])
      · exact (ih e).imp id (fun e => by simp [e])
section
variable {w w' : World} {t : SB} {L : Hs}
theorem ShAt.cell (h : ShAt w t L) : w.cell? ⟨t.g, 0, none⟩ = some (.map (some t.p)) := by
  obtain ⟨m, h1, -⟩ := h
  exact (blk_cell h1 0).trans rfl
/-- What a key is bound to. -/
theorem ShAt.look (h : ShAt w t L) (k : ByteArray) : ∃ sv : SV, sv.vs = hget L k ∧ VsAt w w.heap.size sv.A sv.len sv.vs ∧ sv.len ≤ sv.cap ∧ (sv.A = none → sv.cap = 0) ∧
    ∀ X : World, X.heap[t.p]? = w.heap[t.p]? → (Instr.lookup 80 (.map (some t.p)) (.string k) false).run Tryz.prog X = .ok (.slice sv.A sv.len sv.cap) X := by
  obtain ⟨m, h1, h2, h3, h4, rfl⟩ := h
  have hr : ∀ X : World, X.heap[t.p]? = w.heap[t.p]? → _ := fun X hX => (h2.of_block hX).run_lookup kstr Tryz.underlying80 (zvs X) k false
  cases hm : mget m k with
  | none =>
    refine ⟨⟨none, 0, 0, []⟩, ?_, RowAt.nil_, Nat.le_refl _, fun _ => rfl, fun X hX => ?_⟩
    · rw [hget_cont, mget_plainM, hm]; rfl
    · have := hr X hX; rw [hm] at this; simpa using this
  | some sv =>
    obtain ⟨g1, g2, g3, -⟩ := h3 (k, sv) (mget_some_mem hm)
    refine ⟨sv, ?_, g1, g2, g3, fun X hX => ?_⟩
    · rw [hget_cont, mget_plainM, hm]; rfl
    · have := hr X hX; rw [hm] at this; simpa [SV.v] using this
theorem ShAt.look_len {sv : SV} (h : ShAt w t L) {k : ByteArray} (h1 : sv.vs = hget L k) (h2 : VsAt w w.heap.size sv.A sv.len sv.vs) : sv.len ≤ 65536 ∧ chkB sv.vs = true := by
  have := hget_chk h.ok k
  rw [← h1] at this
  have h3 := chkB_len this
  rw [h2.len] at h3
  exact ⟨h3, this⟩
theorem sortedK_plainM (m : List (ByteArray × SV)) : sortedK (plainM m) = sortedK m := by
  unfold sortedK plainM
  rw [List.map_map]; rfl
/-- A key bound anew. -/
theorem wpList_update_Sh {ops : Array Oper} {rest : List Oper} {o : Oper} {a : Act} {Q : Exit → Act → World → Prop} (hgd : o.guard = none) (x y v : Operand) (ho : o.op = .mapUpdate 80 x y v) (h : ShAt w t L) (k : ByteArray) (sv : SV) (hk : keyB k = true)
    (hv : VsAt w w.heap.size sv.A sv.len sv.vs) (hc : sv.len ≤ sv.cap) (hn : sv.A = none → sv.cap = 0) (hty : TyV w sv.A sv.len) (hl : chkB sv.vs = true) (hne : sv.vs ≠ [])
    (hx : a.eval x = .map (some t.p)) (hy : a.eval y = .string k) (hvv : a.eval v = .slice sv.A sv.len sv.cap)
    (hK : ∀ w', ShAt w' t (hput L k sv.vs) → Kept w w' (· = t.p) → wpList Tryz.prog ops Q rest (a.put o.dst undef) w') : wpList Tryz.prog ops Q (o :: rest) a w := by
  have hnc := h.noC
  obtain ⟨m, h1, h2, h3, h4, rfl⟩ := h
  refine wpList_update_M (κ := Value.string) (ν := SV.v) (b := t.p) (m := m) hgd x y v ho h2 kstr Tryz.underlying80 k sv hx hy hvv (fun w' hown hg => ?_)
  have hkp : Kept w w' (· = t.p) := Kept.of_only hg rfl
  have hrow : ∀ A n (vs : List Ver), VsAt w w.heap.size A n vs → VsAt w' w'.heap.size A n vs := fun A n vs hr => (hr.keptC (fun x _ => ver_ne x) (Nat.le_refl _) hkp (fun b hb => by subst hb; exact hnc)).more hkp.size
  refine hK w' ⟨mput m k sv, (hkp.blk h1 (blk_lt h1) (fun e => h2.noC _ _ _ (e ▸ h1))), hown, fun q hq => ?_, ?_, ?_⟩ hkp
  · rcases mem_mput hq with rfl | hq
    · exact ⟨hrow _ _ _ hv, hc, hn, hty.kept hkp (fun b hb => by subst hb; exact fun cs fr => hnc cs _ fr)⟩
    · obtain ⟨g1, g2, g3, g4⟩ := h3 q hq
      exact ⟨hrow _ _ _ g1, g2, g3, g4.kept hkp (fun b hb => by subst hb; exact fun cs fr => hnc cs _ fr)⟩
  · rw [plainM_mput]; exact mok_put h4 hk hl hne
  · rw [plainM_mput]; exact cont_put h4 hk hl hne
end
set_option maxHeartbeats 1000000
theorem new_any (w : World) : Calls Tryz.prog 98 #[] w fun e w' => e = .returned (.pointer (some ⟨w.heap.size + 1, 0, none⟩)) ∧ ShAt w' ⟨w.heap.size + 1, w.heap.size⟩ [] ∧ Below w.heap.size w w' := by
  have hmm := @run_makeMap Tryz.prog
  go_enter Tryz.func98, Tryz.ntmps98
  go_wp2_with fail
  go_ret
  have h1 := OwnM.made w Value.string SV.v
  refine ⟨rfl, ⟨[], ?_, h1.alloc _, fun q hq => (by cases hq), MOk.nil, ?_⟩, bel_alloc (bel_alloc (Below.refl _ _) _) _⟩
  · simpa using blk_new (w.alloc (.map #[] 0)) _
  · simp [cont, plainM, sortedK]
theorem may_any (k : ByteArray) (w : World) : Calls Tryz.prog 99 #[.string k] w fun e w' => e = .returned (.bool (keyB k)) ∧ w = w' := by
  have nk := toList_nil k
  have nk2 := Lib.hid (ByteArray.size_eq_zero_iff (a := k))
  go_enter Tryz.func99, Tryz.ntmps99
  go_wp2
  all_goals go_ret
  all_goals (have nk3 := nk2.out; exact ⟨ret_bool (by simp only [keyB]; grind), rfl⟩)
theorem gone_any (t : SB) (L : Hs) (w : World) (h : ShAt w t L) : Calls Tryz.prog 117 #[.pointer (some ⟨t.g, 0, none⟩)] w fun e w' => e = .returned (.bool false) ∧ w' = w := by
  have c0 := h.cell
  have he := eqmv_some t.p
  go_enter Tryz.func117, Tryz.ntmps117
  go_wp2_with fail
  go_ret
  exact ⟨rfl, rfl⟩
set_option maxHeartbeats 2000000 in
theorem rising_any (t : SB) (L : Hs) (w : World) (h : ShAt w t L) (hn : L.length ≤ 8796093022207) : Calls Tryz.prog 185 #[.pointer (some ⟨t.g, 0, none⟩)] w fun e w' => ∃ v, e = .returned v ∧ w'.ownsRow w.heap.size 9 1 v L.length ((L.map (·.1)).map Value.string) ∧ Below w.heap.size w w' := by
  have c0 := h.cell
  have hok := h.ok
  obtain ⟨m, h1, h2, h3, h4, h5⟩ := h
  have hk : L.map (·.1) = sortedK m := by rw [← h5, keys_cont, sortedK_plainM]
  have hlen : L.length = m.length := by have := congrArg List.length hk; rw [List.length_map, len_sortedK] at this; exact this
  have hks : ∀ p ∈ m, p.1.size ≤ maxLen := fun p hp => by
    have := h4.key (p.1, p.2.vs) (List.mem_map.2 ⟨p, hp, rfl⟩)
    simp only [keyB, Bool.and_eq_true, decide_eq_true_eq] at this
    unfold maxLen; omega
  have hso := sortedS_any t.p m w h2 (by omega) hks
  rw [hk, hlen]
  have Hso := Lib.hid hso
  clear hso hks h5 hk hlen h1 h2 h3 h4 hok hn
  go_enter Tryz.func185, Tryz.ntmps185
  go_wp2_with fail
  refine (keysS_any (some t.p) w).mono ?_
  rintro e w2 ⟨rfl, rfl⟩
  go_wp2_with fail
  refine Hso.out.mono ?_
  rintro e w2 ⟨v, rfl, hown, hb2⟩
  have Hown := Lib.hid hown
  have Hb2 := Lib.hid hb2
  clear hown hb2
  go_wp2_with fail
  go_ret
  exact ⟨_, rfl, Hown.out, Hb2.out⟩
set_option maxHeartbeats 2000000 in
theorem get_any (t : SB) (L : Hs) (k : ByteArray) (mark : Int) (w : World) (h : ShAt w t L) : Calls Tryz.prog 109 #[.pointer (some ⟨t.g, 0, none⟩), .string k, .int .i64 mark] w fun e w' => e = .returned (.tuple #[.string (getV (hget L k) mark).1, .bool (getV (hget L k) mark).2]) ∧ Below w.heap.size w w' := by
  have c0 := h.cell
  obtain ⟨sv, hv1, hv2, hv3, hv4, hv5⟩ := h.look k
  obtain ⟨hl1, hl2⟩ := h.look_len hv1 hv2
  have hlk := hv5 w rfl
  have hat := at_any sv.A sv.len sv.cap sv.vs mark w hv2 (by omega) hl2
  have hg := gone_any t L w h
  have hgv : getV (hget L k) mark = (match atV sv.vs mark with | some v => (v.val, !v.drop) | none => (ByteArray.empty, false)) := by rw [← hv1]; rfl
  have hd : ∀ v, atV sv.vs mark = some v → v.drop = true → v.val = ByteArray.empty := fun v hv hdr => verB_drop ((chkB_iff.1 hl2).1 v (atV_mem hv)) hdr
  have Hgv := Lib.hid hgv
  have Hat := Lib.hid hat
  have Hg := Lib.hid hg
  have Hd := Lib.hid hd
  clear hv1 hv2 hv3 hv4 hv5 hl1 hl2 hat hg hgv hd h
  go_enter Tryz.func109, Tryz.ntmps109
  go_wp2_with fail
  refine Hg.out.mono ?_
  rintro e w1 ⟨rfl, rfl⟩
  go_wp2_with fail
  refine Hat.out.mono ?_
  rintro e w2 ⟨rfl, hb2⟩
  have Hb2 := Lib.hid hb2
  clear hb2 hlk
  cases hm : atV sv.vs mark with
  | none =>
    have Ha : Hid (atA sv.vs mark = ⟨0, ⟨#[]⟩, false⟩) := Lib.hid (by unfold atA; rw [hm]; rfl)
    have Hm := Lib.hid hm
    clear hm
    rw [Ha.out]
    unfold Ver.v
    go_wp2_with fail
    go_quiet (fail)
    go_wp2_with fail
    go_ret2
    exact ⟨by rw [Hgv.out, Hm.out]; rfl, below_drewN (bel_alloc Hb2.out _) _⟩
  | some v =>
    have Ha : Hid (atA sv.vs mark = v) := Lib.hid (by unfold atA; rw [hm]; rfl)
    have Hm := Lib.hid hm
    clear hm
    rw [Ha.out]
    obtain ⟨num, val, drop⟩ := v
    unfold Ver.v
    cases drop
    all_goals
      go_wp2_with fail
      go_quiet (fail)
      go_wp2_with fail
      go_ret2
      exact ⟨by rw [Hgv.out, Hm.out]; rfl, below_drewN (bel_alloc Hb2.out _) _⟩
end Go.Proofs.YtafghiekpgjniaaGreatDoor

/- shard: Install. -/
namespace Go.Proofs.YtafghiekpgjniaaGreatDoor
open Go.RowKit
set_option linter.unusedVariables false
set_option linter.unusedSimpArgs false

set_option maxRecDepth 100000
theorem own_bound {w : World} {B : Nat} {v : Value} {vs : List Ver} (h : OwnV w B v vs) : ∃ A cap, v = .slice A vs.length cap ∧ VsAt w w.heap.size A vs.length vs ∧ vs.length ≤ cap ∧ (A = none → cap = 0) := by
  obtain ⟨A, cap, h1, h2, h3, h4⟩ := rowAt_own (len_ver vs) h
  exact ⟨A, cap, h1, h2, h4, fun e => (h3 e).2⟩
/-- What Install answers. -/
def InstEnd (w : World) (t : SB) (L : Hs) (p : Part) (e : Ending) (w' : World) : Prop :=
  e = .returned (.tuple #[.bool (newP L p), .int .i64 (errOf (okP p))]) ∧ ShAt w' t (instH L p) ∧ Kept w w' (· = t.p)
set_option maxHeartbeats 8000000 in
theorem install_any (t : SB) (L : Hs) (p : Part) (w : World) (h : ShAt w t L) : Calls Tryz.prog 107 #[.pointer (some ⟨t.g, 0, none⟩), .int .i64 p.num, p.w.v] w (InstEnd w t L p) := by
  obtain ⟨sv, hv1, hv2, hv3, hv4, hv5⟩ := h.look p.w.key
  obtain ⟨hl1, hl2⟩ := h.look_len hv1 hv2
  have hlt := h.lt
  have h1 : ShAt (w.alloc (.cells #[.string p.w.key, .string p.w.val, .bool p.w.drop] 87)) t L := h.alloc _
  have hg := gone_any t L _ h1
  have Hg := Lib.hid hg
  have H := Lib.hid h
  have hputc : ∀ X, Below w.heap.size w X → Calls Tryz.prog 177 #[.slice sv.A sv.len sv.cap, p.ver.v] X (PutEnd X sv.vs p.ver) := fun X hX => put_any sv.A sv.len sv.cap sv.vs p.ver X ((hv2.below hX).more hX.size) hv4 (by omega) hl2
  have Hput := Lib.hid hputc
  have hlk : ∀ X, Below w.heap.size w X → (Instr.lookup 80 (.map (some t.p)) (.string p.w.key) false).run Tryz.prog X = .ok (.slice sv.A sv.len sv.cap) X := fun X hX => hv5 X (hX.block _ hlt.2)
  have Hlk := Lib.hid hlk
  have hcell : ∀ X, Below w.heap.size w X → X.cell? ⟨t.g, 0, none⟩ = some (.map (some t.p)) := fun X hX => (h.below hX).cell
  have Hcell := Lib.hid hcell
  have hpost : ∀ (a : Bool) (c : Bool) (L' : Hs) (X : World), newP L p = a → okP p = c → instH L p = L' → ShAt X t L' → Kept w X (· = t.p) → InstEnd w t L p (.returned (.tuple #[.bool a, .int .i64 (errOf c)])) X := fun a c L' X e1 e2 e3 e4 e5 => by
    subst e1 e2 e3; exact ⟨rfl, e4, e5⟩
  have Hpost := Lib.hid hpost
  have hnp : newP L p = (okP p && !hasV (hget L p.w.key) p.num) := rfl
  have Hnp := Lib.hid hnp
  have hok : okP p = (keyB p.w.key && verB p.ver) := rfl
  have Hok := Lib.hid hok
  have hin : instH L p = if newP L p then hput L p.w.key (putV (hget L p.w.key) p.ver) else L := rfl
  have Hin := Lib.hid hin
  have Hvs := Lib.hid hv1
  have Hl2 := Lib.hid hl2
  have Hlt := Lib.hid hlt
  have hpv : p.ver.v = .agg #[.int .i64 p.num, .string p.w.val, .bool p.w.drop] := rfl
  have Hpv := Lib.hid hpv
  clear hg h hputc hlk hcell hpost hnp hok hin hv1 hv2 hv3 hv4 hv5 hl1 hl2 hlt h1 hpv
  unfold Wr.v
  go_enter Tryz.func107, Tryz.ntmps107
  go_wp2_with fail
  refine Hg.out.mono ?_
  rintro e w1 ⟨rfl, rfl⟩
  have z0 := blk_new w (.cells #[.string p.w.key, .string p.w.val, .bool p.w.drop] 87)
  have Z0 := Lib.hid z0
  have HB1 : Hid (Below w.heap.size w (w.alloc (.cells #[.string p.w.key, .string p.w.val, .bool p.w.drop] 87))) := Lib.hid (bel_alloc (Below.refl _ _) _)
  clear z0
  go_wp2_with fail
  refine (may_any p.w.key _).mono ?_
  rintro e w2 ⟨rfl, rfl⟩
  cases hk : keyB p.w.key
  · have Hk := Lib.hid hk
    clear hk
    go_wp2_with fail
    go_ret2
    have e1 : okP p = false := by rw [Hok.out, Hk.out]; rfl
    have e2 : newP L p = false := by rw [Hnp.out, e1]; rfl
    exact Hpost.out false false L _ e2 e1 (by rw [Hin.out, e2]; exact if_neg Bool.false_ne_true) (H.out.alloc _) (Kept.of_below HB1.out)
  · have Hk := Lib.hid hk
    clear hk
    generalize w.alloc (.cells #[.string p.w.key, .string p.w.val, .bool p.w.drop] 87) = w1 at HB1 Z0 ⊢
    have hz1 : w.heap.size < w1.heap.size := blk_lt Z0.out
    have HS : Hid (∀ X, Below w1.heap.size w1 X → X.cell? ⟨t.g, 0, none⟩ = some (.map (some t.p)) ∧ X.cell? ⟨w.heap.size, 0, none⟩ = some (.string p.w.key) ∧ X.cell? ⟨w.heap.size, 1, none⟩ = some (.string p.w.val) ∧ X.cell? ⟨w.heap.size, 2, none⟩ = some (.bool p.w.drop) ∧ (Instr.lookup 80 (.map (some t.p)) (.string p.w.key) false).run Tryz.prog X = .ok (.slice sv.A sv.len sv.cap) X) := Lib.hid fun X hX =>
      ⟨Hcell.out _ (HB1.out.trans (hX.mono (Nat.le_of_lt hz1))), (blk_cell ((hX.block _ hz1).trans Z0.out) 0).trans rfl, (blk_cell ((hX.block _ hz1).trans Z0.out) 1).trans rfl, (blk_cell ((hX.block _ hz1).trans Z0.out) 2).trans rfl, Hlk.out _ (HB1.out.trans (hX.mono (Nat.le_of_lt hz1)))⟩
    obtain ⟨s0, s1, s2, s3, s4⟩ := HS.out w1 (Below.refl _ _)
    have hpc := Hput.out w1.drew (HB1.out.drew)
    rw [Hpv.out] at hpc
    have Hpc := Lib.hid hpc
    clear hpc
    go_wp2_with fail
    go_region_held3 (fun X => X.cell? ⟨t.g, 0, none⟩ = some (.map (some t.p)) ∧ X.cell? ⟨w.heap.size, 0, none⟩ = some (.string p.w.key) ∧ X.cell? ⟨w.heap.size, 1, none⟩ = some (.string p.w.val) ∧ X.cell? ⟨w.heap.size, 2, none⟩ = some (.bool p.w.drop) ∧ (Instr.lookup 80 (.map (some t.p)) (.string p.w.key) false).run Tryz.prog X = .ok (.slice sv.A sv.len sv.cap) X)
      (first | (refine HS.out _ ?_; (first | exact bel_drew (Below.refl _ _) | exact HB2.out)))
      ((go_at_call 177; (with_reducible refine Hpc.out.mono ?_); rintro e w2 ⟨v, rfl, hb2, hown⟩; have HB2 : Hid (Below w1.heap.size w1 w2) := Lib.hid ((bel_drew (Below.refl _ _)).trans hb2); have HOwn := Lib.hid hown; clear hb2 hown))
    have HBw2 : Hid (Below w.heap.size w w2) := Lib.hid (HB1.out.trans (HB2.out.mono (Nat.le_of_lt hz1)))
    have HSh2 : Hid (ShAt w2 t L) := Lib.hid (H.out.below HBw2.out)
    have hz2 : w1.heap.size ≤ w2.heap.size := HB2.out.size
    cases hv : verB p.ver
    · have Hv := Lib.hid hv
      clear hv s0 s1 s2 s3 s4
      have e1 : okP p = false := by rw [Hok.out, Hv.out, Bool.and_false]
      have e2 : newP L p = false := by rw [Hnp.out, e1]; rfl
      have E1 := Lib.hid e1
      have E2 := Lib.hid e2
      clear e1 e2
      go_wp2_with fail
      go_ret2
      exact Hpost.out false false L _ E2.out E1.out (by rw [Hin.out, E2.out]; exact if_neg Bool.false_ne_true) HSh2.out (Kept.of_below HBw2.out)
    · have Hv := Lib.hid hv
      have e1 : okP p = true := by rw [Hok.out, Hv.out, Hk.out]; rfl
      have E1 := Lib.hid e1
      obtain ⟨l, hl⟩ : ∃ l, l = (if hasV sv.vs p.ver.num then sv.vs else putV sv.vs p.ver) := ⟨_, rfl⟩
      have hown := HOwn.out hv
      rw [← hl] at hown
      obtain ⟨A, cap, rfl, hrow, hcap, hnil⟩ := own_bound hown
      have Hty := Lib.hid (OwnV.ty hown l.length)
      have hnum : p.ver.num = p.num := rfl
      have hpres : newP L p = (!hasV sv.vs p.ver.num) := by rw [Hnp.out, E1.out, hnum, ← Hvs.out]; rfl
      have hfin : chkB l = true ∧ l ≠ [] ∧ instH L p = hput L p.w.key l := by
        cases hh : hasV sv.vs p.ver.num
        · rw [hh] at hl hpres
          rw [if_neg Bool.false_ne_true] at hl
          subst hl
          refine ⟨chkB_putV Hl2.out Hv.out hh, putV_ne _ _, ?_⟩
          rw [Hin.out, hpres, ← Hvs.out]; rfl
        · rw [hh] at hl hpres
          rw [if_pos rfl] at hl
          subst hl
          have hne : sv.vs ≠ [] := fun e => by rw [e] at hh; cases hh
          refine ⟨Hl2.out, hne, ?_⟩
          rw [Hin.out, hpres, Hvs.out, hput_same H.out.ok (by rw [← Hvs.out]; exact hne)]; rfl
      obtain ⟨f1, f2, f3⟩ := hfin
      have Hrow := Lib.hid hrow
      have Hcap := Lib.hid hcap
      have Hnil := Lib.hid hnil
      have F1 := Lib.hid f1
      have F2 := Lib.hid f2
      have F3 := Lib.hid f3
      have Hpres := Lib.hid hpres
      clear hv e1 hl hown hrow hcap hnil f1 f2 f3 hnum hpres s0 s1 s2 s3 s4
      have k0 : ∀ n : Ext w2, n.X.cell? ⟨t.g, 0, none⟩ = some (.map (some t.p)) := fun n => (HS.out n.X (HB2.out.trans (n.h.mono hz2))).1
      have k1 : ∀ n : Ext w2, n.X.cell? ⟨w.heap.size, 0, none⟩ = some (.string p.w.key) := fun n => (HS.out n.X (HB2.out.trans (n.h.mono hz2))).2.1
      go_wp2_with fail
      refine wp_region_ext_tail 8 (by kernel_rfl) (by kernel_rfl) ?_
      simp only [List.take_succ_cons, List.take_zero, List.drop_succ_cons, List.drop_zero]
      repeat (go_big_quiet_step (fail))
      refine Ext.tail fun X hX => ?_
      have HX := Lib.hid hX
      clear hX k0 k1
      refine wpList_update_Sh rfl _ _ _ rfl (HSh2.out.below HX.out) p.w.key ⟨A, l.length, cap, l⟩ Hk.out ((Hrow.out.below HX.out).more HX.out.size) Hcap.out Hnil.out (Hty.out.below HX.out) F1.out F2.out rfl rfl rfl ?_
      intro w4 hsh4 hk4
      have HSh4 := Lib.hid hsh4
      have HK4 := Lib.hid hk4
      clear hsh4 hk4
      go_wp2_with fail
      go_ret2
      refine Hpost.out _ true _ _ ?_ E1.out F3.out HSh4.out ((Kept.of_below (HBw2.out.trans (HX.out.mono (by omega)))).trans HK4.out)
      rw [Hpres.out]
end Go.Proofs.YtafghiekpgjniaaGreatDoor


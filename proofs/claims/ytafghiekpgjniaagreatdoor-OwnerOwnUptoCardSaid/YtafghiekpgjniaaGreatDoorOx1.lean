/- OwnerOwn: what its walk stands on. -/
import Derived.Test.YtafghiekpgjniaaGreatDoorBkR
import Derived.Test.YtafghiekpgjniaaGreatDoorOl5
namespace Go.Proofs.YtafghiekpgjniaaGreatDoor
open Go.RowKit
set_option linter.unusedVariables false
set_option linter.unusedSimpArgs false

set_option maxRecDepth 100000
theorem Kept.and {w w' : World} {X Y : Nat → Prop} (h : Kept w w' X) (k : Kept w w' Y) : Kept w w' (fun b => X b ∧ Y b) := ⟨h.os, h.tape, h.output, h.size, fun i hi hn => by
  by_cases hx : X i
  · exact k.block i hi (fun hy => hn ⟨hx, hy⟩)
  · exact h.block i hi hx⟩
/-- The shard, its versions in blocks below n. -/
def ShAtB (w : World) (t : SB) (L : Hs) (n : Nat) : Prop := n ≤ w.heap.size ∧ ∃ m : List (ByteArray × SV),
  w.heap[t.g]? = some (.cells #[.map (some t.p)] 84 (0, 0)) ∧ OwnM Value.string SV.v w t.p m ∧
  (∀ q ∈ m, VsAt w n q.2.A q.2.len q.2.vs ∧ q.2.len ≤ q.2.cap ∧ (q.2.A = none → q.2.cap = 0) ∧ TyV w q.2.A q.2.len) ∧ MOk (plainM m) ∧ cont (plainM m) = L
section
variable {w w' : World} {t : SB} {L : Hs} {n : Nat} {X : Nat → Prop}
theorem ShAt.b (h : ShAt w t L) : ShAtB w t L w.heap.size := ⟨Nat.le_refl _, h⟩
theorem ShAtB.sh (h : ShAtB w t L n) : ShAt w t L := by
  obtain ⟨hn, m, h1, h2, h3, h4⟩ := h
  exact ⟨m, h1, h2, fun q hq => ⟨(h3 q hq).1.more hn, (h3 q hq).2⟩, h4⟩
theorem ShAtB.kept (h : ShAtB w t L n) (k : Kept w w' X) (hX : ∀ b, X b → b ≠ t.p ∧ b ≠ t.g ∧ (NoV w b ∨ n ≤ b)) : ShAtB w' t L n := by
  obtain ⟨hn, m, h1, h2, h3, h4⟩ := h
  refine ⟨Nat.le_trans hn k.size, m, k.blk h1 (blk_lt h1) (fun hx => (hX _ hx).2.1 rfl), h2.of_block (k.block _ h2.lt (fun hx => (hX _ hx).1 rfl)), fun q hq => ?_, h4⟩
  obtain ⟨g1, g2, g3, g4⟩ := h3 q hq
  have hnx : ∀ a, q.2.A = some a → 0 < q.2.len → ¬ X a.block := fun a ea hl hx => by
    obtain ⟨b, off, e, hb, -⟩ := g1.2 hl
    rw [ea] at e; injection e with e; subst e
    obtain ⟨cs, fr, h5⟩ := g4 _ ea hl
    rcases (hX _ hx).2.2 with h6 | h6
    · exact h6 cs fr h5
    · simp only at h6; omega
  exact ⟨g1.keptB hn k hnx, g2, g3, fun a ea hl => by obtain ⟨cs, fr, h5⟩ := g4 a ea hl; exact ⟨cs, fr, k.blk h5 (blk_lt h5) (hnx a ea hl)⟩⟩
theorem ShAtB.below (h : ShAtB w t L n) (hb : Below w.heap.size w w') : ShAtB w' t L n := h.kept (X := fun _ => False) (Kept.of_below hb) (fun b hb => hb.elim)
theorem ShAtB.blk (h : ShAtB w t L n) : w.heap[t.g]? = some (.cells #[.map (some t.p)] 84 (0, 0)) := by obtain ⟨-, m, h1, -⟩ := h; exact h1
end
theorem own_kept2 {w w' : World} {X : Nat → Prop} {base size n : Nat} {e : TypeId} {v : Value} {xs : List Value} (h : w.ownsRow base e size v n xs) (k : Kept w w' X) (hX : ∀ b, base ≤ b → b < w.heap.size → ¬ X b) : w'.ownsRow base e size v n xs := by
  obtain ⟨h1, h2 | ⟨g, cap, cur, hv, hg, hh, r⟩⟩ := h
  · exact ⟨h1, Or.inl h2⟩
  · exact ⟨h1, Or.inr ⟨g, cap, cur, hv, hg, k.blk hh (blk_lt hh) (hX g hg (blk_lt hh)), r⟩⟩
theorem hrow_kept2 {w w' : World} {X : Nat → Prop} {B : Nat} {v : Value} {hs : List HR} (h : HRow w B v hs) (k : Kept w w' X) (hX : ∀ b, B ≤ b → b < w.heap.size → ¬ X b) : HRow w' B v hs :=
  ⟨own_kept2 h.1 k hX, fun r hr => ⟨own_kept2 (h.2.1 r hr).1 k hX, (h.2.1 r hr).2⟩, h.2.2⟩
def K5 (q : List Rq) : Prop := ∃ r t, q = r :: t ∧ r.kind = 5
/-- What Serve answers, whatever waits. -/
def ServeU (w : World) (o : OB) (L : Hs) (q : List Rq) (e : Ending) (w' : World) : Prop :=
  ∃ (f' : Nat) (L' : Hs) (t : Int) (b : Bool) (A1 : Option Addr) (n1 c1 : Nat) (A2 : Option Addr) (n2 c2 : Nat) (d er : Int) (es : List (ByteArray × ByteArray)) (hs : List HR),
    e = .returned (.tuple #[.agg #[.int .i64 t, .bool b, .slice A1 n1 c1, .slice A2 n2 c2, .int .i64 d], .int .i64 er]) ∧ OwAt w' o f' L' q.tail ∧ Kept w w' (fun b => b = o.p ∨ b = o.b ∨ b = o.t.p) ∧ OwnE w' w.heap.size (.slice A1 n1 c1) es ∧ HRow w' w.heap.size (.slice A2 n2 c2) hs ∧ (∀ x ∈ hs, x.len ≤ 65536) ∧ n1 ≤ L.length + 1 ∧ n2 ≤ L.length ∧ L'.length ≤ L.length + 1 ∧ (¬ K5 q → hs = []) ∧ (K5 q → ∀ n, ShAtB w o.t L n → ShAtB w' o.t L' n)
theorem hr_lens2 {w : World} {B : Nat} {v : Value} {hs : List HR} {M : Hs} (h : HRow w B v hs) (hp : plainR hs = M) (ok : HsOk M) : ∀ x ∈ hs, x.len ≤ 65536 := fun x hx => by
  have h1 := (h.2.1 x hx).2.1
  have h2 : (x.key, x.vs) ∈ M := by rw [← hp]; exact List.mem_map.2 ⟨x, hx, rfl⟩
  have h3 := chkB_len (ok.chk _ h2)
  simp only at h3
  omega
theorem RepR.all {w w' : World} {L L' : Hs} {r : Rq} {cs : Array Value} (h : RepR w L r L' cs w') (hm : mayR r = true) : ∃ b A1 n1 c1 A2 n2 c2 d hs, cs = #[.int .i64 r.from_, .bool b, .slice A1 n1 c1, .slice A2 n2 c2, .int .i64 d] ∧
    OwnE w' w.heap.size (.slice A1 n1 c1) (repE L r) ∧ HRow w' w.heap.size (.slice A2 n2 c2) hs ∧ plainR hs = repH L r := by
  rcases mayR_kind hm with hk | hk | hk | hk | hk
  · obtain ⟨rfl, rfl⟩ := h.k1 hk
    exact ⟨_, none, 0, 0, none, 0, 0, _, [], rfl, by simp only [repE, hk]; exact World.ownsRow_nil _ _ _ _, HRow.nil _ _, by simp [repH, hk, plainR]⟩
  · obtain ⟨rfl, A1, n1, c1, A2, n2, c2, hs, rfl, h1, h2, h3⟩ := h.rows (Or.inl hk)
    exact ⟨_, A1, n1, c1, A2, n2, c2, _, hs, rfl, h1, h2, h3⟩
  · obtain ⟨rfl, A1, n1, c1, A2, n2, c2, hs, rfl, h1, h2, h3⟩ := h.rows (Or.inr (Or.inl hk))
    exact ⟨_, A1, n1, c1, A2, n2, c2, _, hs, rfl, h1, h2, h3⟩
  · obtain ⟨rfl, rfl⟩ := h.k4 hk
    exact ⟨_, none, 0, 0, none, 0, 0, _, [], rfl, by simp only [repE, hk]; exact World.ownsRow_nil _ _ _ _, HRow.nil _ _, by simp [repH, hk, plainR]⟩
  · obtain ⟨rfl, A1, n1, c1, A2, n2, c2, hs, rfl, h1, h2, h3⟩ := h.rows (Or.inr (Or.inr hk))
    exact ⟨_, A1, n1, c1, A2, n2, c2, _, hs, rfl, h1, h2, h3⟩
theorem oserve_u (o : OB) (first : Nat) (L : Hs) (q : List Rq) (w : World) (h : OwAt w o first L q) (hn : L.length ≤ 3518437208883) :
    Calls Tryz.prog 39 #[.pointer (some ⟨o.g, 0, none⟩)] w (ServeU w o L q) := by
  cases q with
  | nil =>
    refine (oserve_none o first L w h).mono ?_
    rintro e w' ⟨rfl, hb⟩
    refine ⟨first, L, 0, false, none, 0, 0, none, 0, 0, 0, 9, [], [], rfl, h.below hb, Kept.of_below hb, World.ownsRow_nil _ _ _ _, HRow.nil _ _, by simp, by omega, by omega, by omega, fun _ => rfl, fun hk => ?_⟩
    obtain ⟨r, t, e, -⟩ := hk
    cases e
  | cons r q =>
    refine (oserve_any o first L r q w h hn (sizeb h.sh.ok hn)).mono ?_
    rintro e w' ⟨f2, L', cs, rfl, hrep, ho, k, k5⟩
    obtain ⟨b, A1, n1, c1, A2, n2, c2, d, hs, rfl, he, hh, hp⟩ := hrep.all (h.may r (by simp))
    have e1 := (en_at2 he).len
    have e2 := (hr_at hh).2
    have l1 := plainR_len hs
    rw [hp] at l1
    have l3 := repE_len L r
    have l4 := repH_len L r
    refine ⟨f2, L', _, b, A1, n1, c1, A2, n2, c2, d, 0, _, hs, rfl, ho, k, he, hh, hr_lens2 hh hp (repH_ok h.sh.ok r), by omega, by omega, (hrep.bound h.sh.ok).1, fun hk => ?_, fun hk n hB => ?_⟩
    · have : repH L r = [] := by
        unfold repH
        rw [if_neg (fun h5 => hk ⟨r, q, rfl, h5⟩)]
      rw [this] at hp
      simpa [plainR] using hp
    · obtain ⟨r', t', e, hk5⟩ := hk
      injection e with ee1 ee2
      subst ee1 ee2
      obtain ⟨rfl, -⟩ := hrep.k5 hk5
      refine hB.kept (k.and (k5 hk5)) (fun b hb => ?_)
      obtain ⟨n1, n2, n3⟩ := h.tp_ne
      have hgb := hB.blk
      have e1 := h.rg.hp
      obtain ⟨cb, e2, -⟩ := h.rg.buf.hb
      rcases hb with ⟨rfl | rfl | rfl, cs, t, fr, hc⟩
      · exact ⟨n2, blk_ne2 e1 hgb (by decide), Or.inl (fun cs' fr' hc' => by rw [e1] at hc'; cases hc')⟩
      · exact ⟨n3, blk_ne2 e2 hgb (by decide), Or.inl (fun cs' fr' hc' => by rw [e2] at hc'; cases hc')⟩
      · exact absurd hc (h.sh.noC cs t fr)
/-- Where blocks of an owner that has no requests are as they were. -/
theorem OwAt.keptS {w w' : World} {X : Nat → Prop} {o : OB} {first : Nat} {L : Hs} {n : Nat} (h : OwAt w o first L []) (hB : ShAtB w o.t L n) (k : Kept w w' X) (hX : ∀ b, X b → (∃ cs t, w.heap[b]? = some (.cells cs t (0, 0)) ∧ t ≠ 160 ∧ t ≠ 263 ∧ t ≠ 98 ∧ t ≠ 84 ∧ (t = 140 → n ≤ b))) : OwAt w' o first L [] ∧ ShAtB w' o.t L n := by
  obtain ⟨cb, e2, -⟩ := h.rg.buf.hb
  have hsB := hB.kept k (fun b hb => by
    obtain ⟨cs, t, h1, h2, h3, h4, h5, h6⟩ := hX b hb
    refine ⟨fun e => h.sh.noC _ _ _ (e ▸ h1), blk_ne2 h1 hB.blk h5, ?_⟩
    by_cases ht : t = 140
    · exact Or.inr (h6 ht)
    · exact Or.inl (fun cs' fr' hc' => by rw [h1] at hc'; injection hc' with hc'; injection hc' with _ q _; exact ht q))
  refine ⟨⟨k.blk h.hg (blk_lt h.hg) (fun hx => ?_), hsB.sh, h.rg.kept k ⟨fun hx => ?_, fun hx => ?_⟩, (fun r hr => by cases hr), (fun r hr => by cases hr)⟩, hsB⟩
  · obtain ⟨cs, t, h1, h2, -⟩ := hX _ hx
    exact blk_ne2 h1 h.hg h2 rfl
  · obtain ⟨cs, t, h1, h2, h3, -⟩ := hX _ hx
    exact blk_ne2 h1 h.rg.hp h3 rfl
  · obtain ⟨cs, t, h1, h2, h3, h4, -⟩ := hX _ hx
    exact blk_ne2 h1 e2 h4 rfl
set_option maxHeartbeats 2000000 in
theorem respP_any (g Bo cnt base : Nat) (xE xV xH : List BkE) (t : Int) (b : Bool) (A1 : Option Addr) (n1 c1 : Nat) (A2 : Option Addr) (n2 c2 : Nat) (d : Int) (es : List (ByteArray × ByteArray)) (hs : List HR) (w : World) (h : BkAtP w g Bo cnt xE xV xH)
    (he : OwnE w base (.slice A1 n1 c1) es) (hw : HRow w base (.slice A2 n2 c2) hs) (hB : Bo ≤ base) (uE : Und xE base) (uV : Und xV base) (uH : Und xH base) (hv : ∀ r ∈ hs, r.len ≤ 4398046511033) (hn1 : n1 ≤ 4398046511033)
    (hc : cnt + n2 + 2 ≤ 1152921504606846976) (hlE : xE.length + 1 ≤ 2199023255552) (hl : xV.length + n2 ≤ 2199023255552) (hlH : xH.length + 1 ≤ 2199023255552) :
    Calls Tryz.prog 41 #[.pointer (some ⟨g, 0, none⟩), .agg #[.int .i64 t, .bool b, .slice A1 n1 c1, .slice A2 n2 c2, .int .i64 d]] w fun e w' => e = .returned (.tuple #[]) ∧ BkAtP w' g Bo (cnt + 1 + n2 + 1) (xE ++ [⟨A1, n1, c1, cnt + 1, none, 0, 0⟩]) (xV ++ tellH (cnt + 1) hs) (xH ++ [⟨A2, n2, c2, cnt + 1 + n2 + 1, none, 0, 0⟩]) ∧ Kept w w' (TyX w g HdP) ∧ Below Bo w w' := by
  obtain ⟨W, hW⟩ : ∃ W, W = w.alloc (.cells #[.int .i64 t, .bool b, .slice A1 n1 c1, .slice A2 n2 c2, .int .i64 d] 105) := ⟨_, rfl⟩
  have hb : Below w.heap.size w W := hW ▸ bel_alloc (Below.refl _ _) _
  have hN : W.heap[w.heap.size]? = some (.cells #[.int .i64 t, .bool b, .slice A1 n1 c1, .slice A2 n2 c2, .int .i64 d] 105 (0, 0)) := hW ▸ blk_new _ _
  have hkf : Kept w W (fun _ => False) := Kept.of_below hb
  have hbk : BkAtP W g Bo cnt xE xV xH := h.kept hkf (fun _ h => h.elim)
  obtain ⟨A', cap', e, hal, htk⟩ := TkAt.own (cells := EnC) (fun x _ => rfl) (ownsRow_below he hb) hB
  injection e with q1 q2 q3
  subst q1 q2 q3
  have HK := Lib.hid (entriesP_any g Bo cnt xE xV xH A1 es.length c1 W hbk ⟨by have := htk.le; simp only; omega, hn1, by simp only; omega, htk.empty⟩ (fun e he a c ea ec => by have h1 := uE e he a ea; have h2 := hal c ec; omega) (by omega) hlE)
  have HWr := Lib.hid (hw.below hb)
  have HB := Lib.hid hb
  have HN := Lib.hid hN
  have HBk := Lib.hid hbk.blk
  have Hlo := Lib.hid h.lo
  have HuV := Lib.hid uV
  have HuH := Lib.hid uH
  have Hv := Lib.hid hv
  have f2 : W.cell? ⟨w.heap.size, 2, none⟩ = some (.slice A1 es.length c1) := blk_cell hN 2
  have hzz : w.heap.size < W.heap.size := blk_lt hN
  have HWe := Lib.hid hW
  clear h he hw uE uV uH hv hb hN hkf hbk hal htk hW
  go_enter Tryz.func41, Tryz.ntmps41
  go_wp2_with fail
  rw [← HWe.out]
  refine HK.out.mono ?_
  rintro e w1 ⟨rfl, h1, h2, h3⟩
  have hnt : ∀ (b : Nat) (cs : Array Value) (t : TypeId), W.heap[b]? = some (.cells cs t (0, 0)) → t ≠ 44 → ¬ HdP t → ¬ TyX W g HdP b := fun b cs t hb h1 h2 => by
    obtain ⟨c, hg⟩ := HBk.out
    exact TyX.ne hb (blk_ne2 hb hg h1) h2
  have hN1 := h2.blk HN.out (blk_lt HN.out) (hnt _ _ _ HN.out (by decide) (by unfold HdP; decide))
  have f3 : w1.cell? ⟨w.heap.size, 3, none⟩ = some (.slice A2 n2 c2) := blk_cell hN1 3
  have hw1 : HRow w1 base (.slice A2 n2 c2) hs := by
    refine ⟨?_, fun r hr => ⟨?_, (HWr.out.2.1 r hr).2⟩, HWr.out.2.2⟩
    · obtain ⟨o1, o2 | ⟨g', cap', cur, hv', hg', hh', r'⟩⟩ := HWr.out.1
      · exact ⟨o1, Or.inl o2⟩
      · exact ⟨o1, Or.inr ⟨g', cap', cur, hv', hg', h2.blk hh' (blk_lt hh') (hnt _ _ _ hh' (by decide) (by unfold HdP; decide)), r'⟩⟩
    · obtain ⟨o1, o2 | ⟨g', cap', cur, hv', hg', hh', r'⟩⟩ := (HWr.out.2.1 r hr).1
      · exact ⟨o1, Or.inl o2⟩
      · exact ⟨o1, Or.inr ⟨g', cap', cur, hv', hg', h2.blk hh' (blk_lt hh') (hnt _ _ _ hh' (by decide) (by unfold HdP; decide)), r'⟩⟩
  have HT := Lib.hid (heldsP_any g Bo (cnt + 1) base _ xV xH A2 n2 c2 hs w1 h1 hw1 hB HuV.out HuH.out Hv.out (by omega) hl hlH)
  have HX1 : Hid (Kept w w1 (TyX w g HdP)) := Lib.hid (TyX.trans (Kept.of_below HB.out) h2)
  have HL1 : Hid (Below Bo w w1) := Lib.hid ((HB.out.mono Hlo.out.2).trans h3)
  clear h1 h2 h3 hnt hN1 hw1 f2
  go_wp2_with fail
  refine HT.out.mono ?_
  rintro e w2 ⟨rfl, h1, h2, h3⟩
  have H := Lib.hid (And.intro h1 (And.intro (TyX.trans HX1.out h2) (HL1.out.trans h3)))
  clear h1 h2 h3
  go_wp2_with fail
  exact bodyPost_end (results_none rfl _ _ _) rfl ⟨rfl, H.out⟩
end Go.Proofs.YtafghiekpgjniaaGreatDoor

/- TraceHolds: the law's walk. -/
import Derived.Test.YtbiamjgkedmceaaTl1
import Derived.Test.YtbiamjgkedmceaaTr3
namespace Go.Proofs.Ytbiamjgkedmceaa
open Go.RowKit
set_option linter.unusedVariables false
set_option linter.unusedSimpArgs false

set_option maxRecDepth 100000
theorem checkR_cases (c : Cfg) (rs : List RTx) (mark : Int) (by_ : List Int) (l : List Ev) : ((checkR c rs mark by_ l).1 = 0 ∧ ((checkR c rs mark by_ l).2 = 7 ∨ (checkR c rs mark by_ l).2 = 1)) ∨
    (c.ok = true ∧ logErr rs 1 = 0 ∧ ∃ (M : Nat) (bs : List Nat), mark = M ∧ by_ = ints bs ∧ M ≤ rs.length ∧ (⟨M, bs⟩ : Gt).Ok ∧ (∀ b ∈ ints bs, (M : Int) + 2 ≤ b) ∧ checkR c rs mark by_ l = (((checkN c rs M bs l : Nat) : Int), checkE (checkN c rs M bs l) l.length)) := by
  unfold checkR
  by_cases hok : c.ok = false
  · rw [if_pos hok]; exact Or.inl ⟨rfl, Or.inl rfl⟩
  · rw [if_neg hok]
    by_cases h : logErr rs 1 = 0 ∧ placeB rs.length mark by_ = true
    · rw [if_pos h]
      obtain ⟨M, bs, rfl, rfl, h1, h2, h3⟩ := place_nat h.2 (logErr_le h.1)
      refine Or.inr ⟨by simpa using hok, h.1, M, bs, rfl, rfl, h1, h2, h3, ?_⟩
      rw [ints_toNat, Int.toNat_natCast]
    · rw [if_neg h]; exact Or.inl ⟨rfl, Or.inr rfl⟩
theorem start_out (c : Cfg) (rs' : List RTx) (M : Nat) (bs : List Nat) : (TS.start c M bs).out rs' = 0 := by
  have hm : (TS.start c M bs).m = M := rfl
  have hE : (TS.start c M bs).E = E0 M := rfl
  unfold TS.out
  rw [hm, hE]
  have h1 : (TS.start c M bs).line.length = 0 := rfl
  have h2 : waitN rs' M (E0 M) = 0 := by
    unfold waitN
    rw [List.length_eq_zero_iff, List.filter_eq_nil_iff]
    intro a ha
    simp only [List.mem_range] at ha
    simp only [E0, Bool.and_eq_true, decide_eq_true_eq, Bool.not_eq_true', not_and, Bool.and_eq_false_iff, decide_eq_false_iff_not]
    intro h
    omega
  omega
theorem waitN_le (rs' : List RTx) (m : Nat) (E : Nat → Bool) : waitN rs' m E ≤ m + 1 := by
  unfold waitN
  have := List.length_filter_le (fun a => decide (1 ≤ a) && !E a && decide (depL rs' E a ≠ [])) (List.range (m + 1))
  simpa using this
def toldV (c : Cfg) (A : Option Addr) (len cap : Nat) (mark : Int) (A2 : Option Addr) (n2 c2 : Nat) (A3 : Option Addr) (n3 c3 : Nat) (A4 : Option Addr) (n4 c4 : Nat) : Array Value :=
  #[.int .i64 c.lanes, .int .i64 c.shards, .int .i64 c.window, .int .i64 c.queue, .slice A len cap, .int .i64 mark, .slice A2 n2 c2, .slice A3 n3 c3, .slice A4 n4 c4]
set_option maxHeartbeats 4000000 in
theorem lawholds_any (c : Cfg) (rs : List RTx) (A : Option Addr) (len cap : Nat) (mark : Int) (A2 : Option Addr) (n2 c2 : Nat) (by_ : List Int) (A3 : Option Addr) (n3 c3 : Nat) (A4 : Option Addr) (n4 c4 : Nat) (l : List Ev) (w : World) (hl : TxsAt w w.heap.size A len rs) (hb : IsAt w w.heap.size A2 n2 by_) (he : EsAt w w.heap.size A4 n4 l) (hn : A2 = none → c2 = 0) (hcap : ∀ r ∈ rs, r.len ≤ r.cap) (hn4 : n4 ≤ 4398046511104) (hlen : len ≤ 4398046511104) (hn2 : n2 ≤ 4398046511104000) :
    Calls Try.prog 3 #[.agg (toldV c A len cap mark A2 n2 c2 A3 n3 c3 A4 n4 c4)] w fun e w' => e = .returned (.bool true) ∧ Below w.heap.size w w' := by
  unfold toldV
  obtain ⟨W0, hW0⟩ : ∃ W0, W0 = w.alloc (.cells #[.int .i64 c.lanes, .int .i64 c.shards, .int .i64 c.window, .int .i64 c.queue, .slice A len cap, .int .i64 mark, .slice A2 n2 c2, .slice A3 n3 c3, .slice A4 n4 c4] 31) := ⟨_, rfl⟩
  have hb0 : Below w.heap.size w W0 := hW0 ▸ bel_alloc (Below.refl _ _) _
  have HT0 : Hid (W0.heap[w.heap.size]? = some (.cells #[.int .i64 c.lanes, .int .i64 c.shards, .int .i64 c.window, .int .i64 c.queue, .slice A len cap, .int .i64 mark, .slice A2 n2 c2, .slice A3 n3 c3, .slice A4 n4 c4] 31 (0, 0))) := Lib.hid (hW0 ▸ blk_new _ _)
  have HB0 := Lib.hid hb0
  have HW0 := Lib.hid hW0
  have HL0 := Lib.hid ((hl.below hb0).more hb0.size)
  have HBy0 := Lib.hid ((hb.below hb0).more hb0.size)
  have HE0 := Lib.hid ((he.below hb0).more hb0.size)
  have a0 := blk_cell HT0.out 0
  have a1 := blk_cell HT0.out 1
  have a2 := blk_cell HT0.out 2
  have a3 := blk_cell HT0.out 3
  have a4 := blk_cell HT0.out 4
  have a5 := blk_cell HT0.out 5
  have a6 := blk_cell HT0.out 6
  have a7 := blk_cell HT0.out 7
  have a8 := blk_cell HT0.out 8
  clear hW0 hb0
  have Hck := Lib.hid (tcheck_any c rs A len cap mark A2 n2 c2 by_ A3 n3 c3 A4 n4 c4 l W0 HL0.out HBy0.out HE0.out hn hcap hn4 hlen hn2)
  have Hn := Lib.hid hn
  have Hcap := Lib.hid hcap
  clear hn hcap
  rcases checkR_cases c rs mark by_ l with ⟨h1, h2⟩ | ⟨hok, hlog, M, bs, rfl, rfl, hM, hG, hby, hR⟩
  · have h2' : (checkR c rs mark by_ l).2 = 7 ∨ (checkR c rs mark by_ l).2 = 1 := h2
    rw [h1] at Hck
    clear h1 h2
    rcases h2' with h2 | h2
    all_goals
      rw [h2] at Hck
      clear h2
      go_enter Try.func3, Try.ntmps3
      go_wp2_with fail
      rw [← HW0.out]
      refine Hck.out.mono ?_
      rintro e w1 ⟨rfl, hb1⟩
      have HB1 := Lib.hid (HB0.out.trans (hb1.mono HB0.out.size))
      clear hb1
      go_wp2_with fail
      refine (lives21_any w1).mono ?_
      rintro e w2 ⟨rfl, hb2⟩
      have HB2 := Lib.hid (HB1.out.trans (hb2.mono HB1.out.size))
      clear hb2
      go_wp2_with fail
      go_ret
      exact ⟨rfl, HB2.out⟩
  · rw [hR] at Hck
    simp only at Hck
    obtain ⟨N, hN⟩ : ∃ N, N = checkN c rs M bs l := ⟨_, rfl⟩
    rw [← hN] at Hck
    have hNl : N ≤ n4 := by rw [hN, ← he.len]; exact tale_le _ _ _ _ _ _
    have HN := Lib.hid hN
    have Hby := Lib.hid hby
    have Hlog := Lib.hid hlog
    have hI0 : SInv c rs (maskL M (ints bs) rs) M 0 (TS.start c M bs) := SInv.start hok hM hG
    have HI0 := Lib.hid hI0
    have hlr := logErr_le hlog
    have hwin : 0 ≤ c.window ∧ c.window ≤ 65536 := by simp [Cfg.ok, inB] at hok; omega
    clear hR hN hby hlog hI0 hG hl hb he hok hM
    have hE : checkE N l.length = 0 ∨ checkE N l.length = 14 := by unfold checkE; split <;> simp
    rcases hE with hE | hE
    all_goals
      rw [hE] at Hck
      clear hE
      go_enter Try.func3, Try.ntmps3
      go_wp2_with fail
      rw [← HW0.out]
      refine Hck.out.mono ?_
      rintro e w1 ⟨rfl, hb1⟩
      have HT1 := Lib.hid ((hb1.block _ (blk_lt HT0.out)).trans HT0.out)
      have a5 := blk_cell HT1.out 5
      have HB1 := Lib.hid hb1
      clear hb1
      go_wp2_with fail
      go_loopw [5, 6, 7, 8] (fun m5 m6 m7 m8 wr => ∃ (k : Nat) (s : TS), k ≤ N ∧ m8 = .int .i64 k ∧ m5 = .int .i64 s.G.mark ∧ m6 = .int .i64 s.at_ ∧ m7 = .int .i64 (s.out (maskL M (ints bs) rs) : Nat) ∧ Hid (s = stN c rs (maskL M (ints bs) rs) (ints bs) k l (TS.start c M bs)) ∧ Hid (SInv c rs (maskL M (ints bs) rs) M k s) ∧ Hid (Below W0.heap.size W0 wr)) (fun _ _ _ m8 _ => N - (RowKit.intOf m8).toNat)
      case atStart => exact ⟨0, TS.start c M bs, Nat.zero_le _, rfl, rfl, rfl, by rw [start_out]; rfl, Lib.hid rfl, HI0, HB1⟩
      case round =>
        obtain ⟨k, s, hk, rfl, rfl, rfl, rfl, HS, HI, HB⟩ := hrel
        have HTr := Lib.hid ((HB.out.block _ (blk_lt HT0.out)).trans HT0.out)
        by_cases hlt : k < N
        · obtain ⟨ev, hx, hf, hs'⟩ := tale_at c rs (maskL M (ints bs) rs) (ints bs) l (TS.start c M bs) k (show k < checkN c rs M bs l by rw [← HN.out]; exact hlt)
          rw [← HS.out] at hf hs'
          obtain ⟨ft1, ft2, ft3, ft4, ft5, ft6, ft7⟩ := fits_tell HI.out hf
          obtain ⟨s', hS'⟩ : ∃ s', s' = (s.fits c rs (maskL M (ints bs) rs) (ints bs) ev).2 := ⟨_, rfl⟩
          rw [← hS'] at ft1 ft2 ft3 ft4 ft5 ft6 ft7 hs'
          have HI' : Hid (SInv c rs (maskL M (ints bs) rs) M (k + 1) s') := Lib.hid (hS' ▸ HI.out.fits Hby.out (log_ws Hlog.out))
          have HS' : Hid (s' = stN c rs (maskL M (ints bs) rs) (ints bs) (k + 1) l (TS.start c M bs)) := Lib.hid hs'.symm
          obtain ⟨b, off, ev', rfl, hbl, hx', x0, x1, x2, x3, x4, x5⟩ := EsAt.cell6 (HE0.out.below HB.out) (Nat.lt_of_lt_of_le hlt hNl)
          obtain rfl : ev' = ev := Option.some.inj (hx'.symm.trans hx)
          have hat := HI.out.atl
          have hmk := HI.out.ok.mark
          have hat' := HI'.out.atl
          have hout : s.out (maskL M (ints bs) rs) ≤ 131074 := by
            have h1 := HI.out.line_len
            have h2 := waitN_le (maskL M (ints bs) rs) s.m s.E
            have h3 := HI.out.ml
            unfold TS.out
            omega
          obtain ⟨et, ek, en, es, ec, em⟩ := ev'
          simp only at ft1 ft3 ft4 ft5 ft6 ft7 x0 x1 x2 x3 x4 x5
          subst ft1
          have a2 := blk_cell HTr.out 2
          have a8 := blk_cell HTr.out 8
          have hwl := blk_lt HTr.out
          clear hf hs' hS' hx hx'
          obtain ⟨o, ho⟩ : ∃ o, o = s.out (maskL M (ints bs) rs) := ⟨_, rfl⟩
          obtain ⟨o', ho'⟩ : ∃ o', o' = s'.out (maskL M (ints bs) rs) := ⟨_, rfl⟩
          rw [← ho] at ft5 ft6 ft7 hout ⊢
          rw [← ho'] at ft5 ft6 ft7
          have Ho' := Lib.hid ho'
          clear ho ho'
          by_cases k1 : ek = 1
          · subst k1
            obtain ⟨g1, g2⟩ := ft3 rfl
            have g3 := ft7 (by omega) (by omega)
            subst g1 g3
            clear ft3 ft4 ft5 ft6 ft7
            go_wp2_with fail
            refine ⟨⟨k + 1, s', by omega, by go_num, rfl, by rw [g2]; go_num, by rw [← Ho'.out], HS', HI', Lib.hid (bel_alloc HB.out _)⟩, by simp [RowKit.intOf]; omega⟩
          have g2 := ft4 k1
          by_cases k3 : ek = 3
          · subst k3
            obtain ⟨g1, g3, g4⟩ := ft5 rfl
            subst g1 g4
            clear ft3 ft4 ft5 ft6 ft7
            go_wp2_with fail
            refine ⟨⟨k + 1, s', by omega, by go_num, rfl, by rw [g2], by rw [← Ho'.out]; go_num, HS', HI', Lib.hid (bel_alloc HB.out _)⟩, by simp [RowKit.intOf]; omega⟩
          by_cases k4 : ek = 4
          · subst k4
            have g4 := ft6 rfl
            clear ft3 ft4 ft5 ft6 ft7
            have g5 : (o : Int) - 1 = o' := by omega
            go_wp2_with fail
            refine ⟨⟨k + 1, s', by omega, by go_num, rfl, by rw [g2], by rw [← Ho'.out], HS', HI', Lib.hid (bel_alloc HB.out _)⟩, by simp [RowKit.intOf]; omega⟩
          have g4 := ft7 k3 k4
          subst g4
          clear ft3 ft4 ft5 ft6 ft7
          go_wp2_with fail
          refine ⟨⟨k + 1, s', by omega, by go_num, rfl, by rw [g2], by rw [← Ho'.out], HS', HI', Lib.hid (bel_alloc HB.out _)⟩, by simp [RowKit.intOf]; omega⟩
        · have hkn : k = N := by omega
          subst hkn
          go_wp2_with fail
          refine (lives21_any wr).mono ?_
          rintro e w2 ⟨rfl, hb2⟩
          have HB2 := Lib.hid (HB0.out.trans (HB.out.mono HB0.out.size) |>.trans (hb2.mono (Nat.le_trans HB0.out.size HB.out.size)))
          clear hb2
          go_wp2_with fail
          go_ret
          exact ⟨rfl, HB2.out⟩
end Go.Proofs.Ytbiamjgkedmceaa

/- Both tables of dependencies: what each function comes to, all that it may, in one post. -/
import Derived.Test.YtfafhfjmoijaeaaGreatDoorKv
import Derived.Test.YtfafhfjmoijaeaaGreatDoorKp
import Derived.Test.YtfafhfjmoijaeaaGreatDoorKr
import Derived.Test.YtfafhfjmoijaeaaGreatDoorKt
namespace Go.Proofs.YtfafhfjmoijaeaaGreatDoor
open Go.RowKit
set_option linter.unusedVariables false
set_option linter.unusedSimpArgs false

open Go.Maps
set_option maxHeartbeats 1000000 in
/-- Two rows of one list are the same. -/
theorem sameN_any (A1 : Option Addr) (len cap1 : Nat) (A2 : Option Addr) (cap2 : Nat) (xs : List Nat) (w : World) (h1 : RowAt nC 1 w w.heap.size A1 len xs) (h2 : RowAt nC 1 w w.heap.size A2 len xs) (hl : len ≤ 4398046511104) :
    Calls Tryz.prog 17 #[.slice A1 len cap1, .slice A2 len cap2] w fun e w' => e = .returned (.bool true) ∧ Below w.heap.size w w' := by
  have hb0 := beq_self_eq_true (len : Int)
  go_enter Tryz.func17, Tryz.ntmps17
  go_wp2_with fail
  go_loopw [5] (fun i wr => ∃ k : Nat, k ≤ len ∧ i = .int .i64 k ∧ Below w.heap.size w wr) (fun i _ => len - (RowKit.intOf i).toNat)
  case atStart => exact ⟨0, Nat.zero_le _, rfl, Below.refl _ _⟩
  case round =>
    obtain ⟨k, hk, rfl, hb⟩ := hrel
    have hr := h1.below hb
    have ht := h2.below hb
    have Hb := Lib.hid hb
    have hs := hb.size
    clear hb
    by_cases hlt : k < len
    · obtain ⟨b, off, x, rfl, hbl, hx, hxc⟩ := hr.at_ hlt
      have x0 := hxc 0 _ rfl
      simp only [Nat.mul_one, Nat.add_zero] at x0
      obtain ⟨b', off', y, rfl, hbl', hy, hyc⟩ := ht.at_ hlt
      have y0 := hyc 0 _ rfl
      simp only [Nat.mul_one, Nat.add_zero] at y0
      obtain rfl : y = x := by rw [hx] at hy; exact (Option.some.inj hy).symm
      clear hx hy hxc hyc hr ht
      go_wp2_with fail
      go_quiet (fail)
      go_wp2_with fail
      exact ⟨⟨k + 1, by omega, by go_num, below_drewN Hb.out _⟩, by simp [RowKit.intOf]; omega⟩
    · obtain rfl : k = len := by omega
      go_wp2_with fail
      go_ret
      exact ⟨rfl, Hb.out⟩
set_option maxRecDepth 100000
theorem ints_nC (l : List Nat) : (ints l).flatMap Icell = l.flatMap nC := by unfold ints; rw [List.flatMap_map]; rfl
theorem own_nC {w : World} {base B n : Nat} {v : Value} {l : List Nat} (h : w.ownsRow base 3 1 v n ((ints l).flatMap Icell)) (hn : n = l.length) (hB : B ≤ base) : ∃ A cap, v = .slice A l.length cap ∧ (∀ a, A = some a → base ≤ a.block) ∧ TkAt nC 1 3 w B A l.length cap l := by
  subst hn
  rw [ints_nC] at h
  exact TkAt.own (fun x _ => rfl) h hB
def addR (m : Nat) (L : List O1) (num : Int) (ws : List Wr) : Int × Int := if txB num ws = false then (0, 1) else if num ≤ m then (0, 6) else ((waitsO L ws).length, 0)
def addL (m : Nat) (L : List O1) (num : Int) (ws : List Wr) : List O1 := if txB num ws = false then L else if num ≤ m then L else L ++ [⟨num.toNat, ws, waitsO L ws, false⟩]
def doneR (L : List O1) (z : Int) : List Nat × Int := match openZ L z with
  | none => ([], 1)
  | some o => if o.wt = [] then (outO L o.num, 0) else ([], 6)
def doneLz (L : List O1) (z : Int) : List O1 := match openZ L z with
  | none => L
  | some o => if o.wt = [] then doneO L o.num else L
def waitR (L : List O1) (z : Int) : List Nat × Int := match openZ L z with
  | none => ([], 1)
  | some o => (o.wt, 0)
theorem tx_num {num : Int} {ws : List Wr} (h : txB num ws = true) : 1 ≤ num ∧ num ≤ 65536 ∧ ws.length ≤ 32 := by
  simp only [txB, Bool.and_eq_true, decide_eq_true_eq] at h; exact ⟨h.1.1.1, h.1.1.2, h.1.2⟩
def hasL (xs : List O2) (b : Nat) : Prop := ∃ x ∈ xs, (∃ a, x.W.A = some a ∧ b = a.block) ∨ ∃ a, x.T.A = some a ∧ b = a.block
def W32 (L : List O1) : Prop := ∀ o ∈ L, o.ws.length ≤ 32
theorem W32.add {m : Nat} {L : List O1} (h : W32 L) (num : Int) (ws : List Wr) : W32 (addL m L num ws) := by
  unfold addL
  split
  · exact h
  · rename_i hb
    split
    · exact h
    · intro o ho
      rcases List.mem_append.1 ho with ho | ho
      · exact h o ho
      · simp at ho; subst ho
        exact (tx_num (by simpa using hb)).2.2
theorem W32.done {L : List O1} (h : W32 L) (z : Int) : W32 (doneLz L z) := by
  unfold doneLz
  split
  · exact h
  · split
    · intro o ho
      unfold doneO at ho
      obtain ⟨o', ho', rfl⟩ := List.mem_map.1 ho
      exact h o' ho'
    · exact h
section
variable {m : Nat} {d : DT} {t : TB} {w : World}
theorem tadd_u (num : Int) (A : Option Addr) (len cap : Nat) (ws : List Wr) (xs : List O1) (hk : KIn m d xs) (h : TabAt w t d) (hws : ∀ X, Kept w X t.has → WsAt X X.heap.size A len ws) (hl : len ≤ 9223372036854775807) :
    Calls Tryz.prog 11 #[.pointer (some ⟨t.g, 0, none⟩), .agg #[.int .i64 num, .slice A len cap]] w fun e w' => e = .returned (.tuple #[.int .i64 (addR m xs num ws).1, .int .i64 (addR m xs num ws).2]) ∧ (∃ m' d', KIn m' d' (addL m xs num ws) ∧ TabAt w' t d') ∧ Kept w w' t.has := by
  have hw0 := hws w (Kept.refl _ _)
  unfold addR addL
  cases hb : txB num ws with
  | false =>
    refine (tadd_bad t d num A len cap ws w h hw0 hb hl).mono ?_
    rintro e w' ⟨rfl, h2⟩
    exact ⟨rfl, ⟨m, d, hk, h.below h2⟩, Kept.of_below h2⟩
  | true =>
    rw [if_neg (show ¬ (true = false) by decide), if_neg (show ¬ (true = false) by decide)]
    by_cases hn : num ≤ m
    · rw [if_pos hn, if_pos hn]
      refine (tadd_order t d num A len cap ws w h hw0 hb hl (by rw [hk.dtop]; exact hn)).mono ?_
      rintro e w' ⟨rfl, h2⟩
      exact ⟨rfl, ⟨m, d, hk, h.below h2⟩, Kept.of_below h2⟩
    · rw [if_neg hn, if_neg hn]
      obtain ⟨t1, t2, -⟩ := tx_num hb
      obtain ⟨N, rfl⟩ : ∃ N : Nat, num = N := ⟨num.toNat, by omega⟩
      obtain ⟨q1, q2⟩ := hk.add (N := N) (by omega) (by omega) ws
      refine (tadd_any t d N A len cap ws w h hws hb (by rw [hk.dtop]; omega) hk.lastb).mono ?_
      rintro e w' ⟨rfl, h2, h3⟩
      refine ⟨by rw [q2], ⟨N, _, ?_, h2⟩, h3⟩
      simpa using q1
theorem tdone_u (z : Int) (xs : List O1) (hk : KIn m d xs) (h : TabAt w t d) :
    Calls Tryz.prog 15 #[.pointer (some ⟨t.g, 0, none⟩), .int .i64 z] w fun e w' => ∃ A c, e = .returned (.tuple #[.slice A (doneR xs z).1.length c, .int .i64 (doneR xs z).2]) ∧ TkAt nC 1 3 w' w.heap.size A (doneR xs z).1.length c (doneR xs z).1 ∧ (∃ m' d', KIn m' d' (doneLz xs z) ∧ TabAt w' t d') ∧ Kept w w' t.has := by
  have ho := hk.opn z
  unfold doneR doneLz
  cases hz : openZ xs z with
  | none =>
    rw [hz] at ho
    refine (tdone_arg t d z w h ho).mono ?_
    rintro e w' ⟨rfl, rfl⟩
    exact ⟨none, 0, rfl, TkAt.nil _ _, ⟨m, d, hk, h⟩, Kept.refl _ _⟩
  | some o =>
    rw [hz] at ho
    by_cases hw : o.wt = []
    · simp only [if_pos hw]
      obtain ⟨f1, f2, f3, f4, f5⟩ := hk.done hz hw
      refine (tdone_any t d z w h f1 f2 f3).mono ?_
      rintro e w' ⟨v, m2, m3, rfl, g1, g2, g3, g4, g5⟩
      have hlen : ((tellL d.wts z).filter fun a => decide (mget (mdel d.opn z) a = some 1)).length = (outO xs o.num).length := by
        have := congrArg List.length f4
        rw [length_sortI] at this
        rw [this]; simp [ints]
      rw [f4] at g1
      obtain ⟨A, c, rfl, -, ht⟩ := own_nC g1 hlen (Nat.le_refl _)
      exact ⟨A, c, rfl, ht, ⟨m, _, f5 g3 g4 g2.opn.nodup g2.wts.nodup, g2⟩, g5⟩
    · simp only [if_neg hw]
      refine (tdone_order t d z o.wt.length w h ho (by have := List.length_pos_iff.2 hw; omega)).mono ?_
      rintro e w' ⟨rfl, rfl⟩
      exact ⟨none, 0, rfl, TkAt.nil _ _, ⟨m, d, hk, h⟩, Kept.refl _ _⟩
theorem twaits_u (z : Int) (xs : List O1) (hk : KIn m d xs) (h : TabAt w t d) :
    Calls Tryz.prog 19 #[.pointer (some ⟨t.g, 0, none⟩), .int .i64 z] w fun e w' => ∃ A c, e = .returned (.tuple #[.slice A (waitR xs z).1.length c, .int .i64 (waitR xs z).2]) ∧ TkAt nC 1 3 w' w.heap.size A (waitR xs z).1.length c (waitR xs z).1 ∧ Below w.heap.size w w' := by
  have ho := hk.opn z
  unfold waitR
  cases hz : openZ xs z with
  | none =>
    rw [hz] at ho
    refine (twaits_arg t d z w h ho).mono ?_
    rintro e w' ⟨rfl, rfl⟩
    exact ⟨none, 0, rfl, TkAt.nil _ _, Below.refl _ _⟩
  | some o =>
    rw [hz] at ho
    obtain ⟨g1, g2, g3⟩ := hk.wts hz
    refine (twaits_any t d z w h (by rw [ho]; rfl) g3).mono ?_
    rintro e w' ⟨v, rfl, h1, h2⟩
    rw [g1] at h1
    obtain ⟨A, c, rfl, -, ht⟩ := own_nC h1 g2 (Nat.le_refl _)
    exact ⟨A, c, rfl, ht, h2⟩
theorem topen_u (xs : List O1) (hk : KIn m d xs) (h : TabAt w t d) :
    Calls Tryz.prog 23 #[.pointer (some ⟨t.g, 0, none⟩)] w fun e w' => ∃ A c, e = .returned (.slice A (openO xs).length c) ∧ TkAt nC 1 3 w' w.heap.size A (openO xs).length c (openO xs) ∧ Below w.heap.size w w' := by
  obtain ⟨g1, g2, g3⟩ := hk.open_
  have hle : (openO xs).length ≤ 65537 := by
    have h1 : (openO xs).length ≤ xs.length := by unfold openO; rw [List.length_map]; exact List.length_filter_le _ _
    have h2 : xs.length ≤ 65537 := by
      have hn : (xs.map O1.num).Nodup := hk.rise.imp (fun h => by omega)
      have := nodup_le hn (l' := List.range 65537) (fun x hx => by
        obtain ⟨o, ho, rfl⟩ := List.mem_map.1 hx
        have := hk.num o ho; have := hk.le
        rw [List.mem_range]; omega)
      simpa using this
    omega
  refine (topen_any t d w h (by omega) (fun p hp => by have := g3 p hp; exact WalkArith.wf_i64 (by omega))).mono ?_
  rintro e w' ⟨v, rfl, h1, h2⟩
  rw [g1] at h1
  obtain ⟨A, c, rfl, -, ht⟩ := own_nC h1 g2 (Nat.le_refl _)
  exact ⟨A, c, rfl, ht, h2⟩
end
section
variable {m : Nat} {d : DT} {w : World} {lo gr n c : Nat} {A : Option Addr} {xs : List O2}
theorem RTAt.hasL_ty (h : RTAt w lo gr A n c xs) {b : Nat} (hb : hasL xs b) : ∃ cs e, w.heap[b]? = some (.cells cs e (0, 0)) ∧ (e = 75 ∨ e = 3) := by
  obtain ⟨x, hx, ⟨a, ea, rfl⟩ | ⟨a, ea, rfl⟩⟩ := hb
  · obtain ⟨cs, hc⟩ := (h.el x hx).1.ty ea; exact ⟨cs, _, hc, Or.inl rfl⟩
  · obtain ⟨cs, hc⟩ := (h.el x hx).2.ty ea; exact ⟨cs, _, hc, Or.inr rfl⟩
theorem RTAt.len32 (h : RTAt w lo gr A n c xs) (h32 : W32 (xs.map O2.o)) : ∀ x ∈ xs, x.W.n ≤ 65536 := fun x hx => by
  have := (h.el x hx).1.len
  have := h32 x.o (List.mem_map.2 ⟨x, hx, rfl⟩)
  omega
theorem radd_u (num : Int) (Aw : Option Addr) (lenw capw : Nat) (ws : List Wr) (hk : KIn m d (xs.map O2.o)) (h : RTAt w lo gr A n c xs) (hlo : lo ≤ w.heap.size) (hn : n ≤ 65535) (h32 : W32 (xs.map O2.o)) (hws : WsAt w w.heap.size Aw lenw ws) (hnil : Aw = none → capw = 0) (hl : lenw ≤ 4398046511104) :
    Calls Tryz.prog 12 #[.pointer (some ⟨gr, 0, none⟩), .agg #[.int .i64 num, .slice Aw lenw capw]] w fun e w' => e = .returned (.tuple #[.int .i64 (addR m (xs.map O2.o) num ws).1, .int .i64 (addR m (xs.map O2.o) num ws).2]) ∧ (∃ A' n' c' ys, ys.map O2.o = addL m (xs.map O2.o) num ws ∧ RTAt w' lo gr A' n' c' ys ∧ n' ≤ n + 1 ∧ ∀ b, hasL ys b → hasL xs b ∨ w.heap.size ≤ b) ∧ Kept w w' (fun b => b = gr ∨ ∃ a, A = some a ∧ b = a.block) := by
  unfold addR addL
  cases hb : txB num ws with
  | false =>
    refine (r11add_bad lo gr A n c xs num Aw lenw capw ws w h hws hb hl).mono ?_
    rintro e w' ⟨rfl, h2⟩
    exact ⟨rfl, ⟨A, n, c, xs, rfl, h.below h2, by omega, fun b hb => Or.inl hb⟩, Kept.of_below h2⟩
  | true =>
    rw [if_neg (show ¬ (true = false) by decide), if_neg (show ¬ (true = false) by decide)]
    obtain ⟨t1, t2, -⟩ := tx_num hb
    by_cases hnm : num ≤ m
    · rw [if_pos hnm, if_pos hnm]
      have hm := hk.m_eq
      have hlen := h.tk.len
      cases hg : (xs.map O2.o).getLast? with
      | none => rw [hg] at hm; simp at hm; omega
      | some o =>
        rw [hg] at hm
        simp at hm
        rw [List.getLast?_eq_getElem?, List.length_map, hlen] at hg
        obtain ⟨hlt, -⟩ := List.getElem?_eq_some_iff.1 hg
        rw [List.length_map, hlen] at hlt
        obtain ⟨q, rfl⟩ : ∃ q, n = q + 1 := ⟨n - 1, by omega⟩
        rw [Nat.add_sub_cancel, List.getElem?_map] at hg
        cases hx : xs[q]? with
        | none => rw [hx] at hg; cases hg
        | some x =>
          rw [hx] at hg
          simp at hg
          refine (r11add_order lo gr A q c xs x num Aw lenw capw ws w h hws hb hl (by omega) hx (by rw [hg]; omega)).mono ?_
          rintro e w' ⟨rfl, h2⟩
          exact ⟨rfl, ⟨A, _, c, xs, rfl, h.below h2, by omega, fun b hb => Or.inl hb⟩, Kept.of_below h2⟩
    · rw [if_neg hnm, if_neg hnm]
      obtain ⟨N, rfl⟩ : ∃ N : Nat, num = N := ⟨num.toNat, by omega⟩
      refine (r11add_any lo gr A n c xs N Aw lenw capw ws w h hlo (by omega) hws hnil hb (fun x hx => by have := (hk.num x.o (List.mem_map.2 ⟨x, hx, rfl⟩)).2.1; omega) (h.len32 h32)).mono ?_
      rintro e w' ⟨A', c', x, rfl, h1, h2, h3, h4, h5⟩
      refine ⟨rfl, ⟨A', _, c', _, by rw [List.map_append, List.map_singleton, h1]; simp, h2, Nat.le_refl _, ?_⟩, h3⟩
      rintro b ⟨y, hy, hb⟩
      rcases List.mem_append.1 hy with hy | hy
      · exact Or.inl ⟨y, hy, hb⟩
      · simp at hy; subst hy
        exact Or.inr (h5 b hb)
theorem rdone_u (z : Int) (hk : KIn m d (xs.map O2.o)) (h : RTAt w lo gr A n c xs) (hlo : lo ≤ w.heap.size) (hn : n ≤ 65535) :
    Calls Tryz.prog 16 #[.pointer (some ⟨gr, 0, none⟩), .int .i64 z] w fun e w' => ∃ A1 c1 n1, e = .returned (.tuple #[.slice A1 n1 c1, .int .i64 (doneR (xs.map O2.o) z).2]) ∧ TkAt nC 1 3 w' w.heap.size A1 n1 c1 (doneR (xs.map O2.o) z).1 ∧ (∃ ys, ys.map O2.o = doneLz (xs.map O2.o) z ∧ RTAt w' lo gr A n c ys ∧ ∀ b, hasL ys b → hasL xs b ∨ w.heap.size ≤ b) ∧ Kept w w' (fun b => b = gr ∨ ∃ a, A = some a ∧ b = a.block) := by
  unfold doneR doneLz
  cases hp : plZ (xs.map O2.o) z with
  | none =>
    rw [plZ_none.1 hp]
    refine (r11done_arg lo gr A n c xs z w h (by omega) hp).mono ?_
    rintro e w' ⟨rfl, rfl⟩
    exact ⟨none, 0, 0, rfl, TkAt.nil _ _, ⟨xs, rfl, h, fun b hb => Or.inl hb⟩, Kept.refl _ _⟩
  | some i =>
    obtain ⟨o, ho, hz, hpi⟩ := plZ_some hp
    rw [hz]
    rw [List.getElem?_map] at ho
    cases hx : xs[i]? with
    | none => rw [hx] at ho; cases ho
    | some x =>
      rw [hx] at ho
      simp at ho
      subst ho
      by_cases hw : x.o.wt = []
      · simp only [if_pos hw]
        have hzn := (openZ_some hz).2.1
        rw [← hzn]
        refine (r11done_any lo gr A n c xs x.o.num i x w h hlo (by omega) hpi hx hw (fun o ho => by have := hk.num o ho; have := hk.le; omega)).mono ?_
        rintro e w' ⟨A1, n1, c1, zs, rfl, g1, g2, g3, g4, -, g6⟩
        refine ⟨A1, c1, n1, rfl, g1, ⟨zs, ?_, g2, fun b hb => ?_⟩, g4.mono fun b hb => Or.inr hb⟩
        · rw [g3]
          exact (doneO_eq hk.rise (by rw [List.getElem?_map, hx]; rfl) rfl).symm
        · rcases g6 b (Or.inr (Or.inr hb)) with hq | hq
          · rcases hq with hq | hq | hq
            · obtain ⟨cs, e, h1, h2⟩ := g2.hasL_ty hb
              exact absurd hq (blk_ne2 h1 g2.st (by rcases h2 with rfl | rfl <;> decide))
            · obtain ⟨a, ea, hq⟩ := hq
              obtain ⟨cs, e, h1, h2⟩ := g2.hasL_ty hb
              obtain ⟨cs2, h3⟩ := g2.tk.ty ea
              exact absurd hq (blk_ne2 h1 h3 (by rcases h2 with rfl | rfl <;> decide))
            · exact Or.inl hq
          · exact Or.inr hq
      · simp only [if_neg hw]
        have hT : 0 < x.T.n := by
          have := (h.el x (List.mem_of_getElem? hx)).2.len
          have := List.length_pos_iff.2 hw
          omega
        refine (r11done_order lo gr A n c xs z i x w h (by omega) hp hx hT).mono ?_
        rintro e w' ⟨rfl, rfl⟩
        exact ⟨none, 0, 0, rfl, TkAt.nil _ _, ⟨xs, rfl, h, fun b hb => Or.inl hb⟩, Kept.refl _ _⟩
theorem rwaits_u (z : Int) (h : RTAt w lo gr A n c xs) (hn : n ≤ 65535) :
    Calls Tryz.prog 20 #[.pointer (some ⟨gr, 0, none⟩), .int .i64 z] w fun e w' => ∃ A1 c1, e = .returned (.tuple #[.slice A1 (waitR (xs.map O2.o) z).1.length c1, .int .i64 (waitR (xs.map O2.o) z).2]) ∧ RowAt nC 1 w' w'.heap.size A1 (waitR (xs.map O2.o) z).1.length (waitR (xs.map O2.o) z).1 ∧ w = w' := by
  unfold waitR
  cases hp : plZ (xs.map O2.o) z with
  | none =>
    rw [plZ_none.1 hp]
    refine (r11waits_arg lo gr A n c xs z w h (by omega) hp).mono ?_
    rintro e w' ⟨rfl, rfl⟩
    exact ⟨none, 0, rfl, (TkAt.nil (cells := nC) (size := 1) (e := 3) w 0).row, rfl⟩
  | some i =>
    obtain ⟨o, ho, hz, hpi⟩ := plZ_some hp
    rw [hz]
    rw [List.getElem?_map] at ho
    cases hx : xs[i]? with
    | none => rw [hx] at ho; cases ho
    | some x =>
      rw [hx] at ho
      simp at ho
      subst ho
      have hT := (h.el x (List.mem_of_getElem? hx)).2
      refine (r11waits_any lo gr A n c xs z i x w h (by omega) hp hx).mono ?_
      rintro e w' ⟨rfl, rfl⟩
      refine ⟨x.T.A, x.T.c, by rw [S3.v, hT.len], ?_, rfl⟩
      have := hT.row
      rw [hT.len]; exact this
end
end Go.Proofs.YtfafhfjmoijaeaaGreatDoor

/- XDx: out of XT3 XT4b XTwIb XIntC XConfb XTw XTwT XTwL XCore XSize XFold1 XFold2 XFold3 XFold4 XFold5 XFold6 XFp XFlp XFq XDp XIter XFr2 XFr3 XKey XFr4 XApp XSizeX XRng XAl XDt XDt2 XDt3 XDt4 XDt5 XDt6 XDt7 (pick.py). -/
import Derived.Test.YtfafhfjmoijaeaaGreatDoorDw
namespace Go.Proofs.YtfafhfjmoijaeaaGreatDoor
open Go.RowKit
set_option linter.unusedVariables false
set_option linter.unusedSimpArgs false

section
open Go.Maps Go.Sort Go.Shelf
/-! ### keys that are numbers -/
theorem sortsI_ (m : Nat) : AnyZI.SortsIn Tryz.prog layS_int_ren Fence.wide m :=
  ⟨fun blk off cap ss W hH hblk hsz => callsIn_wide.2 (AnyM.slices_Sort_int layT_int blk off cap ss W hH hblk hsz),
   fun p cap W => callsIn_wide.2 (AnyM.slices_Sort_int_none layT_int p cap W)⟩
theorem keysI_any (mb : Option Nat) (W : World) : Calls Tryz.prog 72 #[.map mb] W fun e w' => e = .returned (.func (.func 103) #[] #[.pointer (some ⟨W.heap.size, 0, none⟩)]) ∧ w' = W.alloc (.cells #[.map mb] 29) :=
  (callsIn_wide (n := 5)).1 (AnyZI.keys_in layKI Fence.wide 5 trivial rfl mb W)
set_option maxHeartbeats 1000000 in
theorem sortedI_any {V : Type} {ν : V → Value} (b : Nat) (m : List (Int × V)) (w : World) (hown : OwnM (Value.int .i64) ν w b m) (hn : m.length ≤ 8796093022207) (hs : ∀ p ∈ m, (Lit.int .i64 p.1).wf = true) :
    Calls Tryz.prog 71 #[.func (.func 103) #[] #[.pointer (some ⟨w.heap.size, 0, none⟩)]] (w.alloc (.cells #[.map (some b)] 29)) fun e w' => ∃ v, e = .returned v ∧
      w'.ownsRow w.heap.size 3 1 v m.length ((sortI (m.map (·.1))).map (Value.int .i64)) ∧ Below w.heap.size w w' := by
  obtain ⟨D, hD, hperm, hsize⟩ := ownM_ints (P := Tryz.prog) (kt := 3) Tryz.underlying3 hown (by simp only [maxLen]; omega) hs
  have hbl := hD.lt
  have hseq : SeqGives Fence.wide 2 Tryz.prog 103 #[.pointer (some ⟨w.heap.size, 0, none⟩)] encZ (fun ss => ss.Perm (intKeys D)) (Maps.size D) (w.alloc (.cells #[.map (some b)] 29)) :=
    AnyZI.keys_gives (ρ := layKI_ren) { layKI with } Fence.wide _ trivial rfl (by omega) w.heap.size b m.length D _ (by simp) (by simp) (by
      obtain ⟨es, clock, hb, Ft, hs, hD⟩ := hD
      exact ⟨es, clock, (Below.heap_alloc _ _ b hbl).trans hb, Ft, hs, hD⟩)
  have hc := AnyZI.sorted_in layS_int Fence.wide 5 trivial trivial trivial trivial rfl (by omega) (sortsI_ _) (enters_of Tryz.func67 (by kernel_rfl) rfl) 103 #[.pointer (some ⟨w.heap.size, 0, none⟩)] trivial (enters_of Tryz.func103 (by kernel_rfl) rfl) _ _ (by rw [hsize]; simp only [maxLen]; omega) (by rw [hsize]; omega) _ hseq
  refine ((callsIn_wide (n := 5)).1 hc).mono ?_
  rintro e w' ⟨v, ss, rfl, hS, hrow, -, hb⟩
  have hS2 : ss.Perm (m.map fun p => p.1) := hS.trans hperm
  have hl : ss.length = m.length := by rw [hS2.length_eq, List.length_map]
  refine ⟨v, rfl, ?_, ((Below.refl _ w).alloc (Nat.le_refl _) _).trans (hb.mono (by simp))⟩
  rw [← sortI_perm hS2, ← hl]
  exact ownsRow_base_a hrow (by simp)
end
theorem below_grown_own {w w' : World} {v : Value} {base n size : Nat} {e : TypeId} {xs : List Value} (h : w.ownsRow base e size v n xs) (hg : w.grownBy w' v.ownBlock) (hb : base ≤ w.heap.size) : Below base w w' :=
  (Below.refl _ _).grown hg hb (fun k hk => (h.lt k hk).1)
section
open Go.Maps
set_option linter.unusedSectionVars false
set_option maxHeartbeats 2000000
theorem eqmap_none (w : World) : (binOp .eql 28 (.map none) (.map none)).run Tryz.prog w = .ok (.bool true) w := by kernel_rfl
theorem tlast_any (t : TB) (d : DT) (k : ByteArray) (w : World) (h : TabAt w t d) : Calls Tryz.prog 21 #[.pointer (some ⟨t.g, 0, none⟩), .string k] w fun e w' => e = .returned (.int .i64 ((mget d.last k).getD 0)) ∧ w' = w := by
  obtain ⟨c0, -⟩ := h.cells
  have hm := h.last
  go_enter Tryz.func21, Tryz.ntmps21
  go_wp2_with fail
  refine (gone_any t d _ h).mono ?_
  rintro e w1 ⟨rfl, rfl⟩
  go_wp2_with (at_lookup; refine wpList_lookup_M (κ := Value.string) (ν := Value.int .i64) (b := t.p) (m := d.last) rfl _ _ rfl hm kstr Tryz.underlying28 zint k rfl rfl ?_; rw [last_or])
  go_ret
  exact ⟨rfl, rfl⟩
def OpenPost (w : World) (d : DT) (e : Ending) (w' : World) : Prop := ∃ v, e = .returned v ∧ w'.ownsRow w.heap.size 3 1 v d.opn.length ((sortI (d.opn.map (·.1))).flatMap Icell) ∧ Below w.heap.size w w'
theorem topen_any (t : TB) (d : DT) (w : World) (h : TabAt w t d) (hn : d.opn.length ≤ 8796093022207) (hs : ∀ p ∈ d.opn, (Lit.int .i64 p.1).wf = true) : Calls Tryz.prog 23 #[.pointer (some ⟨t.g, 0, none⟩)] w (OpenPost w d) := by
  obtain ⟨-, c1, -⟩ := h.cells
  have Hs := Lib.hid hs
  have hm := h.opn
  clear hs
  go_enter Tryz.func23, Tryz.ntmps23
  go_wp2_with fail
  refine (gone_any t d _ h).mono ?_
  rintro e w1 ⟨rfl, rfl⟩
  go_wp2_with fail
  refine (keysI_any (some t.q) w1).mono ?_
  rintro e w2 ⟨rfl, rfl⟩
  go_wp2_with fail
  refine (sortedI_any t.q d.opn w1 hm hn Hs.out).mono ?_
  rintro e w2 ⟨v, rfl, hown, hb2⟩
  rw [← flat_i] at hown
  have Hown := Lib.hid hown
  clear hown
  go_wp2_with fail
  go_ret
  exact ⟨_, rfl, Hown.out, hb2⟩
end
section
open Go.Maps Go.Sort
theorem waitL_nil (n : Int) : waitL [] n = [] := rfl
theorem waitL_len (W : List ((I64 × I64) × Bool)) (n : Int) : (waitL W n).length ≤ W.length := by
  unfold waitL; rw [List.length_map]; exact List.length_filter_le _ _
theorem waitL_perm {W W' : List ((I64 × I64) × Bool)} (n : Int) (h : W.Perm W') : (waitL W n).Perm (waitL W' n) := (h.filter _).map _
def WaitsPost (w : World) (L : List Int) (e : Ending) (w' : World) : Prop := ∃ v, e = .returned (.tuple #[v, .int .i64 0]) ∧ w'.ownsRow w.heap.size 3 1 v L.length ((sortI L).flatMap Icell) ∧ Below w.heap.size w w'
theorem perm_next {a b c d : List Int} (x : Int) (h : (a ++ b).Perm d) (hb : b.Perm (x :: c)) : (a ++ [x] ++ c).Perm d := by
  refine (List.Perm.trans ?_ h)
  rw [List.append_assoc]
  exact hb.symm.append_left a
end
section
open Go.Maps Go.Sort
set_option maxRecDepth 100000
set_option maxHeartbeats 4000000
theorem twaits_any (t : TB) (d : DT) (n : Int) (w : World) (h : TabAt w t d) (ho : (mget d.opn n).isSome = true) (hl : d.wts.length ≤ 1099511627776) :
    Calls Tryz.prog 19 #[.pointer (some ⟨t.g, 0, none⟩), .int .i64 n] w (WaitsPost w (waitL d.wts n)) := by
  obtain ⟨-, c1, c2, -⟩ := h.cells
  have hm := h.opn
  have hw3 := h.wts
  obtain ⟨i0, hi, hz0, hz1, hz2⟩ := info_parts info_int
  obtain ⟨-, -, -, hrl⟩ := h.lt
  have Hl := Lib.hid hl
  clear hl
  go_enter Tryz.func19, Tryz.ntmps19
  go_wp2_with fail
  refine (gone_any t d _ h).mono ?_
  rintro e w1 ⟨rfl, rfl⟩
  go_wp2_with (first
    | (at_lookup; refine wpList_lookup_ok_M (κ := Value.int .i64) (ν := Value.int .i64) (b := t.q) (m := d.opn) rfl _ _ rfl hm kint Tryz.underlying29 zint n rfl rfl ?_; rw [int_or, ho])
    | (at_range; refine wpList_range_M (κ := pairK) (ν := Value.bool) (b := t.r) (m := d.wts) rfl _ rfl Tryz.underlying30 rfl hw3 ?_; intro w0 hr0 hg0 hs0))
  go_frame
  have hb0 : Below w1.heap.size w1 w0 := ⟨hg0.os, hg0.tape, hg0.output, hg0.size, fun k hk => hg0.block k hk (by simp)⟩
  go_loopw [8] (fun v wr => ∃ (todo : List ((I64 × I64) × Bool)) (out : List Int), Hid (RngM pairK Value.bool wr t.r w1.heap.size d.wts todo) ∧ Hid ((out ++ waitL todo n).Perm (waitL d.wts n)) ∧ Hid (wr.ownsRow (w1.heap.size + 1) 3 1 v out.length (out.flatMap Icell)) ∧ Hid (Below w1.heap.size w1 wr)) (fun _ wr => wr.rangeLeft t.r w1.heap.size)
  case atStart => exact ⟨d.wts, [], Lib.hid hr0, Lib.hid (List.Perm.refl _), Lib.hid (World.ownsRow_nil _ _ _ _), Lib.hid hb0⟩
  case round =>
    obtain ⟨todo, out, HR, HP, HO, HB⟩ := hrel
    have hm0 := HR.out.left_eq
    have hit := HR.out.lt
    go_wp2_with (at_next; refine wpList_next_C (κ := pairK) (ν := Value.bool) rfl _ rfl rfl kpair.inj HR.out ?_ ?_)
    · intro hnil
      subst hnil
      have hP := HP.out
      rw [waitL_nil, List.append_nil] at hP
      have HP2 := Lib.hid hP
      clear hP hm0
      have hol : out.length ≤ 1099511627776 := by rw [HP2.out.length_eq]; exact Nat.le_trans (waitL_len _ _) Hl.out
      go_wp2_with fail
      refine (sortRow_any _ _ out _ HO.out (by omega)).mono ?_
      rintro e w2 ⟨rfl, ho2, hg2⟩
      have Ho2 := Lib.hid ho2
      have Hg2 := Lib.hid hg2
      clear ho2 hg2
      go_wp2_with fail
      go_ret2
      refine ⟨_, rfl, ?_, HB.out.trans ?_⟩
      · rw [← HP2.out.length_eq, ← sortI_perm HP2.out]
        exact ownsRow_base_a Ho2.out (by omega)
      · exact (below_grown_own HO.out Hg2.out (by omega)).mono (by omega)
    · rintro ⟨⟨⟨ka, hka⟩, ⟨kb, hkb⟩⟩, v, w2⟩ Hk Hr2 Hg2 Hs2 Hen
      have hk := Hk.out
      have hr2 := Hr2.out
      have hg2 := Hg2.out
      have hs2 := Hs2.out
      have hen := Hen.out
      clear Hk Hr2 Hg2 Hs2 Hen
      simp only at hk hr2 hg2 hs2 hen
      have hpm := restM_perm (HR.out.sub kpair.inj) hk
      have hlen : (restM todo (⟨ka, hka⟩, ⟨kb, hkb⟩)).length < todo.length := by rw [hpm.length_eq]; simp
      have hb2 : Below w1.heap.size w1 w2 := HB.out.trans ⟨hg2.os, hg2.tape, hg2.output, hg2.size, fun j hj => hg2.block j (by omega) (by simp; omega)⟩
      have ho2 : w2.ownsRow (w1.heap.size + 1) 3 1 u8 out.length (out.flatMap Icell) := HO.out.kept hg2 (by
        cases hob : u8.ownBlock with
        | none => exact Or.inl rfl
        | some g => exact Or.inr (fun e => by have := (HO.out.lt g hob).1; simp at e; omega))
      have Hr2 := Lib.hid hr2
      have Hb2 := Lib.hid hb2
      have Ho2 := Lib.hid ho2
      have Hpm := Lib.hid (waitL_perm n hpm)
      have hlt2 : w1.heap.size < w2.heap.size := by omega
      have Hs2 := Lib.hid hs2
      have Hlen := Lib.hid hlen
      clear hr2 hg2 hpm hb2 ho2 hs2 hlen hk
      simp only [pairK] at hen ⊢
      by_cases hkn : ka = n
      · have hcons := waitL_cons ((⟨ka, hka⟩, ⟨kb, hkb⟩), v) (restM todo (⟨ka, hka⟩, ⟨kb, hkb⟩)) n
        rw [if_pos hkn] at hcons
        have Hpm2 := Lib.hid (hcons ▸ Hpm.out)
        have hol : out.length ≤ 1099511627776 := by
          have h1 := HP.out.length_eq
          rw [List.length_append] at h1
          have := waitL_len d.wts n
          have := Hl.out
          omega
        clear hcons
        subst hkn
        have How2 : w2.ownsRow (w1.heap.size + 1) 3 1 u8 out.length _ := Ho2.out
        go_wp2_with (at_builtin; refine wpList_append_own _ rfl _ _ 64 rfl (w1.heap.size + 1) 3 i0 _ 1 8 Tryz.underlying64 hi hz0 hz1 hz2 rfl (by decide) _ _ _ rfl ((How2.alloc _).alloc _) ⟨w2.heap.size + 1, 0, none⟩ 1 1 (Icell kb) rfl rfl (World.news_of_block (blk_new2 _ _ _)) (one_int _) (by simp only [maxLen]; omega) (by omega) (by simp; omega) ?_; intro v' w' hown' hg' hn')
        have hr' := ((Hr2.out.alloc _).alloc _).kept hg' (row_ne_low How2 (by omega)) (row_ne_low How2 (by omega))
        refine ⟨⟨_, out ++ [kb], Lib.hid hr', Lib.hid (perm_next kb HP.out Hpm2.out), Lib.hid ?_, Lib.hid ?_⟩, ?_⟩
        · rw [List.length_append, List.flatMap_append]; simpa using hown'
        · exact (bel_alloc (bel_alloc Hb2.out _) _).grown hg' (by simp; omega) (fun q hq => by have := (How2.lt q hq).1; omega)
        · rw [hr'.left_eq, hm0]; exact Hlen.out
      · have hne : (ka == n) = false := by simpa using hkn
        go_wp2_with fail
        have hcons := waitL_cons ((⟨ka, hka⟩, ⟨kb, hkb⟩), v) (restM todo (⟨ka, hka⟩, ⟨kb, hkb⟩)) n
        rw [if_neg hkn] at hcons
        have hr' := Hr2.out.alloc (.cells #[.int .i64 ka, .int .i64 kb] 76)
        refine ⟨⟨_, out, Lib.hid hr', Lib.hid ?_, Lib.hid (Ho2.out.alloc _), Lib.hid (bel_alloc Hb2.out _)⟩, ?_⟩
        · exact ((hcons ▸ Hpm.out).symm.append_left out).trans HP.out
        · rw [hr'.left_eq, hm0]; exact Hlen.out
end
end Go.Proofs.YtfafhfjmoijaeaaGreatDoor

/- Lemmas and contracts of functions that statements of this seat stand on, many texts in one; each holds under the premises typed in its head. -/
import Derived.Test.YtfpcgfgofemhoaaGreatPU
import Derived.Test.YtfpcgfgofemhoaaGreatShD
import Derived.Test.YtfpcgfgofemhoaaGreatExt
import Derived.BigQuiet
import Derived.Test.YtfpcgfgofemhoaaGreatOwF
import Derived.Test.YtfpcgfgofemhoaaGreatSh6
import Derived.Deep.DeepCutAuto
/- towpathref09: May, Load. -/
namespace Go.Proofs.YtfpcgfgofemhoaaGreat
open Go.RowKit
set_option linter.unusedVariables false
set_option linter.unusedSimpArgs false

set_option maxRecDepth 100000
set_option maxHeartbeats 8000000 in
theorem r9may_any (A : Option Addr) (len cap : Nat) (hs : List HR) (w : World) (hw : HdsAt w w.heap.size A len hs) (hl : len ≤ 3518437208883) (hlv : ∀ h ∈ hs, h.len ≤ 4398046511104) :
    Calls Tryz.prog 57 #[.slice A len cap] w fun e w' => e = .returned (.bool (mayH (plainR hs))) ∧ Below w.heap.size w w' := by
  have hpl : (plainR hs).length = len := by have := hw.1.len; simp [plainR, this]
  have hrow : ∀ X, Below w.heap.size w X → HdsAt X X.heap.size A len hs := fun X h => (hw.below h).more h.size
  have Hrow := Lib.hid hrow
  have Hlv := Lib.hid hlv
  have hget : ∀ (i : Nat) (x : HR), hs[i]? = some x → (plainR hs)[i]? = some (x.key, x.vs) := fun i x hx => by simp [plainR, hx]
  have Hget := Lib.hid hget
  generalize hL : plainR hs = L at hpl hget Hget ⊢
  have hfin : ∀ (b : Bool) (w' : World), b = mayH L → Below w.heap.size w w' → (Ending.returned (.bool b) = .returned (.bool (mayH L)) ∧ Below w.heap.size w w') := fun b w' h h' => ⟨by rw [h], h'⟩
  have Hf := Lib.hid hfin
  have Hpl := Lib.hid hpl
  clear hw hrow hlv hget hL hfin hpl
  go_enter Tryz.func57, Tryz.ntmps57
  go_wp2_with fail
  go_loopw [3] (fun i wr => ∃ n : Nat, n ≤ len ∧ i = .int .i64 n ∧ Hid (mayH (L.take n) = true) ∧ Hid (Below w.heap.size w wr)) (fun i _ => len - (RowKit.intOf i).toNat)
  case atStart => exact ⟨0, Nat.zero_le _, rfl, Lib.hid rfl, Lib.hid (Below.refl _ _)⟩
  case round =>
    obtain ⟨n, hnl, rfl, HM, HB⟩ := hrel
    have hsr := HB.out.size
    by_cases hlt : n < len
    · obtain ⟨b, off, x, rfl, hbl, hx, x0, x1, hv, hxc, hxn⟩ := (Hrow.out wr HB.out).cell2 hlt
      have hLn := Hget.out n x hx
      have hst := mayH_step hLn
      have hno : mayH (L.take (n + 1)) = false → mayH L = false := fun h => by
        cases hc : mayH L
        · rfl
        · rw [mayH_take _ hc] at h; cases h
      have hxl : x.len ≤ 4398046511104 := Hlv.out x (List.mem_of_getElem? hx)
      have Hno := Lib.hid hno
      have hvl := hv.len
      have k1 : ∀ q : Ext wr, q.X.cell? ⟨b, off + n * 2, none⟩ = some (.string x.key) := fun q => (q.h.cell (p := ⟨b, off + n * 2, none⟩) hbl).trans x0
      have k2 : ∀ q : Ext wr, q.X.cell? ⟨b, off + n * 2 + 1, none⟩ = some (.slice x.A x.len x.cap) := fun q => (q.h.cell (p := ⟨b, off + n * 2 + 1, none⟩) hbl).trans x1
      have hM0 := fun q : Ext wr => Ext.same2 (key_any x.key q.X)
      have hC0 := fun q : Ext wr => Ext.call (r8chk_any x.A x.len x.cap x.vs q.X ((hv.below q.h).more q.h.size) hxl)
      have hE : decide (x.vs ≠ []) = !decide (x.len = 0) := by
        rw [← hvl]; cases x.vs <;> simp
      rw [hE] at hst
      have f1 : (0 : Int) ≤ (n : Int) := by omega
      have f2 : (n : Int) < (len : Int) := by omega
      generalize hpb : preH L n x.key = pb at hst
      generalize hcb : chkB x.vs = cb at hst hC0
      generalize hkb : keyB x.key = kb at hst hM0
      have Hst := Lib.hid hst
      have Hpb := Lib.hid hpb
      clear hst hno hLn hx hv hvl hxc hxn hE hpb hcb hkb x0 x1
      cases kb
      · have hM : Hid (∀ q : Ext wr, Calls Tryz.prog 88 #[.string x.key] q.X fun e w'' => e = .returned (.bool false) ∧ ∃ m : Ext wr, w'' = m.X) := Lib.hid hM0
        have hC := Lib.hid hC0
        have Hbd : Hid (mayH (L.take (n + 1)) = false) := Lib.hid (by rw [Hst.out, HM.out]; rfl)
        clear hM0 hC0
        go_upto_region 4 with fail
        refine wp_region_ext (by kernel_rfl) (by kernel_rfl) ?_
        repeat (go_big_quiet_step ((first | (go_at_call 88; exact hM.out _) | (go_at_call 89; exact hC.out _))))
        refine Ext.end_ fun X hX => ?_
        have HX := Lib.hid (HB.out.trans (hX.mono hsr))
        clear k1 k2 hX
        go_wp2_with fail
        go_ret
        exact Hf.out false _ (Hno.out Hbd.out).symm HX.out
      · have hM : Hid (∀ q : Ext wr, Calls Tryz.prog 88 #[.string x.key] q.X fun e w'' => e = .returned (.bool true) ∧ ∃ m : Ext wr, w'' = m.X) := Lib.hid hM0
        clear hM0
        rcases Nat.eq_zero_or_pos n with h0 | h0
        · have d1 : decide ((0 : Int) < (n : Int)) = false := by simp; omega
          have d2 : decide (0 < n) = false := by simp; omega
          obtain rfl : pb = true := by rw [← Hpb.out]; simp [preH, h0]
          clear h0
          by_cases hxz : x.len = 0
          · have g1 : ((x.len : Int) == 0) = true := by simp [hxz]
            have g2 : (x.len == 0) = true := by simp [hxz]
            have hC := Lib.hid hC0
            have Hbd : Hid (mayH (L.take (n + 1)) = false) := Lib.hid (by rw [Hst.out, HM.out]; simp [hxz])
            clear hC0 hxz
            go_upto_region 4 with fail
            refine wp_region_ext (by kernel_rfl) (by kernel_rfl) ?_
            repeat (go_big_quiet_step ((first | (go_at_call 88; exact hM.out _) | (go_at_call 89; exact hC.out _))))
            refine Ext.end_ fun X hX => ?_
            have HX := Lib.hid (HB.out.trans (hX.mono hsr))
            clear k1 k2 hX
            go_wp2_with fail
            go_ret
            exact Hf.out false _ (Hno.out Hbd.out).symm HX.out
          · have g1 : ((x.len : Int) == 0) = false := by simp; omega
            have g2 : (x.len == 0) = false := by simp; omega
            cases cb
            · have hC : Hid (∀ q : Ext wr, Calls Tryz.prog 89 #[.slice x.A x.len x.cap] q.X fun e w'' => e = .returned (.int .i64 1) ∧ ∃ m : Ext wr, w'' = m.X) := Lib.hid hC0
              have Hbd : Hid (mayH (L.take (n + 1)) = false) := Lib.hid (by rw [Hst.out, HM.out]; simp)
              clear hC0
              go_upto_region 4 with fail
              refine wp_region_ext (by kernel_rfl) (by kernel_rfl) ?_
              repeat (go_big_quiet_step ((first | (go_at_call 88; exact hM.out _) | (go_at_call 89; exact hC.out _))))
              refine Ext.end_ fun X hX => ?_
              have HX := Lib.hid (HB.out.trans (hX.mono hsr))
              clear k1 k2 hX
              go_wp2_with fail
              go_ret
              exact Hf.out false _ (Hno.out Hbd.out).symm HX.out
            · have hC : Hid (∀ q : Ext wr, Calls Tryz.prog 89 #[.slice x.A x.len x.cap] q.X fun e w'' => e = .returned (.int .i64 0) ∧ ∃ m : Ext wr, w'' = m.X) := Lib.hid hC0
              have Hxl0 := Lib.hid hxz
              clear hC0
              have Hmt : Hid (mayH (L.take (n + 1)) = true) := Lib.hid (by rw [Hst.out, HM.out]; simpa using Hxl0.out)
              go_upto_region 4 with fail
              refine wp_region_ext (by kernel_rfl) (by kernel_rfl) ?_
              repeat (go_big_quiet_step ((first | (go_at_call 88; exact hM.out _) | (go_at_call 89; exact hC.out _))))
              refine Ext.end_ fun X hX => ?_
              have HX := Lib.hid (HB.out.trans (hX.mono hsr))
              clear k1 k2 hX
              go_wp2_with fail
              exact ⟨⟨n + 1, by omega, by go_num, Hmt, HX⟩, by simp [RowKit.intOf]; omega⟩
        · obtain ⟨b', off', y, he, hbl', hy, y0, -, -, -, -⟩ := (Hrow.out wr HB.out).cell2 (i := n - 1) (by omega)
          injection he with he; injection he with he1 he2; subst he1 he2
          have hly := Hget.out _ y hy
          have hpy : preH L n x.key = ltB y.key x.key := by unfold preH; rw [hly]; simp; omega
          have e1 : IntKind.i64.wrap ((n : Int) - 1) = (n : Int) - 1 := IntWalk.i64_in _ (by omega)
          have e2 : (0 : Int) ≤ (n : Int) - 1 := by omega
          have e3 : ((n : Int) - 1).toNat = n - 1 := by omega
          have e4 : (n : Int) - 1 < (len : Int) := by omega
          have e5 : (1 : Int) ≤ (n : Int) := by omega
          have d1 : decide ((0 : Int) < (n : Int)) = true := by simp; omega
          have d2 : decide (0 < n) = true := by simp; omega
          have k3 : ∀ q : Ext wr, q.X.cell? ⟨b, off + (n - 1) * 2, none⟩ = some (.string y.key) := fun q => (q.h.cell (p := ⟨b, off + (n - 1) * 2, none⟩) hbl).trans y0
          have e6 := less_eq y.key x.key
          rw [← hpy, Hpb.out] at e6
          clear hy hly hpy y0
          cases pb
          · have hC := Lib.hid hC0
            have Hbd : Hid (mayH (L.take (n + 1)) = false) := Lib.hid (by rw [Hst.out, HM.out]; rfl)
            clear hC0
            go_upto_region 4 with fail
            refine wp_region_ext (by kernel_rfl) (by kernel_rfl) ?_
            repeat (go_big_quiet_step ((first | (go_at_call 88; exact hM.out _) | (go_at_call 89; exact hC.out _))))
            refine Ext.end_ fun X hX => ?_
            have HX := Lib.hid (HB.out.trans (hX.mono hsr))
            clear k1 k2 hX
            go_wp2_with fail
            go_ret
            exact Hf.out false _ (Hno.out Hbd.out).symm HX.out
          · skip
            by_cases hxz : x.len = 0
            · have g1 : ((x.len : Int) == 0) = true := by simp [hxz]
              have g2 : (x.len == 0) = true := by simp [hxz]
              have hC := Lib.hid hC0
              have Hbd : Hid (mayH (L.take (n + 1)) = false) := Lib.hid (by rw [Hst.out, HM.out]; simp [hxz])
              clear hC0 hxz
              go_upto_region 4 with fail
              refine wp_region_ext (by kernel_rfl) (by kernel_rfl) ?_
              repeat (go_big_quiet_step ((first | (go_at_call 88; exact hM.out _) | (go_at_call 89; exact hC.out _))))
              refine Ext.end_ fun X hX => ?_
              have HX := Lib.hid (HB.out.trans (hX.mono hsr))
              clear k1 k2 hX
              go_wp2_with fail
              go_ret
              exact Hf.out false _ (Hno.out Hbd.out).symm HX.out
            · have g1 : ((x.len : Int) == 0) = false := by simp; omega
              have g2 : (x.len == 0) = false := by simp; omega
              cases cb
              · have hC : Hid (∀ q : Ext wr, Calls Tryz.prog 89 #[.slice x.A x.len x.cap] q.X fun e w'' => e = .returned (.int .i64 1) ∧ ∃ m : Ext wr, w'' = m.X) := Lib.hid hC0
                have Hbd : Hid (mayH (L.take (n + 1)) = false) := Lib.hid (by rw [Hst.out, HM.out]; simp)
                clear hC0
                go_upto_region 4 with fail
                refine wp_region_ext (by kernel_rfl) (by kernel_rfl) ?_
                repeat (go_big_quiet_step ((first | (go_at_call 88; exact hM.out _) | (go_at_call 89; exact hC.out _))))
                refine Ext.end_ fun X hX => ?_
                have HX := Lib.hid (HB.out.trans (hX.mono hsr))
                clear k1 k2 hX
                go_wp2_with fail
                go_ret
                exact Hf.out false _ (Hno.out Hbd.out).symm HX.out
              · have hC : Hid (∀ q : Ext wr, Calls Tryz.prog 89 #[.slice x.A x.len x.cap] q.X fun e w'' => e = .returned (.int .i64 0) ∧ ∃ m : Ext wr, w'' = m.X) := Lib.hid hC0
                have Hxl0 := Lib.hid hxz
                clear hC0
                have Hmt : Hid (mayH (L.take (n + 1)) = true) := Lib.hid (by rw [Hst.out, HM.out]; simpa using Hxl0.out)
                go_upto_region 4 with fail
                refine wp_region_ext (by kernel_rfl) (by kernel_rfl) ?_
                repeat (go_big_quiet_step ((first | (go_at_call 88; exact hM.out _) | (go_at_call 89; exact hC.out _))))
                refine Ext.end_ fun X hX => ?_
                have HX := Lib.hid (HB.out.trans (hX.mono hsr))
                clear k1 k2 hX
                go_wp2_with fail
                exact ⟨⟨n + 1, by omega, by go_num, Hmt, HX⟩, by simp [RowKit.intOf]; omega⟩
    · obtain rfl : n = len := by omega
      have Hq : Hid (true = mayH L) := Lib.hid (by have := HM.out; rw [List.take_of_length_le (by rw [Hpl.out]; exact Nat.le_refl _)] at this; exact this.symm)
      go_wp2_with fail
      go_ret
      exact Hf.out true _ Hq.out HB.out
end Go.Proofs.YtfpcgfgofemhoaaGreat

/- towpathref09: Load; towpathref15: Key, noWrite, Above, May. -/
namespace Go.Proofs.YtfpcgfgofemhoaaGreat
open Go.RowKit
set_option linter.unusedVariables false
set_option linter.unusedSimpArgs false

set_option maxRecDepth 100000
theorem HRow.rs {w : World} {B : Nat} {v : Value} {hs : List HR} (h : HRow w B v hs) (ok : HsOk (plainR hs)) :
    ∃ A cap, v = .slice A hs.length cap ∧ RsAt (w.alloc (.cells #[v] 114)) w.heap.size A hs.length cap (plainR hs) ∧ ∀ a, A = some a → B ≤ a.block := by
  obtain ⟨A, cap, rfl, hh, hc, hn⟩ := h.hds
  have hb : Below w.heap.size w (w.alloc (.cells #[.slice A hs.length cap] 114)) := bel_alloc (Below.refl _ _) _
  have hfr : ∀ a, A = some a → B ≤ a.block ∧ ∃ cs, w.heap[a.block]? = some (.cells cs 70 (0, 0)) := fun a e => by
    obtain ⟨-, h0 | ⟨g', cap', cur, hv, hg', hh', -⟩⟩ := h.1
    · have := h0.1; rw [e] at this; simp at this
    · rw [e] at hv
      injection hv with hv1
      injection hv1 with hv1
      subst hv1
      exact ⟨hg', cur, hh'⟩
  refine ⟨A, cap, rfl, ⟨hs, blk_new _ _, (hh.1.below hb).more hb.size, fun r hr => ?_, rfl, ok, hc, hn, fun a e hp => ?_⟩, fun a e => (hfr a e).1⟩
  · obtain ⟨g1, g2, g3⟩ := hh.2 r hr
    obtain ⟨o1, o2, -⟩ := h.2 r hr
    have hty : TyV w r.A r.len := by
      have : OwnV w B (.slice r.A r.len r.cap) r.vs := by unfold OwnV; rw [o2]; exact o1
      exact OwnV.ty this _
    exact (show HrAt w r from ⟨g1, g2, g3, hty⟩).kept (X := fun _ => False) (Kept.of_below hb) (fun b hb => hb.elim)
  · obtain ⟨-, cs, hc⟩ := hfr a e
    exact ⟨cs, (hb.block _ (blk_lt hc)).trans hc⟩
def R9Load (w : World) (L : Hs) (e : Ending) (w' : World) : Prop :=
  Below w.heap.size w w' ∧ (mayH L = true → ∃ s A cap, e = .returned (.tuple #[.pointer (some ⟨s, 0, none⟩), .int .i64 0]) ∧ RsAt w' s A L.length cap L ∧ w.heap.size ≤ s ∧ ∀ a, A = some a → w.heap.size ≤ a.block) ∧ (mayH L = false → e = .returned (.tuple #[.pointer none, .int .i64 1]))
theorem r9load_any (A : Option Addr) (len cap : Nat) (hs : List HR) (w : World) (hw : HdsAt w w.heap.size A len hs) (hl : len ≤ 3518437208883) (hlv : ∀ h ∈ hs, h.len ≤ 4398046511104) :
    Calls Tryz.prog 30 #[.slice A len cap] w (R9Load w (plainR hs)) := by
  have Hm := Lib.hid (r9may_any A len cap hs w hw hl hlv)
  have Ho := Lib.hid (fun X (hX : Below w.heap.size w X) => r9own_any A len cap hs X ((hw.below hX).more hX.size) hl hlv)
  generalize hL : plainR hs = L at *
  clear hw hlv hL
  go_enter Tryz.func30, Tryz.ntmps30
  go_wp2_with fail
  refine Hm.out.mono ?_
  rintro e w1 ⟨rfl, hb1⟩
  have HB1 := Lib.hid hb1
  clear hb1
  cases hm : mayH L
  · have Hmm := Lib.hid hm
    clear hm
    go_wp2_with fail
    go_ret2
    exact ⟨HB1.out, fun h => (by rw [Hmm.out] at h; cases h), fun _ => rfl⟩
  · have Hmm := Lib.hid hm
    clear hm
    go_wp2_with fail
    refine (Ho.out _ HB1.out).mono ?_
    rintro e w2 ⟨v, gs, rfl, hrow, hp, hb2⟩
    have HB2 := Lib.hid (HB1.out.trans (hb2.mono HB1.out.size))
    obtain ⟨A2, cap2, rfl, hrs, hfr⟩ := hrow.rs (by rw [hp]; exact mayH_iff.1 Hmm.out)
    have Hrs := Lib.hid hrs
    have Hfr := Lib.hid hfr
    have Hp := Lib.hid hp
    have Hgl : Hid (gs.length = L.length) := Lib.hid (by rw [← hp]; simp [plainR])
    clear hrow hp hb2 hrs hfr
    go_wp2_with fail
    go_ret2
    refine ⟨bel_alloc HB2.out _, fun _ => ⟨w2.heap.size, A2, cap2, rfl, ?_, HB2.out.size, fun a e => Nat.le_trans HB1.out.size (Hfr.out a e)⟩, fun h => (by rw [Hmm.out] at h; cases h)⟩
    rw [← Hp.out]
    have := Hrs.out
    simpa [plainR] using this
theorem r15key_any (k : ByteArray) (w : World) :
    Calls Tryz.prog 80 #[.string k] w fun e w' => e = .returned (.bool (keyB k)) ∧ w = w' := by
  go_enter Tryz.func80, Tryz.ntmps80
  go_wp2
  all_goals go_ret
  all_goals exact ⟨ret_bool (by simp only [keyB]; grind), rfl⟩
theorem r15nowr_any (k v : ByteArray) (d : Bool) (w : World) :
    Calls Tryz.prog 81 #[.agg #[.string k, .string v, .bool d]] w fun e w' => e = .returned (.bool (decide (k.size = 0) && decide (v.size = 0) && !d)) ∧ Below w.heap.size w w' := by
  have hk : k.size = 0 ↔ k = ByteArray.empty := ByteArray.size_eq_zero_iff
  have hv : v.size = 0 ↔ v = ByteArray.empty := ByteArray.size_eq_zero_iff
  have hk2 := toList_nil k
  have hv2 := toList_nil v
  go_enter Tryz.func81, Tryz.ntmps81
  go_wp2
  all_goals go_ret
  all_goals exact ⟨ret_bool (by grind), bel_alloc (Below.refl _ _) _⟩
set_option maxHeartbeats 1000000 in
theorem r15above_any (A : Option Addr) (len cap : Nat) (l : List Int) (than : Int) (w : World) (hi : RowAt Icell 1 w w.heap.size A len l) (hl : len ≤ 17592186044416) :
    Calls Tryz.prog 82 #[.slice A len cap, .int .i64 than] w fun e w' => e = .returned (.bool (aboveB l than)) ∧ Below w.heap.size w w' := by
  have hlen := Lib.hid hi.len
  have hfin : ∀ (q : Bool) (w' : World), aboveB l than = q → Below w.heap.size w w' → (Ending.returned (.bool q) = .returned (.bool (aboveB l than)) ∧ Below w.heap.size w w') := fun q w' h h' => by subst h; exact ⟨rfl, h'⟩
  have Hf := Lib.hid hfin
  clear hfin
  go_enter Tryz.func82, Tryz.ntmps82
  go_wp2_with fail
  go_loopw [1, 5] (fun t i wr => ∃ (j : Nat) (q : Int), j ≤ len ∧ i = .int .i64 j ∧ t = .int .i64 q ∧ Hid (aboveB l than = aboveB (l.drop j) q) ∧ Below w.heap.size w wr) (fun _ i _ => len - (RowKit.intOf i).toNat)
  case atStart => exact ⟨0, than, by omega, rfl, rfl, Lib.hid rfl, Below.refl _ _⟩
  case round =>
    obtain ⟨j, q, hj, rfl, rfl, He, hb⟩ := hrel
    have hr := hi.below hb
    have Hb := Lib.hid hb
    clear hb
    by_cases hlt : j < len
    · obtain ⟨b, off, x, rfl, hbl, hx, hc⟩ := hr.at_ hlt
      have x0 := hc 0 _ rfl
      simp only [Nat.mul_one, Nat.add_zero] at x0
      have hd := aboveB_drop (t := q) hx
      have Hd := Lib.hid hd
      clear hx hr hc hd
      by_cases h1 : x ≤ q
      · go_wp2_with fail
        go_ret
        exact Hf.out _ _ (by rw [He.out, Hd.out, if_pos h1]) Hb.out
      · by_cases h2 : 65536 < x
        · go_wp2_with fail
          go_ret
          exact Hf.out _ _ (by rw [He.out, Hd.out, if_neg (by omega), if_pos (by omega)]) Hb.out
        · go_wp2_with fail
          exact ⟨⟨j + 1, _, by omega, by go_num, rfl, Lib.hid (by rw [He.out, Hd.out, if_neg (by omega), if_neg (by omega)]), Hb.out⟩, by simp [RowKit.intOf]; omega⟩
    · go_wp2_with fail
      go_ret
      exact Hf.out _ _ (by rw [He.out, List.drop_of_length_le (by have := hlen.out; omega)]; rfl) Hb.out
set_option maxHeartbeats 8000000 in
theorem r15may_any (r : Rq) (w : World) (hi : RowAt Icell 1 w w.heap.size r.A r.len r.bs) (hl : r.len ≤ 17592186044416) :
    Calls Tryz.prog 45 #[r.val] w fun e w' => e = .returned (.bool (mayR r)) ∧ Below w.heap.size w w' := by
  have hpost : ∀ (q : Bool) (X : World), mayR r = q → Below w.heap.size w X → (Ending.returned (.bool q) = .returned (.bool (mayR r)) ∧ Below w.heap.size w X) := fun q X h h' => by subst h; exact ⟨rfl, h'⟩
  have Hpost := Lib.hid hpost
  have hab : ∀ X, Below w.heap.size w X → Calls Tryz.prog 82 #[.slice r.A r.len r.cap, .int .i64 r.num] X fun e w' => e = .returned (.bool (aboveB r.bs r.num)) ∧ Below X.heap.size X w' := fun X hX => r15above_any r.A r.len r.cap r.bs r.num X ((hi.below hX).more hX.size) hl
  have Hab := Lib.hid hab
  clear hpost hab hi
  obtain ⟨kind, from_, num, wk, wv, wd, key, fin, A, len, cap, bs⟩ := r
  have tf := Lib.hid (toList_nil fin)
  have tv := Lib.hid (toList_nil wv)
  unfold Rq.val
  simp only at *
  go_enter Tryz.func45, Tryz.ntmps45
  go_upto_region 1 with fail
  obtain ⟨W, hW⟩ : ∃ W, W = w.alloc (.cells #[.int .u8 kind, .int .i64 from_, .int .i64 num, .string wk, .string wv, .bool wd, .string key, .string fin, .slice A len cap] 36) := ⟨_, rfl⟩
  rw [← hW]
  have HB : Hid (Below w.heap.size w W) := Lib.hid (hW ▸ bel_alloc (Below.refl _ _) _)
  have hN : W.heap[w.heap.size]? = some (.cells #[.int .u8 kind, .int .i64 from_, .int .i64 num, .string wk, .string wv, .bool wd, .string key, .string fin, .slice A len cap] 36 (0, 0)) := hW ▸ blk_new _ _
  obtain ⟨z0, z1, z2, z3, z4, z5, z6, z7, z8⟩ := rqz kind from_ num wk wv wd key fin A len cap hN
  have hsz0 : w.heap.size < W.heap.size := blk_lt hN
  have HZ := Lib.hid (fun X (hX : Below W.heap.size W X) => rqz kind from_ num wk wv wd key fin A len cap ((hX.block _ (blk_lt hN)).trans hN))
  clear hW hN
  obtain ⟨mk, hmk⟩ : ∃ mk, mk = (decide (0 ≤ num) && decide (num ≤ 65536)) := ⟨_, rfl⟩
  have Hmk := Lib.hid hmk
  obtain ⟨bb, hbb⟩ : ∃ bb, bb = (decide (key.size = 0) && decide (fin.size = 0)) := ⟨_, rfl⟩
  have Hbb := Lib.hid hbb
  have hkey := r15key_any key
  have hkeyw := r15key_any wk
  obtain ⟨kb, hkb⟩ : ∃ kb, kb = keyB key := ⟨_, rfl⟩
  obtain ⟨wb, hwb⟩ : ∃ wb, wb = keyB wk := ⟨_, rfl⟩
  obtain ⟨zw, hzw⟩ : ∃ zw, zw = (decide (wk.size = 0) && decide (wv.size = 0) && !wd) := ⟨_, rfl⟩
  have hzwc := r15nowr_any wk wv wd
  rw [← hzw] at hzwc
  rw [← hkb] at hkey
  rw [← hwb] at hkeyw
  have Hkey := Lib.hid hkey
  have Hkeyw := Lib.hid hkeyw
  have Hzw := Lib.hid hzwc
  have hmay : mayR ⟨kind, from_, num, wk, wv, wd, key, fin, A, len, cap, bs⟩ = (if kind ≠ 5 ∧ 0 < len then false
    else if kind = 1 then decide (0 < from_) && mk && decide (0 < num) && bb && wb && valB wv && (!wd || decide (wv.size = 0))
    else if kind = 2 then decide (from_ ≠ 0) && mk && zw && kb && decide (fin.size = 0)
    else if kind = 3 then decide (from_ ≠ 0) && mk && zw && decide (key.size ≤ 64) && decide (fin.size ≤ 64)
    else if kind = 4 then decide (from_ ≠ 0) && mk && zw && bb
    else if kind = 5 then decide (from_ ≠ 0) && mk && zw && bb && aboveB bs num
    else false) := by subst hmk hbb hkb hwb hzw; rfl
  have Hmay := Lib.hid hmay
  clear hmk hbb hkb hwb hzw hkey hkeyw hzwc hmay
  go_cut [3] (fun s wx => s = .bool mk ∧ wx = W)
  case first => as_aux_lemma =>
    go_wp2_with fail
    all_goals go_meet
    all_goals (case rel => exact ⟨by have := Hmk.out; grind, rfl⟩)
  case rest =>
    obtain ⟨rfl, rfl⟩ := hcut
    go_upto_region 2 with fail
    go_cut [4] (fun s wx => s = .bool bb ∧ wx = wc)
    case first => as_aux_lemma =>
      go_wp2_with fail
      all_goals go_meet
      all_goals (case rel => exact ⟨by have := Hbb.out; have q1 := tf.out; have q2 := toList_nil key; clear Hpost Hab HB HZ Hkey Hkeyw Hzw Hmay; grind, rfl⟩)
    case rest =>
      obtain ⟨rfl, rfl⟩ := hcut
      clear Hmk Hbb
      by_cases hfr : from_ = 0
      · subst hfr
        have E : Hid (mayR ⟨kind, 0, num, wk, wv, wd, key, fin, A, len, cap, bs⟩ = false) := Lib.hid (by rw [Hmay.out]; simp)
        clear Hmay
        go_wp2_with fail
        go_ret
        exact Hpost.out _ _ E.out HB.out
      · have hfr2 : decide (from_ ≠ 0) = true := by simpa using hfr
        by_cases h1 : kind = 1
        · subst h1
          have E : Hid (mayR ⟨1, from_, num, wk, wv, wd, key, fin, A, len, cap, bs⟩ = (decide (0 < from_) && mk && decide (0 < num) && bb && wb && valB wv && (!wd || decide (wv.size = 0)) && decide (len = 0))) := Lib.hid (by
            rw [Hmay.out]
            rcases Nat.eq_zero_or_pos len with h | h
            · simp [h]
            · simp [h]; omega)
          clear Hmay Hab hfr2
          by_cases hf0 : 0 < from_
          · by_cases hn1 : 0 < num
            · have hn2 : (1 : Int) ≤ num := by omega
              cases mk
              · as_aux_lemma =>
                go_wp2_with fail
                all_goals go_ret
                all_goals refine Hpost.out _ _ ?_ (by first | exact HBx.out | exact HB.out | exact bel_alloc HB.out _ | exact bel_set (bel_set (bel_set (bel_alloc HB.out _) HB.out.size _) HB.out.size _) HB.out.size _)
                all_goals (rw [E.out]; have q1 := tf.out; have q2 := tv.out; clear Hpost E HB HZ Hkey Hzw tf tv)
                all_goals (try clear HBx)
                all_goals (have hb0 : ((len : Int) == 0) = decide (len = 0) := by (rw [Bool.eq_iff_iff]; simp))
                all_goals first | (simp; done) | (simp [hb0]; done) | (simp [hb0, valB]; grind) | grind | (simp only [valB]; grind) | trace_state
              · go_wp2_with fail
                refine (Hkeyw.out _).mono ?_
                rintro e w8 ⟨rfl, rfl⟩
                cases wb
                · as_aux_lemma =>
                  go_wp2_with fail
                  all_goals go_ret
                  all_goals refine Hpost.out _ _ ?_ (by first | exact HBx.out | exact HB.out | exact bel_alloc HB.out _ | exact bel_set (bel_set (bel_set (bel_alloc HB.out _) HB.out.size _) HB.out.size _) HB.out.size _)
                  all_goals (rw [E.out]; have q1 := tf.out; have q2 := tv.out; clear Hpost E HB HZ Hkey Hzw tf tv)
                  all_goals (try clear HBx)
                  all_goals (have hb0 : ((len : Int) == 0) = decide (len = 0) := by (rw [Bool.eq_iff_iff]; simp))
                  all_goals first | (simp; done) | (simp [hb0]; done) | (simp [hb0, valB]; grind) | grind | (simp only [valB]; grind) | trace_state
                · cases bb
                  · as_aux_lemma =>
                    go_wp2_with fail
                    all_goals go_ret
                    all_goals refine Hpost.out _ _ ?_ (by first | exact HBx.out | exact HB.out | exact bel_alloc HB.out _ | exact bel_set (bel_set (bel_set (bel_alloc HB.out _) HB.out.size _) HB.out.size _) HB.out.size _)
                    all_goals (rw [E.out]; have q1 := tf.out; have q2 := tv.out; clear Hpost E HB HZ Hkey Hzw tf tv)
                    all_goals (try clear HBx)
                    all_goals (have hb0 : ((len : Int) == 0) = decide (len = 0) := by (rw [Bool.eq_iff_iff]; simp))
                    all_goals first | (simp; done) | (simp [hb0]; done) | (simp [hb0, valB]; grind) | grind | (simp only [valB]; grind) | trace_state
                  · as_aux_lemma =>
                    go_wp2_with fail
                    all_goals go_ret
                    all_goals refine Hpost.out _ _ ?_ (by first | exact HBx.out | exact HB.out | exact bel_alloc HB.out _ | exact bel_set (bel_set (bel_set (bel_alloc HB.out _) HB.out.size _) HB.out.size _) HB.out.size _)
                    all_goals (rw [E.out]; have q1 := tf.out; have q2 := tv.out; clear Hpost E HB HZ Hkey Hzw tf tv)
                    all_goals (try clear HBx)
                    all_goals (have hb0 : ((len : Int) == 0) = decide (len = 0) := by (rw [Bool.eq_iff_iff]; simp))
                    all_goals first | (simp; done) | (simp [hb0]; done) | (simp [hb0, valB]; grind) | grind | (simp only [valB]; grind) | trace_state
            · as_aux_lemma =>
              go_wp2_with fail
              all_goals go_ret
              all_goals refine Hpost.out _ _ ?_ (by first | exact HBx.out | exact HB.out | exact bel_alloc HB.out _ | exact bel_set (bel_set (bel_set (bel_alloc HB.out _) HB.out.size _) HB.out.size _) HB.out.size _)
              all_goals (rw [E.out]; have q1 := tf.out; have q2 := tv.out; clear Hpost E HB HZ Hkey Hzw tf tv)
              all_goals (try clear HBx)
              all_goals (have hb0 : ((len : Int) == 0) = decide (len = 0) := by (rw [Bool.eq_iff_iff]; simp))
              all_goals first | (simp; done) | (simp [hb0]; done) | (simp [hb0, valB]; grind) | grind | (simp only [valB]; grind) | trace_state
          · as_aux_lemma =>
            go_wp2_with fail
            all_goals go_ret
            all_goals refine Hpost.out _ _ ?_ (by first | exact HBx.out | exact HB.out | exact bel_alloc HB.out _ | exact bel_set (bel_set (bel_set (bel_alloc HB.out _) HB.out.size _) HB.out.size _) HB.out.size _)
            all_goals (rw [E.out]; have q1 := tf.out; have q2 := tv.out; clear Hpost E HB HZ Hkey Hzw tf tv)
            all_goals (try clear HBx)
            all_goals (have hb0 : ((len : Int) == 0) = decide (len = 0) := by (rw [Bool.eq_iff_iff]; simp))
            all_goals first | (simp; done) | (simp [hb0]; done) | (simp [hb0, valB]; grind) | grind | (simp only [valB]; grind) | trace_state
        · by_cases h2 : kind = 2
          · subst h2
            have E : Hid (mayR ⟨2, from_, num, wk, wv, wd, key, fin, A, len, cap, bs⟩ = (mk && zw && kb && decide (fin.size = 0) && decide (len = 0))) := Lib.hid (by
              rw [Hmay.out, hfr2]
              rcases Nat.eq_zero_or_pos len with h | h
              · simp [h]
              · simp [h]; omega)
            clear Hmay hfr2 Hkeyw Hab h1
            cases mk
            · as_aux_lemma =>
              go_wp2_with fail
              all_goals go_ret
              all_goals refine Hpost.out _ _ ?_ (by first | exact HBx.out | exact HB.out | exact bel_alloc HB.out _ | exact bel_set (bel_set (bel_set (bel_alloc HB.out _) HB.out.size _) HB.out.size _) HB.out.size _)
              all_goals (rw [E.out]; have q1 := tf.out; have q2 := tv.out; clear Hpost E HB HZ Hkey Hzw tf tv)
              all_goals (try clear HBx)
              all_goals (have hb0 : ((len : Int) == 0) = decide (len = 0) := by (rw [Bool.eq_iff_iff]; simp))
              all_goals first | (simp; done) | (simp [hb0]; done) | (simp [hb0, valB]; grind) | grind | (simp only [valB]; grind) | trace_state
            · as_aux_lemma =>
              go_wp2_with fail
              refine (Hzw.out _).mono ?_
              rintro e w9 ⟨rfl, hb9⟩
              obtain ⟨z0, z1, z2, z3, z4, z5, z6, z7, z8⟩ := HZ.out w9 hb9
              have HBx := Lib.hid (HB.out.trans (hb9.mono HB.out.size))
              clear hb9
              cases zw
              · go_wp2_with fail
                all_goals go_ret
                all_goals refine Hpost.out _ _ ?_ (by first | exact HBx.out | exact HB.out | exact bel_alloc HB.out _ | exact bel_set (bel_set (bel_set (bel_alloc HB.out _) HB.out.size _) HB.out.size _) HB.out.size _)
                all_goals (rw [E.out]; have q1 := tf.out; have q2 := tv.out; clear Hpost E HB HZ Hkey Hzw tf tv)
                all_goals (try clear HBx)
                all_goals (have hb0 : ((len : Int) == 0) = decide (len = 0) := by (rw [Bool.eq_iff_iff]; simp))
                all_goals first | (simp; done) | (simp [hb0]; done) | (simp [hb0, valB]; grind) | grind | (simp only [valB]; grind) | trace_state
              · go_wp2_with fail
                refine (Hkey.out _).mono ?_
                rintro e w8 ⟨rfl, rfl⟩
                cases kb
                · go_wp2_with fail
                  all_goals go_ret
                  all_goals refine Hpost.out _ _ ?_ (by first | exact HBx.out | exact HB.out | exact bel_alloc HB.out _ | exact bel_set (bel_set (bel_set (bel_alloc HB.out _) HB.out.size _) HB.out.size _) HB.out.size _)
                  all_goals (rw [E.out]; have q1 := tf.out; have q2 := tv.out; clear Hpost E HB HZ Hkey Hzw tf tv)
                  all_goals (try clear HBx)
                  all_goals (have hb0 : ((len : Int) == 0) = decide (len = 0) := by (rw [Bool.eq_iff_iff]; simp))
                  all_goals first | (simp; done) | (simp [hb0]; done) | (simp [hb0, valB]; grind) | grind | (simp only [valB]; grind) | trace_state
                · go_wp2_with fail
                  all_goals go_ret
                  all_goals refine Hpost.out _ _ ?_ (by first | exact HBx.out | exact HB.out | exact bel_alloc HB.out _ | exact bel_set (bel_set (bel_set (bel_alloc HB.out _) HB.out.size _) HB.out.size _) HB.out.size _)
                  all_goals (rw [E.out]; have q1 := tf.out; have q2 := tv.out; clear Hpost E HB HZ Hkey Hzw tf tv)
                  all_goals (try clear HBx)
                  all_goals (have hb0 : ((len : Int) == 0) = decide (len = 0) := by (rw [Bool.eq_iff_iff]; simp))
                  all_goals first | (simp; done) | (simp [hb0]; done) | (simp [hb0, valB]; grind) | grind | (simp only [valB]; grind) | trace_state
          · by_cases h3 : kind = 3
            · subst h3
              have E : Hid (mayR ⟨3, from_, num, wk, wv, wd, key, fin, A, len, cap, bs⟩ = (mk && zw && decide (key.size ≤ 64) && decide (fin.size ≤ 64) && decide (len = 0))) := Lib.hid (by
                rw [Hmay.out, hfr2]
                rcases Nat.eq_zero_or_pos len with h | h
                · simp [h]
                · simp [h]; omega)
              clear Hmay hfr2 Hkeyw Hab h1 h2
              cases mk
              · as_aux_lemma =>
                go_wp2_with fail
                all_goals go_ret
                all_goals refine Hpost.out _ _ ?_ (by first | exact HBx.out | exact HB.out | exact bel_alloc HB.out _ | exact bel_set (bel_set (bel_set (bel_alloc HB.out _) HB.out.size _) HB.out.size _) HB.out.size _)
                all_goals (rw [E.out]; have q1 := tf.out; have q2 := tv.out; clear Hpost E HB HZ Hkey Hzw tf tv)
                all_goals (try clear HBx)
                all_goals (have hb0 : ((len : Int) == 0) = decide (len = 0) := by (rw [Bool.eq_iff_iff]; simp))
                all_goals first | (simp; done) | (simp [hb0]; done) | (simp [hb0, valB]; grind) | grind | (simp only [valB]; grind) | trace_state
              · as_aux_lemma =>
                go_wp2_with fail
                refine (Hzw.out _).mono ?_
                rintro e w9 ⟨rfl, hb9⟩
                obtain ⟨z0, z1, z2, z3, z4, z5, z6, z7, z8⟩ := HZ.out w9 hb9
                have HBx := Lib.hid (HB.out.trans (hb9.mono HB.out.size))
                clear hb9
                cases zw
                · go_wp2_with fail
                  all_goals go_ret
                  all_goals refine Hpost.out _ _ ?_ (by first | exact HBx.out | exact HB.out | exact bel_alloc HB.out _ | exact bel_set (bel_set (bel_set (bel_alloc HB.out _) HB.out.size _) HB.out.size _) HB.out.size _)
                  all_goals (rw [E.out]; have q1 := tf.out; have q2 := tv.out; clear Hpost E HB HZ Hkey Hzw tf tv)
                  all_goals (try clear HBx)
                  all_goals (have hb0 : ((len : Int) == 0) = decide (len = 0) := by (rw [Bool.eq_iff_iff]; simp))
                  all_goals first | (simp; done) | (simp [hb0]; done) | (simp [hb0, valB]; grind) | grind | (simp only [valB]; grind) | trace_state
                · go_wp2_with fail
                  all_goals go_ret
                  all_goals refine Hpost.out _ _ ?_ (by first | exact HBx.out | exact HB.out | exact bel_alloc HB.out _ | exact bel_set (bel_set (bel_set (bel_alloc HB.out _) HB.out.size _) HB.out.size _) HB.out.size _)
                  all_goals (rw [E.out]; have q1 := tf.out; have q2 := tv.out; clear Hpost E HB HZ Hkey Hzw tf tv)
                  all_goals (try clear HBx)
                  all_goals (have hb0 : ((len : Int) == 0) = decide (len = 0) := by (rw [Bool.eq_iff_iff]; simp))
                  all_goals first | (simp; done) | (simp [hb0]; done) | (simp [hb0, valB]; grind) | grind | (simp only [valB]; grind) | trace_state
            · by_cases h4 : kind = 4
              · subst h4
                have E : Hid (mayR ⟨4, from_, num, wk, wv, wd, key, fin, A, len, cap, bs⟩ = (mk && zw && bb && decide (len = 0))) := Lib.hid (by
                  rw [Hmay.out, hfr2]
                  rcases Nat.eq_zero_or_pos len with h | h
                  · simp [h]
                  · simp [h]; omega)
                clear Hmay hfr2 Hkeyw Hab h1 h2 h3
                cases mk
                · as_aux_lemma =>
                  go_wp2_with fail
                  all_goals go_ret
                  all_goals refine Hpost.out _ _ ?_ (by first | exact HBx.out | exact HB.out | exact bel_alloc HB.out _ | exact bel_set (bel_set (bel_set (bel_alloc HB.out _) HB.out.size _) HB.out.size _) HB.out.size _)
                  all_goals (rw [E.out]; have q1 := tf.out; have q2 := tv.out; clear Hpost E HB HZ Hkey Hzw tf tv)
                  all_goals (try clear HBx)
                  all_goals (have hb0 : ((len : Int) == 0) = decide (len = 0) := by (rw [Bool.eq_iff_iff]; simp))
                  all_goals first | (simp; done) | (simp [hb0]; done) | (simp [hb0, valB]; grind) | grind | (simp only [valB]; grind) | trace_state
                · as_aux_lemma =>
                  go_wp2_with fail
                  refine (Hzw.out _).mono ?_
                  rintro e w9 ⟨rfl, hb9⟩
                  obtain ⟨z0, z1, z2, z3, z4, z5, z6, z7, z8⟩ := HZ.out w9 hb9
                  have HBx := Lib.hid (HB.out.trans (hb9.mono HB.out.size))
                  clear hb9
                  cases zw
                  · go_wp2_with fail
                    all_goals go_ret
                    all_goals refine Hpost.out _ _ ?_ (by first | exact HBx.out | exact HB.out | exact bel_alloc HB.out _ | exact bel_set (bel_set (bel_set (bel_alloc HB.out _) HB.out.size _) HB.out.size _) HB.out.size _)
                    all_goals (rw [E.out]; have q1 := tf.out; have q2 := tv.out; clear Hpost E HB HZ Hkey Hzw tf tv)
                    all_goals (try clear HBx)
                    all_goals (have hb0 : ((len : Int) == 0) = decide (len = 0) := by (rw [Bool.eq_iff_iff]; simp))
                    all_goals first | (simp; done) | (simp [hb0]; done) | (simp [hb0, valB]; grind) | grind | (simp only [valB]; grind) | trace_state
                  · cases bb
                    · go_wp2_with fail
                      all_goals go_ret
                      all_goals refine Hpost.out _ _ ?_ (by first | exact HBx.out | exact HB.out | exact bel_alloc HB.out _ | exact bel_set (bel_set (bel_set (bel_alloc HB.out _) HB.out.size _) HB.out.size _) HB.out.size _)
                      all_goals (rw [E.out]; have q1 := tf.out; have q2 := tv.out; clear Hpost E HB HZ Hkey Hzw tf tv)
                      all_goals (try clear HBx)
                      all_goals (have hb0 : ((len : Int) == 0) = decide (len = 0) := by (rw [Bool.eq_iff_iff]; simp))
                      all_goals first | (simp; done) | (simp [hb0]; done) | (simp [hb0, valB]; grind) | grind | (simp only [valB]; grind) | trace_state
                    · go_wp2_with fail
                      all_goals go_ret
                      all_goals refine Hpost.out _ _ ?_ (by first | exact HBx.out | exact HB.out | exact bel_alloc HB.out _ | exact bel_set (bel_set (bel_set (bel_alloc HB.out _) HB.out.size _) HB.out.size _) HB.out.size _)
                      all_goals (rw [E.out]; have q1 := tf.out; have q2 := tv.out; clear Hpost E HB HZ Hkey Hzw tf tv)
                      all_goals (try clear HBx)
                      all_goals (have hb0 : ((len : Int) == 0) = decide (len = 0) := by (rw [Bool.eq_iff_iff]; simp))
                      all_goals first | (simp; done) | (simp [hb0]; done) | (simp [hb0, valB]; grind) | grind | (simp only [valB]; grind) | trace_state
              · by_cases h5 : kind = 5
                · subst h5
                  have E : Hid (mayR ⟨5, from_, num, wk, wv, wd, key, fin, A, len, cap, bs⟩ = (mk && zw && bb && aboveB bs num)) := Lib.hid (by
                    rw [Hmay.out, hfr2]
                    simp)
                  clear Hmay hfr2 Hkeyw h1 h2 h3 h4
                  cases mk
                  · as_aux_lemma =>
                    go_wp2_with fail
                    all_goals go_ret
                    all_goals refine Hpost.out _ _ ?_ (by first | exact HBx.out | exact HB.out | exact bel_alloc HB.out _ | exact bel_set (bel_set (bel_set (bel_alloc HB.out _) HB.out.size _) HB.out.size _) HB.out.size _)
                    all_goals (rw [E.out]; have q1 := tf.out; have q2 := tv.out; clear Hpost E HB HZ Hkey Hzw tf tv)
                    all_goals (try clear HBx)
                    all_goals (have hb0 : ((len : Int) == 0) = decide (len = 0) := by (rw [Bool.eq_iff_iff]; simp))
                    all_goals first | (simp; done) | (simp [hb0]; done) | (simp [hb0, valB]; grind) | grind | (simp only [valB]; grind) | trace_state
                  · as_aux_lemma =>
                    go_wp2_with fail
                    refine (Hzw.out _).mono ?_
                    rintro e w9 ⟨rfl, hb9⟩
                    obtain ⟨z0, z1, z2, z3, z4, z5, z6, z7, z8⟩ := HZ.out w9 hb9
                    have HBx := Lib.hid (HB.out.trans (hb9.mono HB.out.size))
                    clear hb9
                    cases zw
                    · go_wp2_with fail
                      all_goals go_ret
                      all_goals refine Hpost.out _ _ ?_ (by first | exact HBx.out | exact HB.out | exact bel_alloc HB.out _ | exact bel_set (bel_set (bel_set (bel_alloc HB.out _) HB.out.size _) HB.out.size _) HB.out.size _)
                      all_goals (rw [E.out]; have q1 := tf.out; have q2 := tv.out; clear Hpost E HB HZ Hkey Hzw tf tv)
                      all_goals (try clear HBx)
                      all_goals (have hb0 : ((len : Int) == 0) = decide (len = 0) := by (rw [Bool.eq_iff_iff]; simp))
                      all_goals first | (simp; done) | (simp [hb0]; done) | (simp [hb0, valB]; grind) | grind | (simp only [valB]; grind) | trace_state
                    · cases bb
                      · go_wp2_with fail
                        all_goals go_ret
                        all_goals refine Hpost.out _ _ ?_ (by first | exact HBx.out | exact HB.out | exact bel_alloc HB.out _ | exact bel_set (bel_set (bel_set (bel_alloc HB.out _) HB.out.size _) HB.out.size _) HB.out.size _)
                        all_goals (rw [E.out]; have q1 := tf.out; have q2 := tv.out; clear Hpost E HB HZ Hkey Hzw tf tv)
                        all_goals (try clear HBx)
                        all_goals (have hb0 : ((len : Int) == 0) = decide (len = 0) := by (rw [Bool.eq_iff_iff]; simp))
                        all_goals first | (simp; done) | (simp [hb0]; done) | (simp [hb0, valB]; grind) | grind | (simp only [valB]; grind) | trace_state
                      · go_wp2_with fail
                        refine (Hab.out _ HBx.out).mono ?_
                        rintro e w8 ⟨rfl, hb8⟩
                        go_wp2_with fail
                        go_ret
                        exact Hpost.out _ _ (by rw [E.out]; rfl) (HBx.out.trans (hb8.mono HBx.out.size))
                · have E : Hid (mayR ⟨kind, from_, num, wk, wv, wd, key, fin, A, len, cap, bs⟩ = false) := Lib.hid (by
                    rw [Hmay.out]
                    simp [h1, h2, h3, h4, h5])
                  clear Hmay hfr2 Hkeyw Hkey Hzw Hab
                  go_wp2_with fail
                  go_ret
                  exact Hpost.out _ _ E.out HB.out
end Go.Proofs.YtfpcgfgofemhoaaGreat


/- shard: Load. -/
import Derived.Test.YtafghiekpgjniaaGreatDoorSh6
import Derived.Test.YtafghiekpgjniaaGreatDoorPS
import Derived.Test.YtafghiekpgjniaaGreatDoorPA
import Derived.Deep.RegionHeld3
namespace Go.Proofs.YtafghiekpgjniaaGreatDoor
open Go.RowKit
set_option linter.unusedVariables false
set_option linter.unusedSimpArgs false

set_option maxRecDepth 100000
instance (l : List ByteArray) : Decidable (Rises l) := by unfold Rises; infer_instance
/-- May these be a shard's? -/
def mayH (L : Hs) : Bool := decide (Rises (L.map (·.1))) && L.all fun p => keyB p.1 && decide (p.2 ≠ []) && chkB p.2
theorem mayH_iff {L : Hs} : mayH L = true ↔ HsOk L := by
  unfold mayH
  simp only [Bool.and_eq_true, decide_eq_true_eq, List.all_eq_true]
  exact ⟨fun ⟨h1, h2⟩ => ⟨h1, fun p hp => (h2 p hp).1.2, fun p hp => (h2 p hp).2, fun p hp => (h2 p hp).1.1⟩, fun h => ⟨h.rises, fun p hp => ⟨⟨h.key p hp, h.some_ p hp⟩, h.chk p hp⟩⟩⟩
def preH (L : Hs) (n : Nat) (k : ByteArray) : Bool := decide (n = 0) || match L[n-1]? with | some q => ltB q.1 k | none => true
theorem mayH_step {L : Hs} {n : Nat} {k : ByteArray} {l : List Ver} (h : L[n]? = some (k, l)) : mayH (L.take (n + 1)) = (mayH (L.take n) && (keyB k && (preH L n k && (decide (l ≠ []) && chkB l)))) := by
  rw [Bool.eq_iff_iff, Bool.and_eq_true, mayH_iff, mayH_iff]
  have hn := (List.getElem?_eq_some_iff.1 h).1
  have ht : L.take (n + 1) = L.take n ++ [(k, l)] := by rw [List.take_add_one, h]; rfl
  rw [ht]
  simp only [Bool.and_eq_true, decide_eq_true_eq]
  constructor
  · intro hk
    have hr := hk.rises
    rw [List.map_append] at hr
    obtain ⟨r1, r2, r3⟩ := List.pairwise_append.1 hr
    refine ⟨⟨r1, fun p hp => hk.some_ p (by simp [hp]), fun p hp => hk.chk p (by simp [hp]), fun p hp => hk.key p (by simp [hp])⟩, hk.key (k, l) (by simp), ?_, hk.some_ (k, l) (by simp), hk.chk (k, l) (by simp)⟩
    unfold preH
    rcases Nat.eq_zero_or_pos n with h0 | h0
    · simp [h0]
    · have hq : L[n-1]? = some (L[n-1]'(by omega)) := List.getElem?_eq_getElem _
      rw [hq]
      simp only [Bool.or_eq_true, decide_eq_true_eq]
      refine .inr (r3 _ (List.mem_map.2 ⟨L[n-1]'(by omega), ?_, rfl⟩) k (by simp))
      refine List.mem_of_getElem? (i := n - 1) ?_
      rw [List.getElem?_take_of_lt (by omega)]; exact hq
  · rintro ⟨h1, h2, h3, h4, h5⟩
    refine ⟨?_, fun p hp => ?_, fun p hp => ?_, fun p hp => ?_⟩
    · rw [List.map_append]
      refine List.pairwise_append.2 ⟨h1.rises, List.pairwise_singleton _ _, fun a ha b hb => ?_⟩
      simp at hb; subst hb
      unfold preH at h3
      rcases Nat.eq_zero_or_pos n with h0 | h0
      · subst h0; simp at ha
      · have hq : L[n-1]? = some (L[n-1]'(by omega)) := List.getElem?_eq_getElem _
        rw [hq] at h3
        simp only [Bool.or_eq_true, decide_eq_true_eq] at h3
        rcases h3 with h3 | h3
        · omega
        · obtain ⟨p, hp, rfl⟩ := List.mem_map.1 ha
          obtain ⟨i, hi⟩ := List.getElem?_of_mem hp
          have hin : i < n := by have := (List.getElem?_eq_some_iff.1 hi).1; simp at this; omega
          have hr := h1.rises
          rcases Nat.lt_or_ge i (n - 1) with hlt | hge
          · have hq' : (L.take n)[n-1]? = some (L[n-1]'(by omega)) := by rw [List.getElem?_take_of_lt (by omega)]; exact hq
            have hpw := List.pairwise_map.1 hr
            obtain ⟨g1, e1⟩ := List.getElem?_eq_some_iff.1 hi
            obtain ⟨g2, e2⟩ := List.getElem?_eq_some_iff.1 hq'
            have := List.pairwise_iff_getElem.1 hpw i (n - 1) g1 g2 hlt
            rw [e1, e2] at this
            exact ltB_trans this h3
          · have : i = n - 1 := by omega
            subst this
            rw [List.getElem?_take_of_lt (by omega), hq] at hi
            injection hi with hi; rw [← hi]; exact h3
    all_goals rcases List.mem_append.1 hp with hp | hp
    · exact h1.some_ p hp
    · simp at hp; subst hp; exact h4
    · exact h1.chk p hp
    · simp at hp; subst hp; exact h5
    · exact h1.key p hp
    · simp at hp; subst hp; exact h2
theorem mayH_take {L : Hs} (n : Nat) (h : mayH L = true) : mayH (L.take n) = true := by
  rw [mayH_iff] at *
  have hs : (L.take n).Sublist L := List.take_sublist _ _
  exact ⟨h.rises.sublist (hs.map _), fun p hp => h.some_ p (hs.subset hp), fun p hp => h.chk p (hs.subset hp), fun p hp => h.key p (hs.subset hp)⟩
theorem hput_take {L : Hs} {n : Nat} {k : ByteArray} {l : List Ver} (h : L[n]? = some (k, l)) (hm : mayH (L.take (n + 1)) = true) : hput (L.take n) k l = L.take (n + 1) := by
  have hok := mayH_iff.1 hm
  have ht : L.take (n + 1) = L.take n ++ [(k, l)] := by rw [List.take_add_one, h]; rfl
  have h1 : mayH (L.take n) = true := by
    have := mayH_take n hm
    rwa [List.take_take, Nat.min_eq_left (by omega)] at this
  have hin : (k, l) ∈ L.take (n + 1) := by rw [ht]; simp
  refine hs_ext (hput_ok (mayH_iff.1 h1) (hok.key _ hin) (hok.chk _ hin) (hok.some_ _ hin)) hok fun j => ?_
  rw [hget_hput]
  by_cases hj : k = j
  · subst hj; rw [if_pos rfl, hget_mem hok hin]
  · rw [if_neg hj, ht]
    unfold hget
    congr 1
    clear hin h1 hok hm ht
    induction L.take n with
    | nil => simp [mget, hj]
    | cons q r ih => obtain ⟨a, u⟩ := q; simp only [List.cons_append, mget, ih]
/-- A key bound anew, as one step. -/
theorem ShAt.upd {w : World} {t : SB} {L : Hs} (h : ShAt w t L) (k : ByteArray) (A : Option Addr) (len cap : Nat) (vs : List Ver) (hk : keyB k = true)
    (hv : VsAt w w.heap.size A len vs) (hc : len ≤ cap) (hn : A = none → cap = 0) (hty : TyV w A len) (hl : chkB vs = true) (hne : vs ≠ []) :
    ∃ w', (Instr.mapUpdate 80 (.map (some t.p)) (.string k) (.slice A len cap)).run Tryz.prog w = .ok () w' ∧ ShAt w' t (hput L k vs) ∧ Kept w w' (· = t.p) := by
  have hnc := h.noC
  obtain ⟨m, h1, h2, h3, h4, rfl⟩ := h
  obtain ⟨w', hr, hown, hg⟩ := h2.run_update kstr Tryz.underlying80 k ⟨A, len, cap, vs⟩
  have hkp : Kept w w' (· = t.p) := Kept.of_only hg rfl
  have hrow : ∀ A n (vs : List Ver), VsAt w w.heap.size A n vs → VsAt w' w'.heap.size A n vs := fun A n vs hr => (hr.keptC (fun x _ => ver_ne x) (Nat.le_refl _) hkp (fun b hb => by subst hb; exact hnc)).more hkp.size
  refine ⟨w', hr, ⟨mput m k ⟨A, len, cap, vs⟩, (hkp.blk h1 (blk_lt h1) (fun e => h2.noC _ _ _ (e ▸ h1))), hown, fun q hq => ?_, ?_, ?_⟩, hkp⟩
  · rcases mem_mput hq with rfl | hq
    · exact ⟨hrow _ _ _ hv, hc, hn, hty.kept hkp (fun b hb => by subst hb; exact fun cs fr => hnc cs _ fr)⟩
    · obtain ⟨g1, g2, g3, g4⟩ := h3 q hq
      exact ⟨hrow _ _ _ g1, g2, g3, g4.kept hkp (fun b hb => by subst hb; exact fun cs fr => hnc cs _ fr)⟩
  · rw [plainM_mput]; exact mok_put h4 hk hl hne
  · rw [plainM_mput]; exact cont_put h4 hk hl hne
def LoadEnd (w : World) (L : Hs) (e : Ending) (w' : World) : Prop :=
  (mayH L = true → ∃ t : SB, e = .returned (.tuple #[.pointer (some ⟨t.g, 0, none⟩), .int .i64 0]) ∧ ShAt w' t L ∧ w.heap.size ≤ t.g ∧ w.heap.size ≤ t.p) ∧ (mayH L = false → e = .returned (.tuple #[.pointer none, .int .i64 1])) ∧ Below w.heap.size w w'
set_option maxHeartbeats 8000000 in
theorem load_any (A : Option Addr) (len cap : Nat) (hs : List HR) (w : World) (hw : HdsAt w w.heap.size A len hs) (hl : len ≤ 3518437208883) (hlv : ∀ h ∈ hs, h.len ≤ 4398046511104) :
    Calls Tryz.prog 24 #[.slice A len cap] w (LoadEnd w (plainR hs)) := by
  have hlen := Lib.hid hw.1.len
  have hpl : (plainR hs).length = len := by have := hw.1.len; simp [plainR, this]
  have hrow : ∀ X, Below w.heap.size w X → HdsAt X w.heap.size A len hs := fun X h => hw.below h
  have Hrow := Lib.hid hrow
  have Hlv := Lib.hid hlv
  have hget : ∀ (i : Nat) (x : HR), hs[i]? = some x → (plainR hs)[i]? = some (x.key, x.vs) := fun i x hx => by simp [plainR, hx]
  have Hget := Lib.hid hget
  generalize hL : plainR hs = L at hpl hget Hget ⊢
  have hbad : ∀ X, mayH L = false → Below w.heap.size w X → LoadEnd w L (.returned (.tuple #[.pointer none, .int .i64 1])) X := fun X h1 h2 => ⟨fun h => (by rw [h1] at h; cases h), fun _ => rfl, h2⟩
  have Hbad := Lib.hid hbad
  have hgood : ∀ (t : SB) X, mayH L = true → ShAt X t L → w.heap.size ≤ t.g → w.heap.size ≤ t.p → Below w.heap.size w X → LoadEnd w L (.returned (.tuple #[.pointer (some ⟨t.g, 0, none⟩), .int .i64 0])) X := fun t X h1 h2 h3 h4 h5 => ⟨fun _ => ⟨t, rfl, h2, h3, h4⟩, fun h => (by rw [h1] at h; cases h), h5⟩
  have Hgood := Lib.hid hgood
  clear hw hrow hlv hget hL hbad hgood
  go_enter Tryz.func24, Tryz.ntmps24
  go_wp2_with fail
  refine (new_any _).mono ?_
  rintro e w1 ⟨rfl, hsh1, hb1⟩
  have HS1 := Lib.hid hsh1
  have Hb1 := Lib.hid hb1
  have hz1 : w.heap.size + 1 < w1.heap.size := hsh1.lt.1
  clear hsh1 hb1
  go_wp2_with fail
  go_loopw [10] (fun i wr => ∃ n : Nat, n ≤ len ∧ i = .int .i64 n ∧ Hid (ShAt wr ⟨w.heap.size + 1, w.heap.size⟩ (L.take n)) ∧ Hid (mayH (L.take n) = true) ∧ Hid (Below w.heap.size w wr)) (fun i _ => len - (RowKit.intOf i).toNat)
  case atStart => exact ⟨0, Nat.zero_le _, rfl, HS1, Lib.hid rfl, Hb1⟩
  case round =>
    obtain ⟨n, hnl, rfl, HS, HM, HB⟩ := hrel
    have hsz : w.heap.size + 1 < wr.heap.size := HS.out.lt.1
    by_cases hlt : n < len
    · obtain ⟨b, off, x, rfl, hbl, hx, x0, x1, hv, hxc, hxn⟩ := (Hrow.out wr HB.out).cell2 hlt
      have hLn := Hget.out n x hx
      have hst := mayH_step hLn
      have hno : mayH (L.take (n + 1)) = false → mayH L = false := fun h => by
        cases hc : mayH L
        · rfl
        · rw [mayH_take _ hc] at h; cases h
      have hxl : x.len ≤ 4398046511104 := Hlv.out x (List.mem_of_getElem? hx)
      obtain ⟨k, xA, xlen, xcap, xvs⟩ := x
      simp only at x0 x1 hv hxc hxn hxl hst hLn
      have Hst := Lib.hid hst
      have Hno := Lib.hid hno
      have HLn := Lib.hid hLn
      have Hx := Lib.hid hx
      have hvl := hv.len
      have Hvl := Lib.hid hvl
      obtain ⟨wb, hwb⟩ : ∃ wb : World, wb = wr.alloc (.cells #[.string k, .slice xA xlen xcap] 132) := ⟨_, rfl⟩
      have hbb : Below w.heap.size w wb := by rw [hwb]; exact bel_alloc HB.out _
      have hzb : wb.heap[wr.heap.size]? = some (.cells #[.string k, .slice xA xlen xcap] 132 (0, 0)) := by rw [hwb]; exact blk_new _ _
      have hsb : wr.heap.size < wb.heap.size := blk_lt hzb
      have k1 : ∀ q : Ext wb, q.X.cell? ⟨wr.heap.size, 0, none⟩ = some (.string k) := fun q => (blk_cell ((q.h.block _ hsb).trans hzb) 0).trans rfl
      have k2 : ∀ q : Ext wb, q.X.cell? ⟨wr.heap.size, 1, none⟩ = some (.slice xA xlen xcap) := fun q => (blk_cell ((q.h.block _ hsb).trans hzb) 1).trans rfl
      have HSb : Hid (ShAt wb ⟨w.heap.size + 1, w.heap.size⟩ (L.take n)) := Lib.hid (by rw [hwb]; exact HS.out.alloc _)
      have hVb : VsAt wb wb.heap.size xA xlen xvs := by
        have : Below wr.heap.size wr wb := by rw [hwb]; exact bel_alloc (Below.refl _ _) _
        exact (hv.more (by omega : w.heap.size ≤ wr.heap.size) |>.below this).more (by omega)
      have HVb := Lib.hid hVb
      have Hbb := Lib.hid hbb
      have Hzb := Lib.hid hzb
      have Hxc := Lib.hid hxc
      have Hxn := Lib.hid hxn
      have hM0 := fun q : Ext wb => Ext.same2 (may_any k q.X)
      have hC0 := fun q : Ext wb => Ext.call (chkv_any xA xlen xcap xvs q.X ((hVb.below q.h).more q.h.size) hxl)
      have hE : decide (xvs ≠ []) = !decide (xlen = 0) := by
        rw [← hvl]; cases xvs <;> simp
      rw [hE] at hst
      generalize hpb : preH L n k = pb at hst
      generalize hcb : chkB xvs = cb at hst hC0
      generalize hkb : keyB k = kb at hst hM0
      have Hst := Lib.hid hst
      have Hcb := Lib.hid hcb
      have Hkb := Lib.hid hkb
      have Hpb := Lib.hid hpb
      clear hst hno hLn hx hv hvl hbb hzb hVb hxc hxn hE hpb hcb hkb
      cases kb
      · have hM : Hid (∀ q : Ext wb, Calls Tryz.prog 99 #[.string k] q.X fun e w'' => e = .returned (.bool false) ∧ ∃ m : Ext wb, w'' = m.X) := Lib.hid hM0
        have hC := Lib.hid hC0
        have Hbd : Hid (mayH (L.take (n + 1)) = false) := Lib.hid (by rw [Hst.out, HM.out]; rfl)
        clear hM0 hC0
        go_wp2_with fail
        rw [← hwb]
        refine wp_region_ext (by kernel_rfl) (by kernel_rfl) ?_
        repeat (go_big_quiet_step ((first | (go_at_call 99; exact hM.out _) | (go_at_call 100; exact hC.out _))))
        refine Ext.end_ fun X hX => ?_
        have HX := Lib.hid hX
        clear k1 k2 hX
        go_wp2_with fail
        go_ret2
        exact Hbad.out _ (Hno.out Hbd.out) (Hbb.out.trans (HX.out.mono (by omega)))
      · have hM : Hid (∀ q : Ext wb, Calls Tryz.prog 99 #[.string k] q.X fun e w'' => e = .returned (.bool true) ∧ ∃ m : Ext wb, w'' = m.X) := Lib.hid hM0
        clear hM0
        rcases Nat.eq_zero_or_pos n with h0 | h0
        · have d1 : decide ((0 : Int) < (n : Int)) = false := by simp; omega
          have d2 : decide (0 < n) = false := by simp; omega
          obtain rfl : pb = true := by rw [← Hpb.out]; simp [preH, h0]
          clear h0
          by_cases hxz : xlen = 0
          · have g1 : ((xlen : Int) == 0) = true := by simp [hxz]
            have g2 : (xlen == 0) = true := by simp [hxz]
            have hC := Lib.hid hC0
            have Hbd : Hid (mayH (L.take (n + 1)) = false) := Lib.hid (by rw [Hst.out, HM.out]; simp [hxz])
            clear hC0 hxz
            go_wp2_with fail
            rw [← hwb]
            refine wp_region_ext (by kernel_rfl) (by kernel_rfl) ?_
            repeat (go_big_quiet_step ((first | (go_at_call 99; exact hM.out _) | (go_at_call 100; exact hC.out _))))
            refine Ext.end_ fun X hX => ?_
            have HX := Lib.hid hX
            clear k1 k2 hX
            go_wp2_with fail
            go_ret2
            exact Hbad.out _ (Hno.out Hbd.out) (Hbb.out.trans (HX.out.mono (by omega)))
          · have g1 : ((xlen : Int) == 0) = false := by simp; omega
            have g2 : (xlen == 0) = false := by simp; omega
            cases cb
            · have hC : Hid (∀ q : Ext wb, Calls Tryz.prog 100 #[.slice xA xlen xcap] q.X fun e w'' => e = .returned (.int .i64 1) ∧ ∃ m : Ext wb, w'' = m.X) := Lib.hid hC0
              have Hbd : Hid (mayH (L.take (n + 1)) = false) := Lib.hid (by rw [Hst.out, HM.out]; simp)
              clear hC0
              go_wp2_with fail
              rw [← hwb]
              refine wp_region_ext (by kernel_rfl) (by kernel_rfl) ?_
              repeat (go_big_quiet_step ((first | (go_at_call 99; exact hM.out _) | (go_at_call 100; exact hC.out _))))
              refine Ext.end_ fun X hX => ?_
              have HX := Lib.hid hX
              clear k1 k2 hX
              go_wp2_with fail
              go_ret2
              exact Hbad.out _ (Hno.out Hbd.out) (Hbb.out.trans (HX.out.mono (by omega)))
            · have hC : Hid (∀ q : Ext wb, Calls Tryz.prog 100 #[.slice xA xlen xcap] q.X fun e w'' => e = .returned (.int .i64 0) ∧ ∃ m : Ext wb, w'' = m.X) := Lib.hid hC0
              have Hxl0 := Lib.hid hxz
              clear hC0
              have hmt : mayH (L.take (n + 1)) = true := by rw [Hst.out, HM.out]; simpa using Hxl0.out
              have Hmt := Lib.hid hmt
              have hpt := hput_take HLn.out hmt
              have Hpt := Lib.hid hpt
              clear hmt hpt
              go_wp2_with fail
              rw [← hwb]
              refine wp_region_ext (by kernel_rfl) (by kernel_rfl) ?_
              repeat (go_big_quiet_step ((first | (go_at_call 99; exact hM.out _) | (go_at_call 100; exact hC.out _))))
              refine Ext.end_ fun X hX => ?_
              have HX := Lib.hid hX
              have hsX : wb.heap.size ≤ X.heap.size := hX.size
              clear k1 k2 hX
              have HSx : Hid (∀ Y, Below X.heap.size X Y → Y.cell? ⟨w.heap.size + 1, 0, none⟩ = some (.map (some w.heap.size)) ∧ Y.cell? ⟨wr.heap.size, 0, none⟩ = some (.string k) ∧ Y.cell? ⟨wr.heap.size, 1, none⟩ = some (.slice xA xlen xcap)) := Lib.hid fun Y hY =>
                have hbY : Below wb.heap.size wb Y := HX.out.trans (hY.mono hsX)
                ⟨(HSb.out.below hbY).cell, (blk_cell ((hbY.block _ hsb).trans Hzb.out) 0).trans rfl, (blk_cell ((hbY.block _ hsb).trans Hzb.out) 1).trans rfl⟩
              obtain ⟨s0, s1, s2⟩ := HSx.out X (Below.refl _ _)
              have hcl := clone_any xA xlen xcap xvs X.drew (((HVb.out.below HX.out).more hsX)) Hxn.out hxl
              have Hcl := Lib.hid hcl
              clear hcl
              go_wp2_with fail
              go_region_held3 (fun Y => Y.cell? ⟨w.heap.size + 1, 0, none⟩ = some (.map (some w.heap.size)) ∧ Y.cell? ⟨wr.heap.size, 0, none⟩ = some (.string k) ∧ Y.cell? ⟨wr.heap.size, 1, none⟩ = some (.slice xA xlen xcap))
                (first | (refine HSx.out _ ?_; (first | exact bel_drew (Below.refl _ _) | exact HbC.out)) | exact HS5.out)
                ((go_at_call 101; (with_reducible refine Hcl.out.mono ?_); rintro e wc ⟨v, rfl, hown, hbc⟩; obtain ⟨A3, cap3, rfl, hrow3, hcap3, hnil3⟩ := own_bound hown; have HbC : Hid (Below X.heap.size X wc) := Lib.hid ((bel_drew (Below.refl _ _)).trans hbc); obtain ⟨w5, hup, hS5, hK5⟩ := ((HSb.out.below (HX.out.trans (HbC.out.mono hsX)))).upd k A3 xvs.length cap3 xvs Hkb.out hrow3 hcap3 hnil3 (OwnV.ty hown _) Hcb.out (List.length_pos_iff.1 (by rw [Hvl.out]; omega)); have HS5 : Hid (w5.cell? ⟨w.heap.size + 1, 0, none⟩ = some (.map (some w.heap.size)) ∧ w5.cell? ⟨wr.heap.size, 0, none⟩ = some (.string k) ∧ w5.cell? ⟨wr.heap.size, 1, none⟩ = some (.slice xA xlen xcap)) := Lib.hid ⟨hS5.cell, (hK5.cell (by have := HbC.out.size; omega) (by show ¬ (wr.heap.size = w.heap.size); omega)).trans (HSx.out wc HbC.out).2.1, (hK5.cell (by have := HbC.out.size; omega) (by show ¬ (wr.heap.size = w.heap.size); omega)).trans (HSx.out wc HbC.out).2.2⟩; have HSh5 := Lib.hid hS5; have HK5 := Lib.hid hK5; clear hown hbc hrow3 hcap3 hnil3 hS5 hK5))
              go_wp2_with fail
              exact ⟨⟨n + 1, by omega, by go_num, Lib.hid (by rw [← Hpt.out]; exact HSh5.out), Hmt, Lib.hid ((Hbb.out.trans ((HX.out.trans (HbC.out.mono hsX)).mono (by omega))).trans (HK5.out.below (by have := HbC.out.size; omega) (fun q hq => by show w.heap.size ≤ q; rw [hq]; exact Nat.le_refl _)))⟩, by simp [RowKit.intOf]; omega⟩
        · obtain ⟨b', off', y, he, hbl', hy, y0, -, -, -, -⟩ := (Hrow.out wr HB.out).cell2 (i := n - 1) (by omega)
          injection he with he; injection he with he1 he2; subst he1 he2
          have hly := Hget.out _ y hy
          have hpy : preH L n k = ltB y.key k := by unfold preH; rw [hly]; simp; omega
          have e1 : IntKind.i64.wrap ((n : Int) - 1) = (n : Int) - 1 := IntWalk.i64_in _ (by omega)
          have e2 : (0 : Int) ≤ (n : Int) - 1 := by omega
          have e3 : ((n : Int) - 1).toNat = n - 1 := by omega
          have e4 : (n : Int) - 1 < (len : Int) := by omega
          have e5 : (1 : Int) ≤ (n : Int) := by omega
          have d1 : decide ((0 : Int) < (n : Int)) = true := by simp; omega
          have d2 : decide (0 < n) = true := by simp; omega
          have k3 : ∀ q : Ext wb, q.X.cell? ⟨b, off + (n - 1) * 2, none⟩ = some (.string y.key) := fun q => ((q.h.cell (p := ⟨b, off + (n - 1) * 2, none⟩) (by show b < _; omega))).trans (by rw [hwb]; exact (((Below.refl wr.heap.size wr).alloc (Nat.le_refl _) _).cell (p := ⟨b, off + (n - 1) * 2, none⟩) (by show b < _; omega)).trans y0)
          have e6 := less_eq y.key k
          rw [← hpy, Hpb.out] at e6
          clear hy hly hpy y0
          cases pb
          · have hC := Lib.hid hC0
            have Hbd : Hid (mayH (L.take (n + 1)) = false) := Lib.hid (by rw [Hst.out, HM.out]; rfl)
            clear hC0
            go_wp2_with fail
            rw [← hwb]
            refine wp_region_ext (by kernel_rfl) (by kernel_rfl) ?_
            repeat (go_big_quiet_step ((first | (go_at_call 99; exact hM.out _) | (go_at_call 100; exact hC.out _))))
            refine Ext.end_ fun X hX => ?_
            have HX := Lib.hid hX
            clear k1 k2 hX
            go_wp2_with fail
            go_ret2
            exact Hbad.out _ (Hno.out Hbd.out) (Hbb.out.trans (HX.out.mono (by omega)))
          · skip
            by_cases hxz : xlen = 0
            · have g1 : ((xlen : Int) == 0) = true := by simp [hxz]
              have g2 : (xlen == 0) = true := by simp [hxz]
              have hC := Lib.hid hC0
              have Hbd : Hid (mayH (L.take (n + 1)) = false) := Lib.hid (by rw [Hst.out, HM.out]; simp [hxz])
              clear hC0 hxz
              go_wp2_with fail
              rw [← hwb]
              refine wp_region_ext (by kernel_rfl) (by kernel_rfl) ?_
              repeat (go_big_quiet_step ((first | (go_at_call 99; exact hM.out _) | (go_at_call 100; exact hC.out _))))
              refine Ext.end_ fun X hX => ?_
              have HX := Lib.hid hX
              clear k1 k2 hX
              go_wp2_with fail
              go_ret2
              exact Hbad.out _ (Hno.out Hbd.out) (Hbb.out.trans (HX.out.mono (by omega)))
            · have g1 : ((xlen : Int) == 0) = false := by simp; omega
              have g2 : (xlen == 0) = false := by simp; omega
              cases cb
              · have hC : Hid (∀ q : Ext wb, Calls Tryz.prog 100 #[.slice xA xlen xcap] q.X fun e w'' => e = .returned (.int .i64 1) ∧ ∃ m : Ext wb, w'' = m.X) := Lib.hid hC0
                have Hbd : Hid (mayH (L.take (n + 1)) = false) := Lib.hid (by rw [Hst.out, HM.out]; simp)
                clear hC0
                go_wp2_with fail
                rw [← hwb]
                refine wp_region_ext (by kernel_rfl) (by kernel_rfl) ?_
                repeat (go_big_quiet_step ((first | (go_at_call 99; exact hM.out _) | (go_at_call 100; exact hC.out _))))
                refine Ext.end_ fun X hX => ?_
                have HX := Lib.hid hX
                clear k1 k2 hX
                go_wp2_with fail
                go_ret2
                exact Hbad.out _ (Hno.out Hbd.out) (Hbb.out.trans (HX.out.mono (by omega)))
              · have hC : Hid (∀ q : Ext wb, Calls Tryz.prog 100 #[.slice xA xlen xcap] q.X fun e w'' => e = .returned (.int .i64 0) ∧ ∃ m : Ext wb, w'' = m.X) := Lib.hid hC0
                have Hxl0 := Lib.hid hxz
                clear hC0
                have hmt : mayH (L.take (n + 1)) = true := by rw [Hst.out, HM.out]; simpa using Hxl0.out
                have Hmt := Lib.hid hmt
                have hpt := hput_take HLn.out hmt
                have Hpt := Lib.hid hpt
                clear hmt hpt
                go_wp2_with fail
                rw [← hwb]
                refine wp_region_ext (by kernel_rfl) (by kernel_rfl) ?_
                repeat (go_big_quiet_step ((first | (go_at_call 99; exact hM.out _) | (go_at_call 100; exact hC.out _))))
                refine Ext.end_ fun X hX => ?_
                have HX := Lib.hid hX
                have hsX : wb.heap.size ≤ X.heap.size := hX.size
                clear k1 k2 hX
                have HSx : Hid (∀ Y, Below X.heap.size X Y → Y.cell? ⟨w.heap.size + 1, 0, none⟩ = some (.map (some w.heap.size)) ∧ Y.cell? ⟨wr.heap.size, 0, none⟩ = some (.string k) ∧ Y.cell? ⟨wr.heap.size, 1, none⟩ = some (.slice xA xlen xcap)) := Lib.hid fun Y hY =>
                  have hbY : Below wb.heap.size wb Y := HX.out.trans (hY.mono hsX)
                  ⟨(HSb.out.below hbY).cell, (blk_cell ((hbY.block _ hsb).trans Hzb.out) 0).trans rfl, (blk_cell ((hbY.block _ hsb).trans Hzb.out) 1).trans rfl⟩
                obtain ⟨s0, s1, s2⟩ := HSx.out X (Below.refl _ _)
                have hcl := clone_any xA xlen xcap xvs X.drew (((HVb.out.below HX.out).more hsX)) Hxn.out hxl
                have Hcl := Lib.hid hcl
                clear hcl
                go_wp2_with fail
                go_region_held3 (fun Y => Y.cell? ⟨w.heap.size + 1, 0, none⟩ = some (.map (some w.heap.size)) ∧ Y.cell? ⟨wr.heap.size, 0, none⟩ = some (.string k) ∧ Y.cell? ⟨wr.heap.size, 1, none⟩ = some (.slice xA xlen xcap))
                  (first | (refine HSx.out _ ?_; (first | exact bel_drew (Below.refl _ _) | exact HbC.out)) | exact HS5.out)
                  ((go_at_call 101; (with_reducible refine Hcl.out.mono ?_); rintro e wc ⟨v, rfl, hown, hbc⟩; obtain ⟨A3, cap3, rfl, hrow3, hcap3, hnil3⟩ := own_bound hown; have HbC : Hid (Below X.heap.size X wc) := Lib.hid ((bel_drew (Below.refl _ _)).trans hbc); obtain ⟨w5, hup, hS5, hK5⟩ := ((HSb.out.below (HX.out.trans (HbC.out.mono hsX)))).upd k A3 xvs.length cap3 xvs Hkb.out hrow3 hcap3 hnil3 (OwnV.ty hown _) Hcb.out (List.length_pos_iff.1 (by rw [Hvl.out]; omega)); have HS5 : Hid (w5.cell? ⟨w.heap.size + 1, 0, none⟩ = some (.map (some w.heap.size)) ∧ w5.cell? ⟨wr.heap.size, 0, none⟩ = some (.string k) ∧ w5.cell? ⟨wr.heap.size, 1, none⟩ = some (.slice xA xlen xcap)) := Lib.hid ⟨hS5.cell, (hK5.cell (by have := HbC.out.size; omega) (by show ¬ (wr.heap.size = w.heap.size); omega)).trans (HSx.out wc HbC.out).2.1, (hK5.cell (by have := HbC.out.size; omega) (by show ¬ (wr.heap.size = w.heap.size); omega)).trans (HSx.out wc HbC.out).2.2⟩; have HSh5 := Lib.hid hS5; have HK5 := Lib.hid hK5; clear hown hbc hrow3 hcap3 hnil3 hS5 hK5))
                go_wp2_with fail
                exact ⟨⟨n + 1, by omega, by go_num, Lib.hid (by rw [← Hpt.out]; exact HSh5.out), Hmt, Lib.hid ((Hbb.out.trans ((HX.out.trans (HbC.out.mono hsX)).mono (by omega))).trans (HK5.out.below (by have := HbC.out.size; omega) (fun q hq => by show w.heap.size ≤ q; rw [hq]; exact Nat.le_refl _)))⟩, by simp [RowKit.intOf]; omega⟩
    · obtain rfl : n = len := by omega
      have hM2 := HM.out
      have hS2 := HS.out
      rw [List.take_of_length_le (by omega)] at hM2 hS2
      have HM2 := Lib.hid hM2
      have HS2 := Lib.hid hS2
      clear hM2 hS2
      go_wp2_with fail
      go_ret2
      exact Hgood.out ⟨w.heap.size + 1, w.heap.size⟩ wr HM2.out HS2.out (by simp) (Nat.le_refl _) HB.out
end Go.Proofs.YtafghiekpgjniaaGreatDoor

/- Lemmas and contracts of functions that statements of this seat stand on, many texts in one; each holds under the premises typed in its head. -/
import Derived.Test.YtfpcgfgofemhoaaGreatPU
import Derived.Test.YtfpcgfgofemhoaaGreatPA
import Derived.Test.YtfpcgfgofemhoaaGreatShC
/- towpathref09: Dump, Collect. -/
namespace Go.Proofs.YtfpcgfgofemhoaaGreat
open Go.RowKit
set_option linter.unusedVariables false
set_option linter.unusedSimpArgs false

set_option maxRecDepth 100000
set_option maxHeartbeats 8000000 in
theorem r9dump_any (s : Nat) (A : Option Addr) (n cap : Nat) (L : Hs) (mark : Int) (Ab : Option Addr) (lb cb : Nat) (bs : List Int) (w : World) (h : RsAt w s A n cap L) (hn : n ≤ 3518437208883)
    (hwb : RowAt Icell 1 w w.heap.size Ab lb bs) (hlb : lb ≤ 17592186044416) :
    Calls Tryz.prog 39 #[.pointer (some ⟨s, 0, none⟩), .int .i64 mark, .slice Ab lb cb] w (HeldsEnd w (dumpH L mark bs)) := by
  have H := Lib.hid h
  have hlen := Lib.hid h.len
  have Hc := Lib.hid (fun X (hX : Below w.heap.size w X) => (h.below hX).cell)
  have Hlowb := Lib.hid (fun X (h : Below w.heap.size w X) => (hwb.below h).more h.size)
  obtain ⟨i0, hi, hz0, hz1, hz2⟩ := info_parts info_held
  clear h hwb
  go_enter Tryz.func39, Tryz.ntmps39
  go_wp2_with fail
  go_loopw [7, 8] (fun v0 i wr => ∃ (j : Nat) (v : Value) (gs : List HR), v = v0 ∧ j ≤ n ∧ gs.length ≤ j ∧ i = .int .i64 j ∧ Hid (HRow wr w.heap.size v gs) ∧ Hid (plainR gs = pickH (fun l => dumpV l mark bs) (L.take j)) ∧ Hid (Below w.heap.size w wr)) (fun _ i _ => n - (RowKit.intOf i).toNat)
  case atStart => exact ⟨0, _, [], rfl, Nat.zero_le _, Nat.le_refl _, rfl, Lib.hid (HRow.nil _ _), Lib.hid rfl, Lib.hid (Below.refl _ _)⟩
  case round =>
    obtain ⟨j, v, gs, rfl, hj, hgl, rfl, HR0, HP, HB⟩ := hrel
    have hsr := HB.out.size
    have c0 := Hc.out wr HB.out
    by_cases hlt : j < n
    · obtain ⟨b, off, x, rfl, hbl, hx, x0, x1, hr, hck, hxl⟩ := (H.out.below HB.out).at_ hlt
      have Htk := Lib.hid (pickH_take (f := fun l => dumpV l mark bs) hx)
      have Hd := Lib.hid (r8dump_any x.A x.len x.cap x.vs mark Ab lb cb bs wr hr.1 hr.2.1 hxl hck (Hlowb.out wr HB.out) hlb)
      have hi1 : (0 : Int) ≤ (j : Int) := by omega
      have hi2 : (j : Int) < (n : Int) := by omega
      generalize hfl : dumpV x.vs mark bs = fl at *
      have Hfl := Lib.hid hfl
      clear hx hr hck hfl
      go_wp2_with fail
      refine Hd.out.mono ?_
      rintro e w3 ⟨v3, rfl, hown3, hb3⟩
      obtain ⟨A3, cap3, rfl, hrow3, hcap3, hnil3⟩ := own_bound hown3
      have HO4 : Hid (w3.ownsRow wr.heap.size 104 3 (.slice A3 fl.length cap3) fl.length (fl.flatMap Ver.cells)) := Lib.hid hown3
      have x0' : w3.cell? ⟨b, off + j * 2, none⟩ = some (.string x.key) := (hb3.cell (p := ⟨b, off + j * 2, none⟩) hbl).trans x0
      have Hb3 := Lib.hid (HB.out.trans (hb3.mono hsr))
      have HR3 := Lib.hid (HR0.out.below hb3)
      have hs3 : wr.heap.size ≤ w3.heap.size := hb3.size
      have c0' := Hc.out w3 Hb3.out
      have HMa : Hid (∀ o, HRow (w3.alloc o) w.heap.size v gs) := Lib.hid fun o => HR3.out.below (bel_alloc (Below.refl _ _) o)
      clear hown3 hb3 hrow3 hcap3 hnil3 x0 x1 c0
      by_cases hfe : fl = []
      · subst hfe
        go_wp2_with fail
        exact ⟨⟨j + 1, _, gs, rfl, by omega, by omega, by go_num, HR3, Lib.hid (by rw [HP.out, Htk.out]; simp), Hb3⟩, by simp [RowKit.intOf]; omega⟩
      · have hpos : 0 < fl.length := List.length_pos_iff.2 hfe
        have hpos2 : (0 : Int) < (fl.length : Int) := by omega
        have Hfe := Lib.hid hfe
        clear hfe
        go_wp2_with (at_builtin; refine wpList_append_lies _ rfl (.tmp 39) (.tmp 50) 22 rfl w.heap.size 70 i0 _ 2 40 Tryz.underlying22 hi hz0 hz1 hz2 rfl (by decide) v gs.length (gs.flatMap HR.cells) rfl (HMa.out _).1 ⟨w3.heap.size, 0, none⟩ 1 1 (HR.cells ⟨x.key, A3, fl.length, cap3, fl⟩) rfl rfl (cells_new w3 _ _) (one_hr _) (by omega) (by unfold maxLen; omega) (by omega) (by simp; omega) _ rfl ?_; intro g4 cap4 w4 hown4 hg4 hat4 hlt4)
        have HB4 : Hid (Below w.heap.size w w4) := Lib.hid (Hb3.out.trans (((Below.refl w.heap.size w3).alloc (by omega) _).grown hg4 (by simp; omega) (fun q hq => ((HMa.out (.cells #[] 0)).1.lt q hq).1)))
        have hadd := HRow.add (r := ⟨x.key, A3, fl.length, cap3, fl⟩) (HMa.out _) ((ownsRow_base_a HO4.out (by omega)).alloc _) rfl (fun b hb hv => by
          have h1 := (HO4.out.lt b hb).1
          have h2 := (HR0.out.1.lt b hv).2
          omega) hown4 hg4 hat4 (by simp)
        have Hadd := Lib.hid hadd
        clear hadd hown4 hg4 hat4
        go_wp2_with fail
        exact ⟨⟨j + 1, _, gs ++ [⟨x.key, A3, fl.length, cap3, fl⟩], rfl, by omega, by simp; omega, by go_num, Hadd, Lib.hid (by rw [Htk.out, if_pos Hfe.out, ← HP.out]; simp [plainR]), HB4⟩, by simp [RowKit.intOf]; omega⟩
    · obtain rfl : j = n := by omega
      have hP := HP.out
      rw [List.take_of_length_le (by rw [hlen.out]; exact Nat.le_refl _)] at hP
      have HP2 : Hid (plainR gs = dumpH L mark bs) := Lib.hid hP
      clear hP
      go_wp2_with fail
      go_ret
      exact ⟨v, gs, rfl, HR0.out, HP2.out, HB.out⟩
/-- One key's versions stored anew. -/
theorem RsAt.set {w : World} {s b off n cap i : Nat} {L : Hs} {k : ByteArray} {l vs : List Ver} {A2 : Option Addr} {n2 c2 : Nat} (h : RsAt w s (some ⟨b, off, none⟩) n cap L) (hi : i < n) (hL : L[i]? = some (k, l)) (hv : HrAt w ⟨k, A2, n2, c2, vs⟩) (hc : chkB vs = true) (hne : vs ≠ []) :
    RsAt (w.setCell ⟨b, off + i * 2 + 1, none⟩ (.slice A2 n2 c2)) s (some ⟨b, off, none⟩) n cap (L.set i (k, vs)) ∧ Kept w (w.setCell ⟨b, off + i * 2 + 1, none⟩ (.slice A2 n2 c2)) (· = b) := by
  have kk := (Kept.refl w (· = b)).setCell (p := ⟨b, off + i * 2 + 1, none⟩) (Or.inl rfl) (.slice A2 n2 c2)
  obtain ⟨hs, h1, h2, h3, rfl, h5, h6, h7, h8⟩ := h
  obtain ⟨cs, hb⟩ := h8 ⟨b, off, none⟩ rfl (by omega)
  simp only at hb
  have hsb : s ≠ b := fun e => by rw [← e, h1] at hb; simp at hb
  have hnv : ∀ b', b' = b → NoV w b' := fun b' e cs' fr hc => by rw [e, hb] at hc; simp at hc
  have hx : hs[i]? = some (hs[i]'(by have := h2.len; omega)) := List.getElem?_eq_getElem _
  generalize hs[i]'(by have := h2.len; omega) = x at hx
  have hxk : x.key = k := by
    have : (plainR hs)[i]? = some (x.key, x.vs) := by simp [plainR, hx]
    rw [this] at hL; injection hL with hL; injection hL
  have hb' := blk_set hb (off + i * 2 + 1) (.slice A2 n2 c2)
  have hold : ∀ (i' : Nat) (x' : HR), hs[i']? = some x' → ∀ (j : Nat) (u : Value), (HR.cells x')[j]? = some u → cs[off + i' * 2 + j]? = some u := fun i' x' hx' j u hu => by
    obtain ⟨b2, off2, e, -, hc⟩ := h2.2 (by omega)
    injection e with e; injection e with e1 e2; subst e1 e2
    have := hc i' x' hx' j u hu
    rwa [blk_cell hb] at this
  refine ⟨⟨hs.set i ⟨k, A2, n2, c2, vs⟩, kk.blk h1 (blk_lt h1) hsb, ⟨by rw [List.length_set]; exact h2.1, fun hn => ⟨b, off, rfl, blk_lt hb', fun i' x' hx' j u hu => ?_⟩⟩, fun r hr => ?_, ?_, ?_, h6, (fun e => by cases e), fun a e hn => ?_⟩, kk⟩
  · rw [blk_cell hb']
    rw [List.getElem?_set] at hx'
    by_cases hii : i = i'
    · subst hii
      rw [if_pos rfl] at hx'
      split at hx'
      · injection hx' with hx'
        subst hx'
        have hjl : j < 2 := by have := (List.getElem?_eq_some_iff.1 hu).1; simpa [HR.cells] using this
        rcases (show j = 0 ∨ j = 1 by omega) with rfl | rfl
        · rw [Array.getElem?_setIfInBounds_ne (by omega)]
          have := hold i x hx 0 _ rfl
          simp [HR.cells] at hu
          rw [← hu, ← hxk]; exact this
        · have := hold i x hx 1 _ rfl
          have hin := (Array.getElem?_eq_some_iff.1 this).1
          rw [Array.getElem?_setIfInBounds_self_of_lt hin]
          simpa [HR.cells] using hu
      · cases hx'
    · rw [if_neg hii] at hx'
      have hjl : j < 2 := by have := (List.getElem?_eq_some_iff.1 hu).1; simpa [HR.cells] using this
      rw [Array.getElem?_setIfInBounds_ne (by omega)]
      exact hold i' x' hx' j u hu
  · rcases List.mem_or_eq_of_mem_set hr with hr | rfl
    · exact (h3 r hr).kept kk hnv
    · exact hv.kept kk hnv
  · unfold plainR; rw [List.map_set]
  · have hkB := h5.key (k, l) (List.mem_of_getElem? hL)
    rw [← hput_set h5 hL hkB hc hne]
    exact hput_ok h5 hkB hc hne
  · injection e with e; subst e; exact ⟨_, hb'⟩
theorem RsAt.keptA {w w' : World} {s n cap : Nat} {A : Option Addr} {L : Hs} {b off : Nat} (h : RsAt w s A n cap L) (e : A = some ⟨b, off, none⟩) (hn : 0 < n) (k : Kept w w' (· = b)) : Kept w w' (fun b' => ∃ a, A = some a ∧ 0 < n ∧ b' = a.block) :=
  k.mono fun b' hb => ⟨⟨b, off, none⟩, e, hn, hb⟩
/-- A row of versions, cut. -/
theorem HrAt.cut {w : World} {k : ByteArray} {A : Option Addr} {len cap u : Nat} {vs : List Ver} (h : HrAt w ⟨k, A, len, cap, vs⟩) (hu : u ≤ len) (hp : 0 < len) : HrAt w ⟨k, if cap = u then A else A.map (·.add (u * 3)), len - u, cap - u, vs.drop u⟩ := by
  obtain ⟨h1, h2, h3, h4⟩ := h
  refine ⟨h1.cut hu h2, by simp only at *; omega, fun e => ?_, ?_⟩
  · simp only at *
    split at e
    · rename_i hc; omega
    · cases A with
      | none => rw [h3 rfl] at *; omega
      | some a => cases e
  · simp only at *
    split
    · exact fun a e hn => h4 a e hp
    · exact h4.cut hp
set_option maxHeartbeats 8000000 in
theorem r9coll_any (s : Nat) (A : Option Addr) (n cap : Nat) (L : Hs) (least : Int) (w : World) (h : RsAt w s A n cap L) (hn : sizeH L ≤ 1152921504606846976) :
    Calls Tryz.prog 38 #[.pointer (some ⟨s, 0, none⟩), .int .i64 least] w fun e w' => e = .returned (.int .i64 (goneH L least : Nat)) ∧ RsAt w' s A n cap (collH L least) ∧ Kept w w' (fun b' => ∃ a, A = some a ∧ 0 < n ∧ b' = a.block) := by
  have hlen := h.len
  have Hlen := Lib.hid hlen
  have hok := Lib.hid h.ok
  have hll := len_sizeH h.ok
  have hn2 : n ≤ 1152921504606846976 := by omega
  have HR : Hid (RsAt w s A n cap (collN L least 0)) := Lib.hid (by simpa [collN, collH] using h)
  have Hgl := Lib.hid (fun j => goneN_le L least j)
  clear h hlen hll
  go_enter Tryz.func38, Tryz.ntmps38
  go_wp2_with fail
  go_loopw [5, 6] (fun c i wr => ∃ j : Nat, j ≤ n ∧ i = .int .i64 j ∧ c = .int .i64 (goneN L least j : Nat) ∧ Hid (RsAt wr s A n cap (collN L least j)) ∧ Hid (Kept w wr (fun b' => ∃ a, A = some a ∧ 0 < n ∧ b' = a.block))) (fun _ i _ => n - (RowKit.intOf i).toNat)
  case atStart => exact ⟨0, Nat.zero_le _, rfl, by simp [goneN, goneH], HR, Lib.hid (Kept.refl _ _)⟩
  case round =>
    obtain ⟨j, hj, rfl, rfl, HR1, HK⟩ := hrel
    have c0 := HR1.out.cell
    have hgl := Hgl.out j
    by_cases hlt : j < n
    · obtain ⟨b, off, x, hA, hbl, hx, x0, x1, hr, hck, hxl⟩ := HR1.out.at_ hlt
      subst hA
      have hLj : L[j]? = some (L[j]'(by rw [Hlen.out]; exact hlt)) := List.getElem?_eq_getElem _
      generalize L[j]'(by rw [Hlen.out]; exact hlt) = kl at hLj
      obtain ⟨k, l⟩ := kl
      obtain ⟨hcn, hcs⟩ := collN_get (least := least) hLj
      have hkl : x.key = k ∧ x.vs = l := by rw [hcn] at hx; injection hx with hx; injection hx with a1 a2; exact ⟨a1.symm, a2.symm⟩
      have hgs := goneN_succ (least := least) hLj
      have hgl2 := Hgl.out (j + 1)
      rw [← hkl.1, ← hkl.2] at hcn hcs hLj
      rw [← hkl.2] at hgs
      have hne : x.vs ≠ [] := hok.out.some_ _ (List.mem_of_getElem? hLj)
      have hkB : keyB x.key = true := hok.out.key _ (List.mem_of_getElem? hLj)
      have hul := upto_le x.vs least
      have hxv := hr.1.len
      have hpos : 0 < x.len := by rw [← hxv]; exact List.length_pos_iff.2 hne
      have Hco := Lib.hid (r8coll_any x.A x.len x.cap x.vs least wr hr.1 hr.2.1 hxl hck)
      have hcv : collV x.vs least = x.vs.drop (upto x.vs least - 1) := rfl
      have hcut := hr.cut (u := upto x.vs least - 1) (by omega) hpos
      rw [← hcv] at hcut
      have hcl := len_collV x.vs least
      have Hcut := Lib.hid (fun X (hX : Below wr.heap.size wr X) => (HR1.out.below hX).set hlt hx (HrAt.kept hcut (X := fun _ => False) (Kept.of_below hX) (fun b hb => hb.elim)) (chkB_sub hck (collV_sub _ _)) (collV_ne hne least))
      have Hcs := Lib.hid hcs
      generalize hu : upto x.vs least - 1 = u at *
      have hcells : ∀ X, Below wr.heap.size wr X → X.cell? ⟨s, 0, none⟩ = some (.slice (some ⟨b, off, none⟩) n cap) ∧ X.cell? ⟨b, off + j * 2 + 1, none⟩ = some (.slice x.A x.len x.cap) ∧ X.frozen? ⟨b, off + j * 2 + 1, none⟩ = false := fun X hX => by
        refine ⟨(HR1.out.below hX).cell, (hX.cell (p := ⟨b, off + j * 2 + 1, none⟩) hbl).trans x1, ?_⟩
        obtain ⟨hs, -, -, -, -, -, -, -, h8⟩ := HR1.out.below hX
        obtain ⟨cs, hb⟩ := h8 ⟨b, off, none⟩ rfl (by omega)
        exact blk_frozen hb _
      have Hcells := Lib.hid hcells
      have hi1 : (0 : Int) ≤ (j : Int) := by omega
      have hi2 : (j : Int) < (n : Int) := by omega
      clear hcells hcs hcn hkl hcut hcv hx hr hck hul hu hLj hne hkB hcl hxv
      go_wp2_with fail
      refine Hco.out.mono ?_
      rintro e w3 ⟨hb3, rfl⟩
      obtain ⟨c0', x1', f1'⟩ := Hcells.out w3 hb3
      obtain ⟨HR3, hk3⟩ := Hcut.out w3 hb3
      have HR4 := Lib.hid HR3
      have HK4 := Lib.hid ((HK.out.trans (Kept.of_below hb3)).trans (hk3.mono fun b' e => ⟨⟨b, off, none⟩, rfl, by omega, e⟩))
      rw [← Hcs.out] at HR4
      clear hb3 HR3 hk3 x0 x1 c0
      go_wp2_with fail
      exact ⟨⟨j + 1, by omega, by go_num, by rw [hgs]; go_num, HR4, HK4⟩, by simp [RowKit.intOf]; omega⟩
    · obtain rfl : j = n := by omega
      have Hc : Hid (collN L least j = collH L least) := Lib.hid (by unfold collN; rw [List.take_of_length_le (by rw [Hlen.out]; exact Nat.le_refl _), List.drop_of_length_le (by rw [Hlen.out]; exact Nat.le_refl _), List.append_nil])
      have Hg : Hid (goneN L least j = goneH L least) := Lib.hid (by unfold goneN; rw [List.take_of_length_le (by rw [Hlen.out]; exact Nat.le_refl _)])
      go_wp2_with fail
      go_ret
      exact ⟨by rw [← Hg.out]; rfl, by rw [← Hc.out]; exact HR1.out, HK.out⟩
end Go.Proofs.YtfpcgfgofemhoaaGreat

/- towpathref09: Install. -/

namespace Go.Proofs.YtfpcgfgofemhoaaGreat
open Go.RowKit
set_option linter.unusedVariables false
set_option linter.unusedSimpArgs false

set_option maxRecDepth 100000
/-- What Install has with one key more. -/
theorem RsAt.more {w w6 : World} {s n cap g i : Nat} {A : Option Addr} {L : Hs} {p : Part} (h : RsAt w s A n cap L) (hi : i ≤ n) {hs : List HR} (h3 : ∀ r ∈ hs, HrAt w r) (h4 : plainR hs = L)
    (hx : hput L p.w.key [p.ver] = L.take i ++ (p.w.key, [p.ver]) :: L.drop i) (hok : HsOk (hput L p.w.key [p.ver])) {A6 : Option Addr} {cap6 : Nat} {hs6 : List HR} (e6 : hs6 = (hs.take i ++ [(⟨p.w.key, some ⟨g, 0, none⟩, 1, 1, [p.ver]⟩ : HR)]) ++ hs.drop i)
    (hg : w6.heap[g]? = some (.cells #[.int .i64 p.num, .string p.w.val, .bool p.w.drop] 104 (0, 0)))
    (hr6 : RowAt HR.cells 2 w6 w6.heap.size A6 hs6.length hs6) (hn6 : A6 = none → hs6.length = 0 ∧ cap6 = 0) (hc6 : hs6.length ≤ cap6) (hO6 : w6.ownsRow w.heap.size 70 2 (.slice A6 hs6.length cap6) hs6.length (hs6.flatMap HR.cells))
    (hs0 : w6.heap[s]? = some (.cells #[.slice A n cap] 114 (0, 0))) (hb : Below w.heap.size w w6) :
    RsAt (w6.setCell ⟨s, 0, none⟩ (.slice A6 hs6.length cap6)) s A6 hs6.length cap6 (hput L p.w.key [p.ver]) ∧ Kept w (w6.setCell ⟨s, 0, none⟩ (.slice A6 hs6.length cap6)) (· = s) ∧ ∀ a, A6 = some a → w.heap.size ≤ a.block := by
  have k6 := (Kept.refl w6 (· = s)).setCell (p := ⟨s, 0, none⟩) (Or.inl rfl) (.slice A6 hs6.length cap6)
  have hk : Kept w w6 (· = s) := Kept.of_below hb
  have hnv : ∀ b, b = s → NoV w6 b := fun b e cs fr hc => by rw [e, hs0] at hc; simp at hc
  have hpos : 0 < hs6.length := by rw [e6]; simp; omega
  have hfr : ∀ a, A6 = some a → w.heap.size ≤ a.block ∧ ∃ cs, w6.heap[a.block]? = some (.cells cs 70 (0, 0)) := fun a e => by
    obtain ⟨-, h0 | ⟨g', cap', cur, hv, hg', hh, -⟩⟩ := hO6
    · omega
    · rw [e] at hv
      injection hv with hv1 hv2 hv3
      injection hv1 with hv1
      subst hv1
      exact ⟨hg', cur, hh⟩
  have hsa : ∀ a, A6 = some a → a.block ≠ s := fun a e => by
    have := (hfr a e).1
    have := h.lt
    omega
  refine ⟨⟨hs6, ?_, (hr6.keptB (Nat.le_refl _) k6 (fun a e hn hx => hsa a e hx)).more k6.size, fun r hr => ?_, ?_, hok, hc6, fun e => (hn6 e).2, fun a e hn => ?_⟩, hk.trans k6, fun a e => (hfr a e).1⟩
  · have := blk_set hs0 0 (.slice A6 hs6.length cap6)
    simpa using this
  · have hw : HrAt w6 r := by
      rw [e6] at hr
      rcases List.mem_append.1 hr with hr | hr
      · rcases List.mem_append.1 hr with hr | hr
        · exact (h3 r (List.mem_of_mem_take hr)).kept (X := fun _ => False) (Kept.of_below hb) (fun b hb => hb.elim)
        · simp at hr
          subst hr
          refine ⟨rowAt_block [p.ver] (len_ver _) hg (blk_lt hg) (fun j u hu => by simpa [Ver.cells, Part.ver] using hu), Nat.le_refl _, (fun e => by cases e), fun a e hn => ?_⟩
          injection e with e; subst e
          exact ⟨_, _, hg⟩
      · exact (h3 r (List.mem_of_mem_drop hr)).kept (X := fun _ => False) (Kept.of_below hb) (fun b hb => hb.elim)
    exact hw.kept k6 hnv
  · rw [hx, e6, ← h4]
    unfold plainR
    simp [List.map_take, List.map_drop]
  · obtain ⟨-, cs, hc⟩ := hfr a e
    exact ⟨cs, k6.blk hc (blk_lt hc) (hsa a e)⟩
/-- What the document's Install answers. -/
def R9Inst (w : World) (s : Nat) (A : Option Addr) (n : Nat) (L : Hs) (p : Part) (e : Ending) (w' : World) : Prop :=
  ∃ A' n' cap', e = .returned (.tuple #[.bool (newP L p), .int .i64 0]) ∧ RsAt w' s A' n' cap' (instH L p) ∧ Kept w w' (fun b => b = s ∨ ∃ a, A = some a ∧ 0 < n ∧ b = a.block) ∧ ∀ a, A' = some a → (A' = A ∧ 0 < n) ∨ w.heap.size ≤ a.block
set_option maxHeartbeats 8000000 in
theorem r9inst_any (s : Nat) (A : Option Addr) (n cap : Nat) (L : Hs) (p : Part) (w : World) (h : RsAt w s A n cap L) (hn : n ≤ 3518437208882) (hp : okP p = true) :
    Calls Tryz.prog 35 #[.pointer (some ⟨s, 0, none⟩), .int .i64 p.num, p.w.v] w (R9Inst w s A n L p) := by
  have H := Lib.hid h
  have hlen := Lib.hid h.len
  have hok := Lib.hid h.ok
  have Hpl := Lib.hid (fun X (hX : Below w.heap.size w X) => r9place_any s A n cap L p.w.key X (h.below hX) (by omega))
  have hkB : keyB p.w.key = true := by unfold okP at hp; grind
  have hvB : verB p.ver = true := by unfold okP at hp; grind
  have hnum : numB p.num = true := by unfold verB Part.ver at hvB; unfold numB; grind
  have hwr : wrB p.w = true := by unfold verB Part.ver at hvB; unfold wrB; grind
  have Hnum := Lib.hid (fun X => num_any p.num X)
  have Hwr := Lib.hid (fun X => refwr_any p.w X)
  rw [hnum] at Hnum
  rw [hwr] at Hwr
  have hnp : newP L p = !hasV (hget L p.w.key) p.num := by unfold newP; rw [hp]; rfl
  have hin : instH L p = if newP L p then hput L p.w.key (putV (hget L p.w.key) p.ver) else L := rfl
  have Hnp := Lib.hid hnp
  have Hin := Lib.hid hin
  have HkB := Lib.hid hkB
  have HvB := Lib.hid hvB
  clear h hp hnum hwr hnp hin hkB hvB
  unfold Wr.v at *
  go_enter Tryz.func35, Tryz.ntmps35
  go_wp2_with fail
  refine (Hnum.out _).mono ?_
  rintro e w1 ⟨rfl, rfl⟩
  go_wp2_with fail
  refine (Hwr.out _).mono ?_
  rintro e w2 ⟨rfl, hb2⟩
  have hz2 : w.heap.size < w2.heap.size := by have := hb2.size; simp at this; omega
  have hblk2 := (hb2.block w.heap.size (by simp)).trans (blk_new w _)
  have Hblk2 := Lib.hid hblk2
  have HB2 := Lib.hid (below_box (hb2.mono (by simp)))
  have c0 := blk_cell hblk2 0
  have c1 := blk_cell hblk2 1
  have c2 := blk_cell hblk2 2
  simp only [List.getElem?_toArray, List.getElem?_cons_zero, List.getElem?_cons_succ] at c0 c1 c2
  clear hb2 hblk2
  go_wp2_with fail
  refine (Hpl.out _ (bel_alloc HB2.out _)).mono ?_
  rintro e w3 ⟨rfl, hb3⟩
  have hz3 : w2.heap.size < w3.heap.size := by have := hb3.size; simp at this; omega
  have hg1 := (hb3.block w2.heap.size (by simp)).trans (blk_new w2 _)
  have hg0 := (hb3.block w.heap.size (by simp; omega)).trans ((Below.heap_alloc w2 _ _ hz2).trans Hblk2.out)
  have Hg1 := Lib.hid hg1
  have Hg0 := Lib.hid hg0
  have HB3 := Lib.hid (HB2.out.trans (((Below.refl w2.heap.size w2).alloc (Nat.le_refl _) _).trans (hb3.mono (by simp)) |>.mono HB2.out.size))
  have Hsz := Lib.hid (show w2.heap.size < w3.heap.size ∧ w.heap.size < w2.heap.size from ⟨hz3, hz2⟩)
  have b0 := blk_cell hg0 0
  have d0 := blk_cell hg1 0
  have d1 := blk_cell hg1 1
  have d2 := blk_cell hg1 2
  simp only [List.getElem?_toArray, List.getElem?_cons_zero, List.getElem?_cons_succ] at b0 d0 d1 d2
  have s0 := (H.out.below HB3.out).cell
  clear hb3 hg1 hg0 c0 c1 c2
  cases hpl : plB L p.w.key
  · have hln := plN_le L p.w.key
    rw [hlen.out] at hln
    have Hno := Lib.hid (plB_nil hok.out hpl)
    have Hput : Hid (∀ l, chkB l = true → l ≠ [] → hput L p.w.key l = L.take (plN L p.w.key) ++ (p.w.key, l) :: L.drop (plN L p.w.key)) := Lib.hid (fun l h1 h2 => hput_pln hok.out hpl HkB.out h1 h2)
    obtain ⟨hs, h1, h2, h3, h4, h5, h6, h7, h8⟩ := H.out
    have Hh1 := Lib.hid h1
    have Hrow := Lib.hid (fun X (hX : Below w.heap.size w X) => (h2.below hX).more hX.size)
    have Hh3 := Lib.hid h3
    have H4 := Lib.hid h4
    have Hhl := Lib.hid h2.len
    have hchk1 : chkB [p.ver] = true := by rw [chkB_iff]; exact ⟨fun x hx => by simp at hx; subst hx; exact HvB.out, List.pairwise_singleton _ _⟩
    have hnew : newP L p = true := by rw [Hnp.out, Hno.out]; rfl
    have hinst : instH L p = hput L p.w.key [p.ver] := by
      rw [Hin.out, if_pos hnew, Hno.out]; rfl
    have hput1 := Hput.out [p.ver] hchk1 (by simp)
    have hok1 := hput_ok hok.out HkB.out hchk1 (by simp)
    have Hend : Hid (∀ (A6 : Option Addr) (cap6 : Nat) (hs6 : List HR) (g : Nat) (w6 : World), hs6 = (hs.take (plN L p.w.key) ++ [(⟨p.w.key, some ⟨g, 0, none⟩, 1, 1, [p.ver]⟩ : HR)]) ++ hs.drop (plN L p.w.key) →
        w6.heap[g]? = some (.cells #[.int .i64 p.num, .string p.w.val, .bool p.w.drop] 104 (0, 0)) → RowAt HR.cells 2 w6 w6.heap.size A6 hs6.length hs6 → (A6 = none → hs6.length = 0 ∧ cap6 = 0) → hs6.length ≤ cap6 → w6.ownsRow w.heap.size 70 2 (.slice A6 hs6.length cap6) hs6.length (hs6.flatMap HR.cells) →
        w6.heap[s]? = some (.cells #[.slice A n cap] 114 (0, 0)) → Below w.heap.size w w6 → R9Inst w s A n L p (.returned (.tuple #[.bool true, .int .i64 0])) (w6.setCell ⟨s, 0, none⟩ (.slice A6 hs6.length cap6))) := Lib.hid (fun A6 cap6 hs6 g w6 e1 e2 e3 e4 e5 e6 e7 e8 => by
      obtain ⟨r1, r2, r3⟩ := H.out.more hln h3 h4 hput1 hok1 e1 e2 e3 e4 e5 e6 e7 e8
      exact ⟨A6, _, cap6, by rw [hnew], by rw [hinst]; exact r1, r2.mono (fun b hb => Or.inl hb), fun a e => Or.inr (r3 a e)⟩)
    clear hchk1 hnew hinst hput1 hok1
    generalize plN L p.w.key = i at *
    have hi0 : (0 : Int) ≤ (i : Int) := by omega
    have hi1 : (i : Int) ≤ (cap : Int) := by omega
    have hi2 : (i : Int) ≤ (n : Int) := by omega
    obtain ⟨i0, hi, hz0, hz1, hz2'⟩ := info_parts info_held
    have Hnil := Lib.hid (fun X : World => (World.ownsRow_nil X w.heap.size 70 2))
    have hw3 := HB3.out.size
    clear h1 h2 h3 h4 h5 h8 hpl
    go_wp2_with (at_builtin; refine wpList_append_row (cells := HR.cells) rfl _ _ 22 rfl w.heap.size 70 i0 (.agg #[.string ⟨#[]⟩, .slice none 0 0]) 2 40 Tryz.underlying22 hi hz0 hz1 hz2' rfl (by decide) _ 0 [] rfl (Hnil.out _) A i cap _ (hs.take i) rfl ((Hrow.out _ HB3.out).take_ hln) h7 (fun _ _ => rfl) (fun y u hu => one_hr y u hu) (by unfold maxLen; omega) (by omega) hw3 ?_)
    intro v4 w4 hown4 hg4
    have hb4 : Below w3.heap.size w3 w4 := (Below.refl _ _).grown hg4 (Nat.le_refl _) (fun k hk => by cases hk)
    have HB4 := Lib.hid (HB3.out.trans (hb4.mono hw3))
    have HO4 : Hid (w4.ownsRow w.heap.size 70 2 v4 (hs.take i).length ((hs.take i).flatMap HR.cells)) := Lib.hid (by
      have hl : (hs.take i).length = i := by rw [List.length_take, Hhl.out]; omega
      rw [hl]; simpa using hown4)
    have b0' : w4.cell? ⟨w.heap.size, 0, none⟩ = some (.string p.w.key) := (hb4.cell (p := ⟨w.heap.size, 0, none⟩) (by show w.heap.size < _; omega)).trans b0
    have d0' : w4.cell? ⟨w2.heap.size, 0, none⟩ = some (.int .i64 p.num) := (hb4.cell (p := ⟨w2.heap.size, 0, none⟩) hz3).trans d0
    have d1' : w4.cell? ⟨w2.heap.size, 1, none⟩ = some (.string p.w.val) := (hb4.cell (p := ⟨w2.heap.size, 1, none⟩) hz3).trans d1
    have d2' : w4.cell? ⟨w2.heap.size, 2, none⟩ = some (.bool p.w.drop) := (hb4.cell (p := ⟨w2.heap.size, 2, none⟩) hz3).trans d2
    have hw4 := HB4.out.size
    have hl4 : (hs.take i).length = i := by rw [List.length_take, Hhl.out]; omega
    have hz4 : w3.heap.size ≤ w4.heap.size := hb4.size
    have Hl4 := Lib.hid hl4
    clear hown4 hg4 b0 d0 d1 d2 s0 hb4
    have HO4a : Hid ((((w4.alloc (.cells #[.int .i64 p.num, .string p.w.val, .bool p.w.drop] 104)).alloc (.cells #[.string p.w.key, .slice (some ⟨w4.heap.size, 0, none⟩) 1 1] 70)).ownsRow w.heap.size 70 2 v4 (hs.take i).length ((hs.take i).flatMap HR.cells))) := Lib.hid ((HO4.out.alloc _).alloc _)
    have hbk := blk_new2 w4 (.cells #[.int .i64 p.num, .string p.w.val, .bool p.w.drop] 104) (.cells #[.string p.w.key, .slice (some ⟨w4.heap.size, 0, none⟩) 1 1] 70)
    have HBk := Lib.hid hbk
    have hbv := (Below.heap_alloc (w4.alloc (.cells #[.int .i64 p.num, .string p.w.val, .bool p.w.drop] 104)) (.cells #[.string p.w.key, .slice (some ⟨w4.heap.size, 0, none⟩) 1 1] 70) w4.heap.size (by simp)).trans (blk_new w4 _)
    have HBv := Lib.hid hbv
    have HB4a : Hid (Below w.heap.size w ((w4.alloc (.cells #[.int .i64 p.num, .string p.w.val, .bool p.w.drop] 104)).alloc (.cells #[.string p.w.key, .slice (some ⟨w4.heap.size, 0, none⟩) 1 1] 70))) := Lib.hid (bel_alloc (bel_alloc HB4.out _) _)
    clear hbk hbv
    go_wp2_with (at_builtin; refine wpList_append_row (cells := HR.cells) rfl _ _ 22 rfl w.heap.size 70 i0 (.agg #[.string ⟨#[]⟩, .slice none 0 0]) 2 40 Tryz.underlying22 hi hz0 hz1 hz2' rfl (by decide) v4 (hs.take i).length _ rfl HO4a.out (some ⟨w4.heap.size + 1, 0, none⟩) 1 1 (w4.heap.size + 2) [(⟨p.w.key, some ⟨w4.heap.size, 0, none⟩, 1, 1, [p.ver]⟩ : HR)] rfl (rowAt_block [(⟨p.w.key, some ⟨w4.heap.size, 0, none⟩, 1, 1, [p.ver]⟩ : HR)] (len_hr _) HBk.out (by omega) (fun j u hu => by simpa [HR.cells] using hu)) (fun h => by cases h) (fun _ _ => rfl) (fun y u hu => one_hr y u hu) (by unfold maxLen; omega) (by omega) (by simp; omega) ?_)
    intro v5 w5 hown5 hg5
    have HO5 : Hid (w5.ownsRow w.heap.size 70 2 v5 (i + 1) ((hs.take i ++ [(⟨p.w.key, some ⟨w4.heap.size, 0, none⟩, 1, 1, [p.ver]⟩ : HR)]).flatMap HR.cells)) := Lib.hid (by simpa [Hl4.out, List.flatMap_append] using hown5)
    have HB5 : Hid (Below w.heap.size w w5) := Lib.hid (HB4a.out.trans (below_grown_own HO4a.out hg5 (by simp; omega)))
    have HBv5 : Hid (w5.heap[w4.heap.size]? = some (.cells #[.int .i64 p.num, .string p.w.val, .bool p.w.drop] 104 (0, 0))) := Lib.hid ((hg5.block w4.heap.size (by simp; omega) (fun e => by have := (HO4.out.lt _ e.symm).2; omega)).trans HBv.out)
    have hz5 : w4.heap.size < w5.heap.size := blk_lt HBv5.out
    have s0 : w5.cell? ⟨s, 0, none⟩ = some (.slice A n cap) := blk_cell ((HB5.out.block s (blk_lt Hh1.out)).trans Hh1.out) 0
    have hw5 := HB5.out.size
    have hli : (hs.drop i).length = n - i := by rw [List.length_drop, Hhl.out]
    have Hli := Lib.hid hli
    have hcut := (Hrow.out _ HB5.out).cut hln h6
    clear hown5 hg5 b0' d0' d1' d2' hli
    by_cases hci : cap = i
    · have hnc : n - i = 0 := by omega
      rw [if_pos hci, hnc] at hcut
      have Hcut := Lib.hid hcut
      have Hnilc : Hid (A = none → cap - i = 0) := Lib.hid (fun _ => by omega)
      clear hcut
      have hci' := hci.symm
      subst hci'
      go_wp2_with (at_builtin; refine wpList_append_row (cells := HR.cells) rfl _ _ 22 rfl w.heap.size 70 i0 (.agg #[.string ⟨#[]⟩, .slice none 0 0]) 2 40 Tryz.underlying22 hi hz0 hz1 hz2' rfl (by decide) v5 (i + 1) _ rfl HO5.out _ _ _ _ (hs.drop i) rfl Hcut.out (by first | exact Hnilc.out | (intro _; simp; done) | (intro _; omega)) (fun _ _ => rfl) (fun y u hu => one_hr y u hu) (by unfold maxLen; omega) (by omega) hw5 ?_)
      intro v6 w6 hown6 hg6
      obtain ⟨hs6, h6e⟩ : ∃ hs6, hs6 = (hs.take i ++ [(⟨p.w.key, some ⟨w4.heap.size, 0, none⟩, 1, 1, [p.ver]⟩ : HR)]) ++ hs.drop i := ⟨_, rfl⟩
      have hN : hs6.length = i + 1 + (n - i) := by rw [h6e, List.length_append, List.length_append, Hl4.out, Hli.out]; rfl
      have hO6 : w6.ownsRow w.heap.size 70 2 v6 hs6.length (hs6.flatMap HR.cells) := by rw [hN, h6e]; first | (simpa [List.flatMap_append] using hown6; done) | simpa [List.flatMap_append, hnc] using hown6
      have H6e := Lib.hid h6e
      clear h6e
      have HB6 : Hid (Below w.heap.size w w6) := Lib.hid (HB5.out.trans (below_grown_own HO5.out hg6 hw5))
      have HBv6 : Hid (w6.heap[w4.heap.size]? = some (.cells #[.int .i64 p.num, .string p.w.val, .bool p.w.drop] 104 (0, 0))) := Lib.hid (by
        by_cases e : v5.ownBlock = some w4.heap.size
        · exfalso
          obtain ⟨-, h0 | ⟨g, cap', cur, hv, hg, hh, -⟩⟩ := HO5.out
          · rw [h0.1] at e; cases e
          · rw [hv] at e
            injection e with e
            subst e
            rw [HBv5.out] at hh
            simp at hh
        · exact (hg6.block w4.heap.size hz5 (fun h => e h.symm)).trans HBv5.out)
      have hs6 := (HB6.out.block s (blk_lt Hh1.out)).trans Hh1.out
      have s0' := blk_cell hs6 0
      have f0' := blk_frozen hs6 0
      simp only [List.getElem?_toArray, List.getElem?_cons_zero] at s0'
      have Hs6 := Lib.hid hs6
      obtain ⟨A6, cap6, rfl, hrow6, hnil6, hcap6⟩ := rowAt_own (len_hr _) hO6
      have HO6 := Lib.hid hO6
      have Hrow6 := Lib.hid hrow6
      have Hnil6 := Lib.hid hnil6
      have Hcap6 := Lib.hid hcap6
      have HN := Lib.hid hN
      clear hown6 hg6 hs6 s0 hO6 hN hrow6 hnil6 hcap6
      go_wp2_with fail
      go_ret2
      exact Hend.out A6 cap6 hs6 w4.heap.size w6 H6e.out HBv6.out Hrow6.out Hnil6.out Hcap6.out HO6.out Hs6.out HB6.out
    · rw [if_neg hci] at hcut
      have Hcut := Lib.hid hcut
      have Hnilc : Hid (A.map (·.add (i * 2)) = none → cap - i = 0) := Lib.hid (fun e => by
        cases A with
        | none => have := h7 rfl; omega
        | some a => cases e)
      clear hcut
      go_wp2_with (at_builtin; refine wpList_append_row (cells := HR.cells) rfl _ _ 22 rfl w.heap.size 70 i0 (.agg #[.string ⟨#[]⟩, .slice none 0 0]) 2 40 Tryz.underlying22 hi hz0 hz1 hz2' rfl (by decide) v5 (i + 1) _ rfl HO5.out _ _ _ _ (hs.drop i) rfl Hcut.out (by first | exact Hnilc.out | (intro _; simp; done) | (intro _; omega)) (fun _ _ => rfl) (fun y u hu => one_hr y u hu) (by unfold maxLen; omega) (by omega) hw5 ?_)
      intro v6 w6 hown6 hg6
      obtain ⟨hs6, h6e⟩ : ∃ hs6, hs6 = (hs.take i ++ [(⟨p.w.key, some ⟨w4.heap.size, 0, none⟩, 1, 1, [p.ver]⟩ : HR)]) ++ hs.drop i := ⟨_, rfl⟩
      have hN : hs6.length = i + 1 + (n - i) := by rw [h6e, List.length_append, List.length_append, Hl4.out, Hli.out]; rfl
      have hO6 : w6.ownsRow w.heap.size 70 2 v6 hs6.length (hs6.flatMap HR.cells) := by rw [hN, h6e]; first | (simpa [List.flatMap_append] using hown6; done) | simpa [List.flatMap_append, hnc] using hown6
      have H6e := Lib.hid h6e
      clear h6e
      have HB6 : Hid (Below w.heap.size w w6) := Lib.hid (HB5.out.trans (below_grown_own HO5.out hg6 hw5))
      have HBv6 : Hid (w6.heap[w4.heap.size]? = some (.cells #[.int .i64 p.num, .string p.w.val, .bool p.w.drop] 104 (0, 0))) := Lib.hid (by
        by_cases e : v5.ownBlock = some w4.heap.size
        · exfalso
          obtain ⟨-, h0 | ⟨g, cap', cur, hv, hg, hh, -⟩⟩ := HO5.out
          · rw [h0.1] at e; cases e
          · rw [hv] at e
            injection e with e
            subst e
            rw [HBv5.out] at hh
            simp at hh
        · exact (hg6.block w4.heap.size hz5 (fun h => e h.symm)).trans HBv5.out)
      have hs6 := (HB6.out.block s (blk_lt Hh1.out)).trans Hh1.out
      have s0' := blk_cell hs6 0
      have f0' := blk_frozen hs6 0
      simp only [List.getElem?_toArray, List.getElem?_cons_zero] at s0'
      have Hs6 := Lib.hid hs6
      obtain ⟨A6, cap6, rfl, hrow6, hnil6, hcap6⟩ := rowAt_own (len_hr _) hO6
      have HO6 := Lib.hid hO6
      have Hrow6 := Lib.hid hrow6
      have Hnil6 := Lib.hid hnil6
      have Hcap6 := Lib.hid hcap6
      have HN := Lib.hid hN
      clear hown6 hg6 hs6 s0 hO6 hN hrow6 hnil6 hcap6
      go_wp2_with fail
      go_ret2
      exact Hend.out A6 cap6 hs6 w4.heap.size w6 H6e.out HBv6.out Hrow6.out Hnil6.out Hcap6.out HO6.out Hs6.out HB6.out
  · have hat := plB_at hok.out hpl
    have hlt : plN L p.w.key < n := by have := (List.getElem?_eq_some_iff.1 hat).1; rw [hlen.out] at this; exact this
    have HR3 := Lib.hid (H.out.below HB3.out)
    obtain ⟨b, off, x, hA, hbl, hx, x0, x1, hr, hck, hxl⟩ := HR3.out.at_ hlt
    subst hA
    have hxe : x.key = p.w.key ∧ x.vs = hget L p.w.key := by rw [hat] at hx; injection hx with hx; injection hx with h1 h2; exact ⟨h1.symm, h2.symm⟩
    have hset : ∀ vs, chkB vs = true → vs ≠ [] → hput L p.w.key vs = L.set (plN L p.w.key) (p.w.key, vs) := fun vs h1 h2 => hput_set hok.out hat HkB.out h1 h2
    have hne : hget L p.w.key ≠ [] := hok.out.some_ _ (List.mem_of_getElem? hat)
    have hi1 : (0 : Int) ≤ (plN L p.w.key : Int) := by omega
    have hi2 : (plN L p.w.key : Int) < (n : Int) := by omega
    have hput := r8put_any x.A x.len x.cap x.vs p.ver
    rw [hxe.2] at hput
    have Hput := Lib.hid (fun X (hX : Below w3.heap.size w3 X) => hput X (by have := (hr.1.below hX).more hX.size; rwa [hxe.2] at this) hxl (by rw [← hxe.2]; exact hck) HvB.out)
    have Hat := Lib.hid hat
    have Hset := Lib.hid hset
    have Hr := Lib.hid hr
    have Hxe := Lib.hid hxe
    have Hne := Lib.hid hne
    rw [hxe.2] at hck
    have Hck := Lib.hid hck
    generalize plN L p.w.key = i at *
    have hcells : ∀ X, Below w3.heap.size w3 X → X.cell? ⟨s, 0, none⟩ = some (.slice (some ⟨b, off, none⟩) n cap) ∧ X.cell? ⟨b, off + i * 2 + 1, none⟩ = some (.slice x.A x.len x.cap) ∧ X.cell? ⟨w2.heap.size, 0, none⟩ = some (.int .i64 p.num) ∧ X.cell? ⟨w2.heap.size, 1, none⟩ = some (.string p.w.val) ∧ X.cell? ⟨w2.heap.size, 2, none⟩ = some (.bool p.w.drop) := fun X hX =>
      ⟨(HR3.out.below hX).cell, (hX.cell (p := ⟨b, off + i * 2 + 1, none⟩) hbl).trans x1, (hX.cell (p := ⟨w2.heap.size, 0, none⟩) hz3).trans d0, (hX.cell (p := ⟨w2.heap.size, 1, none⟩) hz3).trans d1, (hX.cell (p := ⟨w2.heap.size, 2, none⟩) hz3).trans d2⟩
    have HS := Lib.hid hcells
    have HD : Hid (Below w3.heap.size w3 w3.drew) := Lib.hid (bel_drew (Below.refl _ _))
    have hpv : Value.agg #[.int .i64 p.ver.num, .string p.ver.val, .bool p.ver.drop] = .agg #[.int .i64 p.num, .string p.w.val, .bool p.w.drop] := rfl
    rw [hpv] at Hput
    clear hat hxe hset hne hput hx x0 hr hck hcells hpv hpl b0
    have Hfz : Hid (∀ X, Below w3.heap.size w3 X → X.frozen? ⟨b, off + i * 2 + 1, none⟩ = false) := Lib.hid (fun X hX => by
      obtain ⟨hs, -, -, -, -, -, -, -, h8⟩ := HR3.out.below hX
      obtain ⟨cs, hb⟩ := h8 ⟨b, off, none⟩ rfl (by omega)
      exact blk_frozen hb _)
    cases hhv : hasV (hget L p.w.key) p.num
    · have Hput2 : Hid (∀ X, Below w3.heap.size w3 X → Calls Tryz.prog 74 #[.slice x.A x.len x.cap, .agg #[.int .i64 p.num, .string p.w.val, .bool p.w.drop]] X fun e w' => ∃ v, e = .returned (.tuple #[v, .bool true, .int .i64 0]) ∧ OwnV w' X.heap.size v (putV (hget L p.w.key) p.ver) ∧ Below X.heap.size X w') := Lib.hid (fun X hX => by
        refine (Hput.out X hX).mono ?_
        rintro e w' ⟨h1, h2⟩
        rw [if_neg (by show ¬ hasV _ p.num = true; rw [hhv]; simp)] at h2
        obtain ⟨v, h3, h4⟩ := h2
        exact ⟨v, h3, h4, h1⟩)
      have Hnew : Hid (newP L p = true) := Lib.hid (by rw [Hnp.out, hhv]; rfl)
      have Hckp : Hid (chkB (putV (hget L p.w.key) p.ver) = true) := Lib.hid (chkB_putV Hck.out HvB.out hhv)
      have Hnep : Hid (putV (hget L p.w.key) p.ver ≠ []) := Lib.hid (by intro e; have := len_putV (hget L p.w.key) p.ver; rw [e] at this; simp at this)
      clear Hput hhv
      go_upto_region 13 with fail
      go_region_held3 (fun X => X.cell? ⟨s, 0, none⟩ = some (.slice (some ⟨b, off, none⟩) n cap) ∧ X.cell? ⟨b, off + i * 2 + 1, none⟩ = some (.slice x.A x.len x.cap) ∧ X.cell? ⟨w2.heap.size, 0, none⟩ = some (.int .i64 p.num) ∧ X.cell? ⟨w2.heap.size, 1, none⟩ = some (.string p.w.val) ∧ X.cell? ⟨w2.heap.size, 2, none⟩ = some (.bool p.w.drop))
        (first | (with_reducible refine HS.out _ ?_; (first | with_reducible exact HB4.out | exact bel_drew (Below.refl _ _))))
        (first
          | (go_at_call 74; refine (Hput2.out _ HD.out).mono ?_; rintro e w4 ⟨v4, rfl, hown4, hb4⟩; have HB4 : Hid (Below w3.heap.size w3 w4) := Lib.hid (HD.out.trans hb4); have HO4 := Lib.hid hown4; clear hown4 hb4))
      obtain ⟨A4, cap4, rfl, hrow4, hcap4, hnil4⟩ := own_bound HO4.out
      have hty4 := OwnV.ty HO4.out (putV (hget L p.w.key) p.ver).length
      have hset4 := (HR3.out.below HB4.out).set hlt Hat.out (vs := putV (hget L p.w.key) p.ver) (k := p.w.key) ⟨hrow4, hcap4, hnil4, hty4⟩ Hckp.out Hnep.out
      have HSet4 := Lib.hid hset4
      obtain ⟨s0', x1', -⟩ := HS.out w4 HB4.out
      have f1' := Hfz.out w4 HB4.out
      clear hset4 hrow4 hcap4 hnil4 hty4 d0 d1 d2 s0 x1
      go_wp2_with fail
      go_ret2
      obtain ⟨r1, r2⟩ := HSet4.out
      refine ⟨some ⟨b, off, none⟩, n, cap, by rw [Hnew.out]; rfl, ?_, ((Kept.of_below (HB3.out.trans (HB4.out.mono HB3.out.size))).trans (r2.mono fun b' e => Or.inr ⟨⟨b, off, none⟩, rfl, by omega, e⟩)), fun a e => Or.inl ⟨rfl, by omega⟩⟩
      rw [Hin.out, if_pos Hnew.out, Hset.out _ Hckp.out Hnep.out]
      exact r1
    · have Hput2 : Hid (∀ X, Below w3.heap.size w3 X → Calls Tryz.prog 74 #[.slice x.A x.len x.cap, .agg #[.int .i64 p.num, .string p.w.val, .bool p.w.drop]] X fun e w' => e = .returned (.tuple #[.slice x.A x.len x.cap, .bool false, .int .i64 0]) ∧ Below X.heap.size X w') := Lib.hid (fun X hX => by
        refine (Hput.out X hX).mono ?_
        rintro e w' ⟨h1, h2⟩
        rw [if_pos (by show hasV _ p.num = true; rw [hhv])] at h2
        exact ⟨h2, h1⟩)
      have Hnew : Hid (newP L p = false) := Lib.hid (by rw [Hnp.out, hhv]; rfl)
      clear Hput hhv
      go_upto_region 13 with fail
      go_region_held3 (fun X => X.cell? ⟨s, 0, none⟩ = some (.slice (some ⟨b, off, none⟩) n cap) ∧ X.cell? ⟨b, off + i * 2 + 1, none⟩ = some (.slice x.A x.len x.cap) ∧ X.cell? ⟨w2.heap.size, 0, none⟩ = some (.int .i64 p.num) ∧ X.cell? ⟨w2.heap.size, 1, none⟩ = some (.string p.w.val) ∧ X.cell? ⟨w2.heap.size, 2, none⟩ = some (.bool p.w.drop))
        (first | (with_reducible refine HS.out _ ?_; (first | with_reducible exact HB4.out | exact bel_drew (Below.refl _ _))))
        (first
          | (go_at_call 74; refine (Hput2.out _ HD.out).mono ?_; rintro e w4 ⟨rfl, hb4⟩; have HB4 : Hid (Below w3.heap.size w3 w4) := Lib.hid (HD.out.trans hb4); clear hb4))
      have hset4 := (HR3.out.below HB4.out).set hlt Hat.out (vs := hget L p.w.key) (k := p.w.key) (A2 := x.A) (n2 := x.len) (c2 := x.cap) (by
        have := Hr.out.kept (X := fun _ => False) (Kept.of_below HB4.out) (fun b hb => hb.elim)
        have e1 := Hxe.out.1
        have e2 := Hxe.out.2
        obtain ⟨xk, xA, xl, xc, xv⟩ := x
        simp only at e1 e2
        subst e1 e2
        exact this) Hck.out Hne.out
      have HSet4 := Lib.hid hset4
      obtain ⟨s0', x1', -⟩ := HS.out w4 HB4.out
      have f1' := Hfz.out w4 HB4.out
      clear hset4 d0 d1 d2 s0 x1
      go_wp2_with fail
      go_ret2
      obtain ⟨r1, r2⟩ := HSet4.out
      refine ⟨some ⟨b, off, none⟩, n, cap, by rw [Hnew.out]; rfl, ?_, ((Kept.of_below (HB3.out.trans (HB4.out.mono HB3.out.size))).trans (r2.mono fun b' e => Or.inr ⟨⟨b, off, none⟩, rfl, by omega, e⟩)), fun a e => Or.inl ⟨rfl, by omega⟩⟩
      rw [Hin.out, if_neg (by rw [Hnew.out]; simp)]
      have hsame : L.set i (p.w.key, hget L p.w.key) = L := by
        refine List.ext_getElem? fun j => ?_
        rw [List.getElem?_set]
        by_cases hj : i = j
        · subst hj; rw [if_pos rfl, if_pos (List.getElem?_eq_some_iff.1 Hat.out).1, Hat.out]
        · rw [if_neg hj]
      rw [hsame] at r1
      exact r1
end Go.Proofs.YtfpcgfgofemhoaaGreat


/- Lemmas and contracts of functions that statements of this seat stand on, many texts in one; each holds under the premises typed in its head. -/
import Derived.Test.YtafghiekpgjniaaGreatDoorSh6
import Derived.Test.YtafghiekpgjniaaGreatDoorPS
import Derived.Deep.AppendLies
/- shard: helds, versions, All, Size. -/
namespace Go.Proofs.YtafghiekpgjniaaGreatDoor
open Go.RowKit
set_option linter.unusedVariables false
set_option linter.unusedSimpArgs false

set_option maxRecDepth 100000
theorem info_held : (Tryz.prog.info? 132).map (fun i => (i.zero, i.size, i.bytes)) = some (some (.agg #[.string ⟨#[]⟩, .slice none 0 0]), 2, 40) := by kernel_rfl
theorem one_hr (x : HR) : ∀ u ∈ HR.cells x, u.oneCell' = true := by
  intro u hu; simp [HR.cells] at hu; rcases hu with rfl | rfl <;> rfl
theorem cells_new (w : World) (cs : List Value) (e : TypeId) : ∀ (j : Nat) (u : Value), cs[j]? = some u → (w.alloc (.cells cs.toArray e)).cell? ((⟨w.heap.size, 0, none⟩ : Addr).add j) = some u := by
  intro j u hu
  rw [Addr.add_lit, Nat.zero_add, cell_of_row _ _ _ cs.toArray e (0, 0) (heap_alloc_new w _)]
  simpa using hu
/-- The versions of no two keys lie in one block. -/
def DisH (hs : List HR) : Prop := hs.Pairwise fun r q => ∀ b, (Value.slice r.A r.len r.cap).ownBlock = some b → (Value.slice q.A q.len q.cap).ownBlock ≠ some b
/-- Keys with versions that the walk owns, each with its versions in a block of its own. -/
def HRow (w : World) (B : Nat) (v : Value) (hs : List HR) : Prop :=
  w.ownsRow B 132 2 v hs.length (hs.flatMap HR.cells) ∧ (∀ h ∈ hs, w.ownsRow B 140 3 (.slice h.A h.len h.cap) h.len (h.vs.flatMap Ver.cells) ∧ h.vs.length = h.len ∧ ∀ b, (Value.slice h.A h.len h.cap).ownBlock = some b → v.ownBlock ≠ some b) ∧ DisH hs
theorem HRow.nil (w : World) (B : Nat) : HRow w B (.slice none 0 0) [] := ⟨World.ownsRow_nil _ _ _ _, (fun h hh => by cases hh), List.Pairwise.nil⟩
theorem HRow.below {w w' : World} {B : Nat} {v : Value} {hs : List HR} (h : HRow w B v hs) (hb : Below w.heap.size w w') : HRow w' B v hs :=
  ⟨ownsRow_below h.1 hb, fun r hr => ⟨ownsRow_below (h.2.1 r hr).1 hb, (h.2.1 r hr).2⟩, h.2.2⟩
theorem HRow.base {w : World} {B B' : Nat} {v : Value} {hs : List HR} (h : HRow w B v hs) (hB : B' ≤ B) : HRow w B' v hs :=
  ⟨ownsRow_base_a h.1 hB, fun r hr => ⟨ownsRow_base_a (h.2.1 r hr).1 hB, (h.2.1 r hr).2⟩, h.2.2⟩
theorem HRow.hds {w : World} {B : Nat} {v : Value} {hs : List HR} (h : HRow w B v hs) : ∃ A cap, v = .slice A hs.length cap ∧ HdsAt w w.heap.size A hs.length hs ∧ hs.length ≤ cap ∧ (A = none → cap = 0) := by
  obtain ⟨A, cap, h1, h2, h3, h4⟩ := rowAt_own (len_hr _) h.1
  refine ⟨A, cap, h1, ⟨h2, fun r hr => ?_⟩, h4, fun e => (h3 e).2⟩
  obtain ⟨g1, g2, -⟩ := h.2.1 r hr
  have g3 : w.ownsRow B 140 3 (.slice r.A r.len r.cap) r.vs.length (r.vs.flatMap Ver.cells) := by rw [g2]; exact g1
  obtain ⟨A', cap', k1, k2, k3, k4⟩ := rowAt_own (len_ver _) g3
  injection k1 with k1 k5 k6
  subst k1 k6
  exact ⟨by rw [← g2]; exact k2, by rw [← g2]; exact k4, fun e => (k3 e).2⟩
theorem HRow.add {w w' : World} {B g cap : Nat} {v : Value} {hs : List HR} {r : HR} {t : Nat} (h : HRow w t v hs) (hr : w.ownsRow t 140 3 (.slice r.A r.len r.cap) r.len (r.vs.flatMap Ver.cells)) (hl : r.vs.length = r.len)
    (hne : ∀ b, (Value.slice r.A r.len r.cap).ownBlock = some b → v.ownBlock ≠ some b)
    (hown : w'.ownsRow t 132 2 (.slice (some ⟨g, 0, none⟩) (hs.length + 1) cap) (hs.length + 1) (hs.flatMap HR.cells ++ r.cells)) (hg : w.grownBy w' v.ownBlock) (hat : v.ownBlock = some g ∨ g = B) (hB : w.heap.size ≤ B) (hdis : ∀ q ∈ hs, ∀ b, (Value.slice q.A q.len q.cap).ownBlock = some b → (Value.slice r.A r.len r.cap).ownBlock ≠ some b) :
    HRow w' t (.slice (some ⟨g, 0, none⟩) (hs.length + 1) cap) (hs ++ [r]) := by
  have hk : ∀ q : HR, w.ownsRow t 140 3 (.slice q.A q.len q.cap) q.len (q.vs.flatMap Ver.cells) → (∀ b, (Value.slice q.A q.len q.cap).ownBlock = some b → v.ownBlock ≠ some b) →
      w'.ownsRow t 140 3 (.slice q.A q.len q.cap) q.len (q.vs.flatMap Ver.cells) ∧ ∀ b, (Value.slice q.A q.len q.cap).ownBlock = some b → (Value.slice (some ⟨g, 0, none⟩) (hs.length + 1) cap).ownBlock ≠ some b := fun q h1 h2 => by
    refine ⟨h1.kept hg ?_, fun b hb => ?_⟩
    · cases hq : (Value.slice q.A q.len q.cap).ownBlock with
      | none => exact Or.inl rfl
      | some b => right; intro e; exact h2 b hq e.symm
    · have hlt := (h1.lt b hb).2
      have hne2 := h2 b hb
      simp only [Value.ownBlock, ne_eq, Option.some.injEq]
      rcases hat with ha | ha
      · intro e; rw [ha, e] at hne2; exact hne2 rfl
      · omega
  refine ⟨by rw [List.length_append, List.flatMap_append]; simpa using hown, fun q hq => ?_, List.pairwise_append.2 ⟨h.2.2, List.pairwise_singleton _ _, fun x hx y hy => by simp at hy; subst hy; exact hdis x hx⟩⟩
  rcases List.mem_append.1 hq with hq | hq
  · obtain ⟨g1, g2, g3⟩ := h.2.1 q hq
    obtain ⟨k1, k2⟩ := hk q g1 g3
    exact ⟨k1, g2, k2⟩
  · simp at hq; subst hq
    obtain ⟨k1, k2⟩ := hk q hr hne
    exact ⟨k1, hl, k2⟩
theorem pickH_take {L : Hs} {f : List Ver → List Ver} {n : Nat} {k : ByteArray} {l : List Ver} (h : L[n]? = some (k, l)) : pickH f (L.take (n + 1)) = pickH f (L.take n) ++ if f l ≠ [] then [(k, f l)] else [] := by
  unfold pickH
  rw [List.take_add_one, h, List.map_append, List.filter_append]
  congr 1
  simp only [Option.toList_some, List.map_cons, List.map_nil, List.filter_cons, List.filter_nil]
  split <;> simp_all
def HeldsEnd (w : World) (P : Hs) (e : Ending) (w' : World) : Prop := ∃ v hs, e = .returned v ∧ HRow w' w.heap.size v hs ∧ plainR hs = P ∧ Below w.heap.size w w'
/-- What a pick answers. -/
def PickEnd (X : World) (l : List Ver) (e : Ending) (w' : World) : Prop := ∃ v, e = .returned v ∧ OwnV w' X.heap.size v l ∧ Below X.heap.size X w'
set_option maxHeartbeats 8000000 in
theorem heldsV_any (t : SB) (L : Hs) (w : World) (h : ShAt w t L) (hn : L.length ≤ 3518437208883) (f : List Ver → List Ver)
    (hcall : ∀ X k, Below w.heap.size w X → Calls Tryz.prog 119 #[.pointer (some ⟨t.g, 0, none⟩), .string k] X (PickEnd X (f (hget L k)))) :
    Calls Tryz.prog 118 #[.pointer (some ⟨t.g, 0, none⟩), .func (.func 119) #[.pointer (some ⟨t.g, 0, none⟩)] #[]] w (HeldsEnd w (pickH f L)) := by
  have H := Lib.hid h
  have hlt := h.lt
  have hg := gone_any t L w h
  have Hg := Lib.hid hg
  have Hcall := Lib.hid hcall
  obtain ⟨i0, hi, hz0, hz1, hz2⟩ := info_parts info_held
  clear h hg hcall
  go_enter Tryz.func118, Tryz.ntmps118
  go_wp2_with fail
  refine Hg.out.mono ?_
  rintro e w0 ⟨rfl, hw0⟩
  obtain rfl := hw0.symm
  go_wp2_with fail
  refine (rising_any t L _ H.out (by omega)).mono ?_
  rintro e w1 ⟨v1, rfl, hown1, hb1⟩
  obtain ⟨A1, cap1, rfl, hrow1⟩ := rise_row (w := w1) hown1
  have Hrow1 := Lib.hid hrow1
  have Hb1 := Lib.hid hb1
  have hs1 := hb1.size
  clear hown1 hrow1 hb1
  go_wp2_with fail
  go_loopw [5, 16] (fun v i wr => ∃ (n : Nat) (hs : List HR), n ≤ L.length ∧ hs.length ≤ n ∧ i = .int .i64 n ∧ Hid (HRow wr w1.heap.size v hs) ∧ Hid (plainR hs = pickH f (L.take n)) ∧ Hid (Below w1.heap.size w1 wr)) (fun _ i _ => L.length - (RowKit.intOf i).toNat)
  case atStart => exact ⟨0, [], Nat.zero_le _, Nat.le_refl _, rfl, Lib.hid (HRow.nil _ _), Lib.hid rfl, Lib.hid (Below.refl _ _)⟩
  case round =>
    obtain ⟨n, hs, hnl, hhn, rfl, HR0, HP, Hb⟩ := hrel
    have hsr := Hb.out.size
    by_cases hlt2 : n < L.length
    · obtain ⟨b, off, k, rfl, hbl, hk, k0⟩ := row_s (Hrow1.out.below Hb.out) hlt2
      have hLn : L[n]? = some (L[n]) := List.getElem?_eq_getElem hlt2
      obtain ⟨⟨k', l⟩, hkl⟩ : ∃ q, q = L[n] := ⟨_, rfl⟩
      rw [← hkl] at hLn
      have hke : k' = k := by
        rw [List.getElem?_map, hLn] at hk
        simpa using hk
      subst hke
      have HW : Hid (Below w.heap.size w wr) := Lib.hid (Hb1.out.trans (Hb.out.mono hs1))
      have hpick := Hcall.out wr k' HW.out
      rw [hget_mem H.out.ok (List.mem_of_getElem? hLn)] at hpick
      have htk := pickH_take (f := f) hLn
      have Htk := Lib.hid htk
      have Hpick := Lib.hid hpick
      generalize hfl : f l = fl at hpick htk
      have Hfl := Lib.hid hfl
      clear hk hLn hkl hpick htk hfl
      go_wp2_with fail
      refine Hpick.out.mono ?_
      rintro e w3 ⟨v3, rfl, hown3, hb3⟩
      rw [Hfl.out] at hown3
      obtain ⟨A3, cap3, rfl, hrow3, hcap3, hnil3⟩ := own_bound hown3
      have HOwn3 := Lib.hid hown3
      have Hb3 := Lib.hid (Hb.out.trans (hb3.mono hsr))
      have HR3 := Lib.hid (HR0.out.below hb3)
      have hs3 : wr.heap.size ≤ w3.heap.size := hb3.size
      clear hb3 k0 hown3 hrow3 hcap3 hnil3
      by_cases hfe : fl = []
      · subst hfe
        go_wp2_with fail
        exact ⟨⟨n + 1, hs, by omega, by omega, by go_num, HR3, Lib.hid (by rw [HP.out, Htk.out, Hfl.out]; simp), Hb3⟩, by simp [RowKit.intOf]; omega⟩
      · have hpos : 0 < fl.length := List.length_pos_iff.2 hfe
        have hpos2 : (0 : Int) < (fl.length : Int) := by omega
        have HMa : Hid (∀ o, HRow (w3.alloc o) w1.heap.size u5 hs) := Lib.hid fun o => HR3.out.below (bel_alloc (Below.refl _ _) o)
        have Hfe := Lib.hid hfe
        clear hfe
        go_wp2_with (at_builtin; refine wpList_append_lies _ rfl (.tmp 26) (.tmp 30) 67 rfl w1.heap.size 132 i0 _ 2 40 Tryz.underlying67 hi hz0 hz1 hz2 rfl (by decide) u5 hs.length (hs.flatMap HR.cells) rfl (HMa.out _).1 ⟨w3.heap.size, 0, none⟩ 1 1 (HR.cells ⟨k', A3, fl.length, cap3, fl⟩) rfl rfl (cells_new w3 _ _) (one_hr _) (by omega) (by unfold maxLen; omega) (by omega) (by simp; omega) _ rfl ?_; intro g4 cap4 w4 hown4 hg4 hat4 hlt4)
        have HB4 : Hid (Below w1.heap.size w1 w4) := Lib.hid (Hb3.out.trans (((Below.refl w1.heap.size w3).alloc (by omega) _).grown hg4 (by simp; omega) (fun q hq => ((HMa.out (.cells #[] 0)).1.lt q hq).1)))
        have hadd := HRow.add (r := ⟨k', A3, fl.length, cap3, fl⟩) (HMa.out _) ((ownsRow_base_a HOwn3.out (by omega)).alloc _) rfl (fun b hb hv => by
          have h1 := (HOwn3.out.lt b hb).1
          have h2 := (HR0.out.1.lt b hv).2
          omega) hown4 hg4 hat4 (by simp) (fun q hq b hb hv => by
          have h1 := (HOwn3.out.lt b hv).1
          have h2 := ((HR0.out.2.1 q hq).1.lt b hb).2
          omega)
        have Hadd := Lib.hid hadd
        clear hadd hown4 hg4 hat4
        go_wp2_with fail
        exact ⟨⟨n + 1, hs ++ [⟨k', A3, fl.length, cap3, fl⟩], by omega, by simp; omega, by go_num, Hadd, Lib.hid (by rw [Htk.out, Hfl.out, if_pos Hfe.out, ← HP.out]; simp [plainR]), HB4⟩, by simp [RowKit.intOf]; omega⟩
    · obtain rfl : n = L.length := by omega
      have hP := HP.out
      rw [List.take_of_length_le (Nat.le_refl _)] at hP
      have HP2 := Lib.hid hP
      clear hP
      go_wp2_with fail
      go_ret
      exact ⟨_, hs, rfl, HR0.out.base hs1, HP2.out, Hb1.out.trans (Hb.out.mono hs1)⟩
end Go.Proofs.YtafghiekpgjniaaGreatDoor

/- shard: versions, All, Size. -/

namespace Go.Proofs.YtafghiekpgjniaaGreatDoor
open Go.RowKit
set_option linter.unusedVariables false
set_option linter.unusedSimpArgs false

set_option maxRecDepth 100000
set_option maxHeartbeats 2000000 in
theorem versions_any (t : SB) (L : Hs) (k : ByteArray) (w : World) (h : ShAt w t L) : Calls Tryz.prog 119 #[.pointer (some ⟨t.g, 0, none⟩), .string k] w (PickEnd w (hget L k)) := by
  have c0 := h.cell
  obtain ⟨sv, hv1, hv2, hv3, hv4, hv5⟩ := h.look k
  obtain ⟨hl1, hl2⟩ := h.look_len hv1 hv2
  have hlk := hv5 w rfl
  have hcl := clone_any sv.A sv.len sv.cap sv.vs w hv2 hv4 (by omega)
  rw [hv1] at hcl
  have Hcl := Lib.hid hcl
  clear hcl hv1 hv2 hv3 hv4 hv5 hl1 hl2 h
  go_enter Tryz.func119, Tryz.ntmps119
  go_wp2_with fail
  refine Hcl.out.mono ?_
  rintro e w2 ⟨v, rfl, hown, hb⟩
  have Hown := Lib.hid hown
  have Hb := Lib.hid hb
  clear hown hb hlk
  go_wp2_with fail
  go_ret
  exact ⟨_, rfl, Hown.out, Hb.out⟩
set_option maxHeartbeats 2000000 in
theorem all_any (t : SB) (L : Hs) (w : World) (h : ShAt w t L) (hn : L.length ≤ 3518437208883) : Calls Tryz.prog 31 #[.pointer (some ⟨t.g, 0, none⟩)] w (HeldsEnd w L) := by
  have hg := gone_any t L w h
  have hh := heldsV_any t L w h hn id (fun X k hX => versions_any t L k X (h.below hX))
  rw [pickH_id h.ok] at hh
  have Hg := Lib.hid hg
  have Hh := Lib.hid hh
  clear hg hh h
  go_enter Tryz.func31, Tryz.ntmps31
  go_wp2_with fail
  refine Hg.out.mono ?_
  rintro e w0 ⟨rfl, hw0⟩
  obtain rfl := hw0.symm
  go_wp2_with fail
  refine Hh.out.mono ?_
  rintro e w2 ⟨v, hs, rfl, h1, h2, h3⟩
  have H1 := Lib.hid h1
  have H2 := Lib.hid h2
  have H3 := Lib.hid h3
  clear h1 h2 h3
  go_wp2_with fail
  go_ret
  exact ⟨_, hs, rfl, H1.out, H2.out, H3.out⟩
theorem sizeH_take {L : Hs} {n : Nat} {k : ByteArray} {l : List Ver} (h : L[n]? = some (k, l)) : sizeH (L.take (n + 1)) = sizeH (L.take n) + l.length := by
  unfold sizeH
  rw [List.take_add_one, h, List.map_append, List.sum_append]; simp
theorem sizeH_le (L : Hs) (n : Nat) : sizeH (L.take n) ≤ sizeH L := by
  conv => rhs; rw [← List.take_append_drop n L]
  unfold sizeH
  rw [List.map_append, List.sum_append]; omega
theorem len_sizeH {L : Hs} (h : HsOk L) : L.length ≤ sizeH L := by
  have hs := h.some_
  clear h
  induction L with
  | nil => simp
  | cons p r ih =>
    have h1 := List.length_pos_iff.2 (hs p (by simp))
    have h2 := ih (fun q hq => hs q (by simp [hq]))
    simp only [sizeH, List.map_cons, List.sum_cons, List.length_cons] at *; omega
set_option maxHeartbeats 2000000 in
theorem size_any (t : SB) (L : Hs) (w : World) (h : ShAt w t L) (hn : sizeH L ≤ 3518437208883) : Calls Tryz.prog 29 #[.pointer (some ⟨t.g, 0, none⟩)] w fun e w' => e = .returned (.int .i64 (sizeH L : Nat)) ∧ Below w.heap.size w w' := by
  have hl := len_sizeH h.ok
  have hall := all_any t L w h (by omega)
  have Hall := Lib.hid hall
  clear hall h
  go_enter Tryz.func29, Tryz.ntmps29
  go_wp2_with fail
  refine Hall.out.mono ?_
  rintro e w1 ⟨v, hs, rfl, h1, h2, h3⟩
  obtain ⟨A, cap, rfl, hrow, hcap, hnil⟩ := h1.hds
  have hlen : hs.length = L.length := by rw [← h2]; simp [plainR]
  rw [hlen] at hrow
  have Hrow := Lib.hid hrow
  have H2 := Lib.hid h2
  have Hb := Lib.hid h3
  rw [hlen]
  clear h1 h2 h3 hrow hcap hnil hlen
  go_wp2_with fail
  go_loopw [3, 9] (fun s i wr => ∃ n : Nat, n ≤ L.length ∧ i = .int .i64 n ∧ s = .int .i64 (sizeH (L.take n) : Nat) ∧ Hid (Below w1.heap.size w1 wr)) (fun _ i _ => L.length - (RowKit.intOf i).toNat)
  case atStart => exact ⟨0, Nat.zero_le _, rfl, rfl, Lib.hid (Below.refl _ _)⟩
  case round =>
    obtain ⟨n, hnl, rfl, rfl, Hbr⟩ := hrel
    by_cases hlt : n < L.length
    · obtain ⟨b, off, x, rfl, hbl, hx, x0, x1, hv, -, -⟩ := (Hrow.out.below Hbr.out).cell2 hlt
      have hLn : L[n]? = some (x.key, x.vs) := by rw [← H2.out]; simp [plainR, hx]
      have hst := sizeH_take hLn
      have hle := sizeH_le L (n + 1)
      have hxl : x.vs.length = x.len := hv.len
      rw [hxl] at hst
      have Hst := Lib.hid hst
      have hle2 : sizeH (L.take n) + x.len ≤ 3518437208883 := by omega
      generalize sizeH (L.take n) = sn at hle2 Hst ⊢
      obtain ⟨xk, xA, xlen, xcap, xvs⟩ := x
      simp only at x0 x1 hle2 Hst
      clear hLn hst hle hxl hv hx
      go_wp2_with fail
      exact ⟨⟨n + 1, by omega, by go_num, by rw [Hst.out]; go_num, Lib.hid (bel_alloc Hbr.out _)⟩, by simp [RowKit.intOf]; omega⟩
    · obtain rfl : n = L.length := by omega
      rw [List.take_of_length_le (Nat.le_refl _)]
      go_wp2_with fail
      go_ret
      exact ⟨rfl, Hb.out.trans (Hbr.out.mono Hb.out.size)⟩
end Go.Proofs.YtafghiekpgjniaaGreatDoor

/- shard: helds as Dump asks it. -/

namespace Go.Proofs.YtafghiekpgjniaaGreatDoor
open Go.RowKit
set_option linter.unusedVariables false
set_option linter.unusedSimpArgs false

set_option maxRecDepth 100000
set_option maxHeartbeats 8000000 in
theorem heldsD_any (t : SB) (L : Hs) (w : World) (h : ShAt w t L) (hn : L.length ≤ 3518437208883) (g1 g2 g3 : Nat) (f : List Ver → List Ver)
    (hcall : ∀ X k, Below w.heap.size w X → Calls Tryz.prog 120 #[.string k, .pointer (some ⟨g1, 0, none⟩), .pointer (some ⟨g2, 0, none⟩), .pointer (some ⟨g3, 0, none⟩)] X (PickEnd X (f (hget L k)))) :
    Calls Tryz.prog 118 #[.pointer (some ⟨t.g, 0, none⟩), .func (.func 120) #[] #[.pointer (some ⟨g1, 0, none⟩), .pointer (some ⟨g2, 0, none⟩), .pointer (some ⟨g3, 0, none⟩)]] w (HeldsEnd w (pickH f L)) := by
  have H := Lib.hid h
  have hlt := h.lt
  have hg := gone_any t L w h
  have Hg := Lib.hid hg
  have Hcall := Lib.hid hcall
  obtain ⟨i0, hi, hz0, hz1, hz2⟩ := info_parts info_held
  clear h hg hcall
  go_enter Tryz.func118, Tryz.ntmps118
  go_wp2_with fail
  refine Hg.out.mono ?_
  rintro e w0 ⟨rfl, hw0⟩
  obtain rfl := hw0.symm
  go_wp2_with fail
  refine (rising_any t L _ H.out (by omega)).mono ?_
  rintro e w1 ⟨v1, rfl, hown1, hb1⟩
  obtain ⟨A1, cap1, rfl, hrow1⟩ := rise_row (w := w1) hown1
  have Hrow1 := Lib.hid hrow1
  have Hb1 := Lib.hid hb1
  have hs1 := hb1.size
  clear hown1 hrow1 hb1
  go_wp2_with fail
  go_loopw [5, 16] (fun v i wr => ∃ (n : Nat) (hs : List HR), n ≤ L.length ∧ hs.length ≤ n ∧ i = .int .i64 n ∧ Hid (HRow wr w1.heap.size v hs) ∧ Hid (plainR hs = pickH f (L.take n)) ∧ Hid (Below w1.heap.size w1 wr)) (fun _ i _ => L.length - (RowKit.intOf i).toNat)
  case atStart => exact ⟨0, [], Nat.zero_le _, Nat.le_refl _, rfl, Lib.hid (HRow.nil _ _), Lib.hid rfl, Lib.hid (Below.refl _ _)⟩
  case round =>
    obtain ⟨n, hs, hnl, hhn, rfl, HR0, HP, Hb⟩ := hrel
    have hsr := Hb.out.size
    by_cases hlt2 : n < L.length
    · obtain ⟨b, off, k, rfl, hbl, hk, k0⟩ := row_s (Hrow1.out.below Hb.out) hlt2
      have hLn : L[n]? = some (L[n]) := List.getElem?_eq_getElem hlt2
      obtain ⟨⟨k', l⟩, hkl⟩ : ∃ q, q = L[n] := ⟨_, rfl⟩
      rw [← hkl] at hLn
      have hke : k' = k := by
        rw [List.getElem?_map, hLn] at hk
        simpa using hk
      subst hke
      have HW : Hid (Below w.heap.size w wr) := Lib.hid (Hb1.out.trans (Hb.out.mono hs1))
      have hpick := Hcall.out wr k' HW.out
      rw [hget_mem H.out.ok (List.mem_of_getElem? hLn)] at hpick
      have htk := pickH_take (f := f) hLn
      have Htk := Lib.hid htk
      have Hpick := Lib.hid hpick
      generalize hfl : f l = fl at hpick htk
      have Hfl := Lib.hid hfl
      clear hk hLn hkl hpick htk hfl
      go_wp2_with fail
      refine Hpick.out.mono ?_
      rintro e w3 ⟨v3, rfl, hown3, hb3⟩
      rw [Hfl.out] at hown3
      obtain ⟨A3, cap3, rfl, hrow3, hcap3, hnil3⟩ := own_bound hown3
      have HOwn3 := Lib.hid hown3
      have Hb3 := Lib.hid (Hb.out.trans (hb3.mono hsr))
      have HR3 := Lib.hid (HR0.out.below hb3)
      have hs3 : wr.heap.size ≤ w3.heap.size := hb3.size
      clear hb3 k0 hown3 hrow3 hcap3 hnil3
      by_cases hfe : fl = []
      · subst hfe
        go_wp2_with fail
        exact ⟨⟨n + 1, hs, by omega, by omega, by go_num, HR3, Lib.hid (by rw [HP.out, Htk.out, Hfl.out]; simp), Hb3⟩, by simp [RowKit.intOf]; omega⟩
      · have hpos : 0 < fl.length := List.length_pos_iff.2 hfe
        have hpos2 : (0 : Int) < (fl.length : Int) := by omega
        have HMa : Hid (∀ o, HRow (w3.alloc o) w1.heap.size u5 hs) := Lib.hid fun o => HR3.out.below (bel_alloc (Below.refl _ _) o)
        have Hfe := Lib.hid hfe
        clear hfe
        go_wp2_with (at_builtin; refine wpList_append_lies _ rfl (.tmp 26) (.tmp 30) 67 rfl w1.heap.size 132 i0 _ 2 40 Tryz.underlying67 hi hz0 hz1 hz2 rfl (by decide) u5 hs.length (hs.flatMap HR.cells) rfl (HMa.out _).1 ⟨w3.heap.size, 0, none⟩ 1 1 (HR.cells ⟨k', A3, fl.length, cap3, fl⟩) rfl rfl (cells_new w3 _ _) (one_hr _) (by omega) (by unfold maxLen; omega) (by omega) (by simp; omega) _ rfl ?_; intro g4 cap4 w4 hown4 hg4 hat4 hlt4)
        have HB4 : Hid (Below w1.heap.size w1 w4) := Lib.hid (Hb3.out.trans (((Below.refl w1.heap.size w3).alloc (by omega) _).grown hg4 (by simp; omega) (fun q hq => ((HMa.out (.cells #[] 0)).1.lt q hq).1)))
        have hadd := HRow.add (r := ⟨k', A3, fl.length, cap3, fl⟩) (HMa.out _) ((ownsRow_base_a HOwn3.out (by omega)).alloc _) rfl (fun b hb hv => by
          have h1 := (HOwn3.out.lt b hb).1
          have h2 := (HR0.out.1.lt b hv).2
          omega) hown4 hg4 hat4 (by simp) (fun q hq b hb hv => by
          have h1 := (HOwn3.out.lt b hv).1
          have h2 := ((HR0.out.2.1 q hq).1.lt b hb).2
          omega)
        have Hadd := Lib.hid hadd
        clear hadd hown4 hg4 hat4
        go_wp2_with fail
        exact ⟨⟨n + 1, hs ++ [⟨k', A3, fl.length, cap3, fl⟩], by omega, by simp; omega, by go_num, Hadd, Lib.hid (by rw [Htk.out, Hfl.out, if_pos Hfe.out, ← HP.out]; simp [plainR]), HB4⟩, by simp [RowKit.intOf]; omega⟩
    · obtain rfl : n = L.length := by omega
      have hP := HP.out
      rw [List.take_of_length_le (Nat.le_refl _)] at hP
      have HP2 := Lib.hid hP
      clear hP
      go_wp2_with fail
      go_ret
      exact ⟨_, hs, rfl, HR0.out.base hs1, HP2.out, Hb1.out.trans (Hb.out.mono hs1)⟩
end Go.Proofs.YtafghiekpgjniaaGreatDoor


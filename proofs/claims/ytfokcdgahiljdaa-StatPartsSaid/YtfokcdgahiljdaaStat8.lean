/- Lemmas and contracts of functions that a statement of this seat stands on; each holds under the premises typed in its head. -/
import Derived.Test.YtfokcdgahiljdaaStatC
namespace Go.Proofs.Ytfokcdgahiljdaa
open Go.RowKit
set_option linter.unusedVariables false
set_option linter.unusedSimpArgs false


set_option maxHeartbeats 0 in
set_option maxRecDepth 20000 in
theorem parts_lt (c : Cfg) (st : List Ev → Sts) (er : Int) (A : Option Addr) (len cap k mk : Nat) (es : List Ev) (w : World) (he : EsAt w w.heap.size A len es) (hl : len * 48 ≤ 140737488351232) (hlc : len ≤ cap) (hm1 : mk ≤ 65535) (hk : k ≤ len) (Hmod : Hid ((mk : Int) % ((len : Int) + 1) = k)) (hck : ¬cap = k)
    (hof : ∀ (A' : Option Addr) (l' c' : Nat) (es' : List Ev) (W : World), EsAt W W.heap.size A' l' es' → l' ≤ len → Calls Try.prog 11 #[c.v, .slice A' l' c'] W fun e w' => e = .returned (.tuple #[.agg #[.int .i64 (st es').steps, .int .i64 (st es').installs, .int .i64 (st es').lag, .int .i64 (st es').busy, .int .i64 (st es').reads], .int .i64 er]) ∧ Below W.heap.size W w')
    (hcase : (er = 0 ∧ Adds (st (es.take k)) (st (es.drop k)) (st es)) ∨ er = 7) :
    Calls Try.prog 4 #[c.v, .slice A len cap, .int .u16 mk] w fun e w' => e = .returned (.bool true) ∧ Below w.heap.size w w' := by
  have hlen := Lib.hid he.len
  obtain ⟨W1, hW1⟩ : ∃ W1 : World, W1 = w.alloc (.cells #[.int .i64 c.lanes, .int .i64 c.shards, .int .i64 c.window, .int .i64 c.queue] 31) := ⟨_, rfl⟩
  have hb1 : Below w.heap.size w W1 := by rw [hW1]; exact (Below.refl _ _).alloc (Nat.le_refl _) _
  have hz1 : W1.heap.size = w.heap.size + 1 := by rw [hW1]; simp
  have hlt1 : w.heap.size < W1.heap.size := by omega
  have hx1 : W1.heap[w.heap.size]? = some (.cells #[.int .i64 c.lanes, .int .i64 c.shards, .int .i64 c.window, .int .i64 c.queue] 31 (0, 0)) := by rw [hW1]; exact blk_new _ _
  have c0 := blk_cell hx1 0
  have c1 := blk_cell hx1 1
  have c2 := blk_cell hx1 2
  have c3 := blk_cell hx1 3
  simp only [List.getElem?_toArray, List.getElem?_cons_succ, List.getElem?_cons_zero] at c0 c1 c2 c3
  have hes1 : EsAt W1.drew W1.drew.heap.size A len es := (he.below hb1).more hb1.size
  have hk4 : ∀ X : World, Below W1.heap.size W1 X → X.cell? ⟨w.heap.size, 0, none⟩ = some (.int .i64 c.lanes) ∧ X.cell? ⟨w.heap.size, 1, none⟩ = some (.int .i64 c.shards) ∧ X.cell? ⟨w.heap.size, 2, none⟩ = some (.int .i64 c.window) ∧ X.cell? ⟨w.heap.size, 3, none⟩ = some (.int .i64 c.queue) := fun X h =>
    ⟨(h.cell hlt1).trans c0, (h.cell hlt1).trans c1, (h.cell hlt1).trans c2, (h.cell hlt1).trans c3⟩
  have Hk4 := Lib.hid hk4
  clear hk4
  have Hof := Lib.hid hof
  have HW1 := Lib.hid hW1
  have Hb1 := Lib.hid hb1
  have Hx1 := Lib.hid hx1
  have Hcase := Lib.hid hcase
  clear hof hb1 hx1 hW1 hz1 hcase
  obtain ⟨sa, hsa⟩ : ∃ sa, sa = st (es.take k) := ⟨_, rfl⟩
  have Hsa := Lib.hid hsa
  obtain ⟨sb, hsb⟩ : ∃ sb, sb = st (es.drop k) := ⟨_, rfl⟩
  have Hsb := Lib.hid hsb
  obtain ⟨sc, hsc⟩ : ∃ sc, sc = st es := ⟨_, rfl⟩
  have Hsc := Lib.hid hsc
  clear hsa hsb hsc
  unfold Cfg.v
  go_enter Try.func4, Try.ntmps4
  go_upto_region 2 with fail
  rw [← HW1.out, Hmod.out]
  go_cut [8, 9] from 20 (fun s8 s9 wx => ∃ ga, s8 = .pointer (some ⟨ga, 0, none⟩) ∧ s9 = .int .i64 er ∧ W1.heap.size ≤ ga ∧ StsAt wx ga sa ∧ Below W1.heap.size W1 wx)
  case first =>
    have hp := hes1.take_ hk
    have hp2 : ∀ o, EsAt (W1.drew.alloc o) (W1.drew.alloc o).heap.size A k (es.take k) := fun o => (hp.below ((Below.refl _ _).alloc (Nat.le_refl _) _)).more (by simp)
    have Hp := Lib.hid hp
    have Hp2 := Lib.hid hp2
    have hkc : k ≤ cap := by omega
    clear hp hp2 hes1
    go_region_held3 (fun w' => w'.cell? ⟨w.heap.size, 0, none⟩ = some (.int .i64 c.lanes) ∧ w'.cell? ⟨w.heap.size, 1, none⟩ = some (.int .i64 c.shards) ∧ w'.cell? ⟨w.heap.size, 2, none⟩ = some (.int .i64 c.window) ∧ w'.cell? ⟨w.heap.size, 3, none⟩ = some (.int .i64 c.queue))
      (first | (refine Hk4.out _ ?_; (first | exact bel_drew (Below.refl _ _) | exact bel_alloc (bel_drew (Below.refl _ _)) _ | exact Hb2.out | exact bel_alloc Hb2.out _ | exact bel_set (bel_set (bel_set (bel_set (bel_set Hb2.out (Nat.le_refl _) _) (Nat.le_refl _) _) (Nat.le_refl _) _) (Nat.le_refl _) _) (Nat.le_refl _) _)))
      (first
        | (go_at_call 11; refine (Hof.out A k cap (es.take k) _ Hp.out hk).mono ?_; rintro e w2 ⟨rfl, hb2⟩; rw [← Hsa.out]; have hb22 : Below W1.heap.size W1 w2 := (bel_drew (Below.refl _ _)).trans hb2; have hs22 := hb22.size; have Hb2 := Lib.hid hb22; clear hb2 hb22)
        | (go_at_call 11; refine (Hof.out A k cap (es.take k) _ (Hp2.out _) hk).mono ?_; rintro e w2 ⟨rfl, hb2⟩; rw [← Hsa.out]; have hst : StsAt w2 W1.heap.size ⟨0, 0, 0, 0, 0⟩ := (hb2.block _ (by simp)).trans (blk_new _ _); have hb22 : Below W1.heap.size W1 w2 := (bel_alloc (bel_drew (Below.refl _ _)) _).trans (hb2.mono (by simp)); have hs22 := hb22.size; obtain ⟨q0, q1, q2, q3, q4⟩ := hst.cell; obtain ⟨f0, f1, f2, f3, f4⟩ := hst.frozen; have Hst := Lib.hid hst; have Hb2 := Lib.hid hb22; clear hb2 hb22 hst))
    · go_wp2_with fail
      go_meet
      case rel => exact ⟨_, rfl, rfl, hs22, blk_new _ _, bel_alloc Hb2.out _⟩
    · go_wp2_with fail
      go_meet
      case rel => exact ⟨_, rfl, rfl, Nat.le_refl _, Hst.out.set sa, bel_set (bel_set (bel_set (bel_set (bel_set Hb2.out (Nat.le_refl _) _) (Nat.le_refl _) _) (Nat.le_refl _) _) (Nat.le_refl _) _) (Nat.le_refl _) _⟩
  case rest =>
    obtain ⟨wd, hwd⟩ : ∃ wd : World, wd = wc := ⟨_, rfl⟩
    subst hwd
    obtain ⟨ga, rfl, rfl, hga, hsta, hbc⟩ := hcut
    have hgal := blk_lt hsta
    have hesc : EsAt wd wd.heap.size A len es := (he.below (Hb1.out.trans (hbc.mono (Nat.le_of_lt hlt1)))).more (by have := hbc.size; omega)
    have hcutE := hesc.cut (k := k) (cap := cap) hk hlc
    obtain ⟨d0, d1, d2, d3⟩ := Hk4.out _ hbc
    have hk5 : ∀ X : World, Below wd.heap.size wd X → X.cell? ⟨w.heap.size, 0, none⟩ = some (.int .i64 c.lanes) ∧ X.cell? ⟨w.heap.size, 1, none⟩ = some (.int .i64 c.shards) ∧ X.cell? ⟨w.heap.size, 2, none⟩ = some (.int .i64 c.window) ∧ X.cell? ⟨w.heap.size, 3, none⟩ = some (.int .i64 c.queue) := fun X h => Hk4.out X (hbc.trans (h.mono hbc.size))
    have Hk5 := Lib.hid hk5
    have Hbc := Lib.hid hbc
    have Hsta := Lib.hid hsta
    have Hesc := Lib.hid hesc
    have hzc := hbc.size
    obtain ⟨Ab, hAb⟩ : ∃ Ab, Ab = (if cap = k then A else A.map (·.add (k * 6))) := ⟨_, rfl⟩
    rw [← hAb] at hcutE
    have HcutE := Lib.hid hcutE
    have HAb := Lib.hid hAb
    clear hk5 hbc hsta hesc hcutE hAb c0 c1 c2 c3 hes1
    go_upto_region 3 with fail
    go_cut [10, 11] from 28 (fun s8 s9 wx => ∃ gb, s8 = .pointer (some ⟨gb, 0, none⟩) ∧ s9 = .int .i64 er ∧ wd.heap.size ≤ gb ∧ StsAt wx gb sb ∧ Below wd.heap.size wd wx)
    case first =>
      have hkc : k ≤ cap := by omega
      have hkl : len - k ≤ len := by omega
      have hE : EsAt wd.drew wd.drew.heap.size (A.map (·.add (k * 6))) (len - k) (es.drop k) := by have := HcutE.out; rw [HAb.out, if_neg hck] at this; exact this
      have hE2 : ∀ o, EsAt (wd.drew.alloc o) (wd.drew.alloc o).heap.size (A.map (·.add (k * 6))) (len - k) (es.drop k) := fun o => (hE.below ((Below.refl _ _).alloc (Nat.le_refl _) _)).more (by simp)
      have HE := Lib.hid hE
      have HE2 := Lib.hid hE2
      clear hE hE2
      go_region_held3 (fun w' => w'.cell? ⟨w.heap.size, 0, none⟩ = some (.int .i64 c.lanes) ∧ w'.cell? ⟨w.heap.size, 1, none⟩ = some (.int .i64 c.shards) ∧ w'.cell? ⟨w.heap.size, 2, none⟩ = some (.int .i64 c.window) ∧ w'.cell? ⟨w.heap.size, 3, none⟩ = some (.int .i64 c.queue))
        (first | (refine Hk5.out _ ?_; (first | exact bel_drew (Below.refl _ _) | exact bel_alloc (bel_drew (Below.refl _ _)) _ | exact Hb2.out | exact bel_alloc Hb2.out _ | exact bel_set (bel_set (bel_set (bel_set (bel_set Hb2.out (Nat.le_refl _) _) (Nat.le_refl _) _) (Nat.le_refl _) _) (Nat.le_refl _) _) (Nat.le_refl _) _)))
        (first
          | (go_at_call 11; refine (Hof.out _ _ _ (es.drop k) wd.drew HE.out (by omega)).mono ?_; rintro e w2 ⟨rfl, hb2⟩; rw [← Hsb.out]; have hb22 : Below wd.heap.size wd w2 := (bel_drew (Below.refl _ _)).trans hb2; have hs22 := hb22.size; have Hb2 := Lib.hid hb22; clear hb2 hb22)
          | (go_at_call 11; refine (Hof.out _ _ _ (es.drop k) (wd.drew.alloc _) (HE2.out _) (by omega)).mono ?_; rintro e w2 ⟨rfl, hb2⟩; rw [← Hsb.out]; have hst : StsAt w2 wd.heap.size ⟨0, 0, 0, 0, 0⟩ := (hb2.block _ (by simp)).trans (blk_new _ _); have hb22 : Below wd.heap.size wd w2 := (bel_alloc (bel_drew (Below.refl _ _)) _).trans (hb2.mono (by simp)); have hs22 := hb22.size; obtain ⟨q0, q1, q2, q3, q4⟩ := hst.cell; obtain ⟨f0, f1, f2, f3, f4⟩ := hst.frozen; have Hst := Lib.hid hst; have Hb2 := Lib.hid hb22; clear hb2 hb22 hst))
      · go_wp2_with fail
        go_meet
        case rel => exact ⟨_, rfl, rfl, hs22, blk_new _ _, bel_alloc Hb2.out _⟩
      · go_wp2_with fail
        go_meet
        case rel => exact ⟨_, rfl, rfl, Nat.le_refl _, Hst.out.set sb, bel_set (bel_set (bel_set (bel_set (bel_set Hb2.out (Nat.le_refl _) _) (Nat.le_refl _) _) (Nat.le_refl _) _) (Nat.le_refl _) _) (Nat.le_refl _) _⟩
    case rest =>
      obtain ⟨gb, rfl, rfl, hgb, hstb, hbc2⟩ := hcut
      have hbx : Below W1.heap.size W1 wc := Hbc.out.trans (hbc2.mono Hbc.out.size)
      have hesx : EsAt wc wc.heap.size A len es := (he.below (Hb1.out.trans (hbx.mono (Nat.le_of_lt hlt1)))).more (by have := hbx.size; omega)
      have hsta2 : StsAt wc ga sa := (hbc2.block _ hgal).trans Hsta.out
      have hgbl := blk_lt hstb
      have hgal2 := blk_lt hsta2
      clear d0 d1 d2 d3
      obtain ⟨d0, d1, d2, d3⟩ := Hk4.out _ hbx
      have hltx : w.heap.size < wc.heap.size := by have := hbx.size; omega
      have Hbx := Lib.hid hbx
      have Hesx := Lib.hid hesx
      have Hsta2 := Lib.hid hsta2
      have Hstb := Lib.hid hstb
      clear hbx hesx hsta2 hstb hbc2
      go_wp2_with fail
      refine (Hof.out A len cap es _ Hesx.out (Nat.le_refl _)).mono ?_
      rintro e w5 ⟨rfl, hb5⟩
      rw [← Hsc.out]
      have hs5 := hb5.size
      have hpa : StsAt w5 ga sa := (hb5.block _ hgal2).trans Hsta2.out
      have hpb : StsAt w5 gb sb := (hb5.block _ hgbl).trans Hstb.out
      obtain ⟨p0, p1, p2, p3, p4⟩ := hpa.cell
      obtain ⟨q0, q1, q2, q3, q4⟩ := hpb.cell
      have hpal := blk_lt hpa
      have hpbl := blk_lt hpb
      have Hb5 := Lib.hid (Hbx.out.trans (hb5.mono (by have := Hbx.out.size; omega)))
      clear hb5 hpa hpb
      rcases Hcase.out with ⟨rfl, hadd⟩ | rfl
      · rw [← Hsa.out, ← Hsb.out, ← Hsc.out] at hadd
        obtain ⟨⟨m0, m1, m2, m3, m4⟩, ⟨n0, n1, n2, n3⟩, ⟨n4, n5, n6, n7⟩, ⟨n8, n9, n10, n11⟩⟩ := hadd
        have t0 : (sa.steps + sb.steps == sc.steps) = true := by simpa using m0
        have t1 : (sa.installs + sb.installs == sc.installs) = true := by simpa using m1
        have t2 : (sa.reads + sb.reads == sc.reads) = true := by simpa using m2
        have t3 : ((if sa.lag < sb.lag then sb.lag else sa.lag) == sc.lag) = true := by simp only [beq_iff_eq]; rw [← m3, Int.max_def]; split <;> split <;> omega
        have t4 : decide (sa.busy ≤ sc.busy) = true := by simpa using m4
        clear m0 m1 m2 m3 m4
        go_wp2_with fail
        all_goals
          refine (stlives_any _).mono ?_
          rintro e w6 ⟨rfl, hb6⟩
          have Hb6 := Lib.hid (Hb1.out.trans (((bel_alloc Hb5.out _).trans (hb6.mono (bel_alloc Hb5.out _).size)).mono (Nat.le_of_lt hlt1)))
          clear hb6
          go_wp2_with fail
        all_goals go_ret
        all_goals exact ⟨rfl, Hb6.out⟩
      · go_wp2_with fail
        refine (stlives_any _).mono ?_
        rintro e w6 ⟨rfl, hb6⟩
        have Hb6 := Lib.hid (Hb1.out.trans (((bel_alloc Hb5.out _).trans (hb6.mono (bel_alloc Hb5.out _).size)).mono (Nat.le_of_lt hlt1)))
        clear hb6
        go_wp2_with fail
        go_ret
        exact ⟨rfl, Hb6.out⟩
end Go.Proofs.Ytfokcdgahiljdaa

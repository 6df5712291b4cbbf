/- FoldKeys: the walk of its law. -/
import Derived.Test.YtdcnaieieggclaaFk
namespace Go.Proofs.Ytdcnaieieggclaa
open Go.RowKit
set_option linter.unusedVariables false
set_option linter.unusedSimpArgs false

open Go.Maps
set_option maxHeartbeats 8000000 in
set_option maxRecDepth 100000 in
theorem lawkeys_any (A : Option Addr) (len cap : Nat) (rs : List RTx) (f : Nat) (w : World) (hw : TxsAt w w.heap.size A len rs) (hl : len * 32 ≤ 140737488351232) (hc : len ≤ cap) (hf : f ≤ 65535)
    (hs : ∀ r ∈ rs, ∀ x ∈ r.ws, x.key.size ≤ 140737488351232 ∧ x.val.size ≤ 140737488351232) :
    Calls Try.prog 10 #[.slice A len cap, .int .u16 f] w (TrueB w) := by
  have hlen := Lib.hid hw.1.len
  have Hs := Lib.hid hs
  obtain ⟨i0, hi, hz0, hz1, hz2⟩ := info_parts info_str
  clear hs
  go_enter Try.func10, Try.ntmps10
  go_wp2_with fail
  refine (alive_any _).mono ?_
  rintro e w1 ⟨rfl, hb1⟩
  have hs1 := hb1.size
  have hw1 := (hw.below hb1).more hs1
  have Hb1 := Lib.hid hb1
  clear hb1
  go_wp2_with fail
  refine (txsize_any A len cap rs _ hw1 (by omega) Hs.out).mono ?_
  rintro e w2 ⟨q, rfl, q0, q1, hb2⟩
  have hs2 := hb2.size
  have hq : RowAt Icell 1 (w2.alloc (.cells #[.int .i64 q] 3)) (w2.alloc (.cells #[.int .i64 q] 3)).heap.size (some ⟨w2.heap.size, 0, none⟩) 1 [q] := rowAt_block [q] (len_int _) (blk_new _ _) (by simp) (fun j u hu => by simpa [Icell] using hu)
  have Hq := Lib.hid hq
  have Hb2 := Lib.hid (Hb1.out.trans (hb2.mono hs1))
  clear hq hb2 hw1
  go_wp2_with fail
  refine (beyond_any _ 1 1 [q] _ Hq.out (by omega) (fun x hx => by simp at hx; omega)).mono ?_
  rintro e w3 ⟨bb, rfl, hb3⟩
  have hb3' : Below w.heap.size w w3 := Hb2.out.trans (((bel_alloc (Below.refl _ _) _).trans (hb3.mono (by simp))).mono (by omega))
  have hw3 := (hw.below hb3').more hb3'.size
  have Hb3 := Lib.hid hb3'
  have hs3 := hb3'.size
  clear hb3 hb3'
  cases bb
  case true =>
    clear hw3
    go_wp2_with fail
    refine (alive_any _).mono ?_
    rintro e w4 ⟨rfl, hb4⟩
    have Hb4 := Lib.hid (Hb3.out.trans (hb4.mono hs3))
    clear hb4
    go_wp2_with fail
    go_ret
    exact ⟨rfl, Hb4.out⟩
  go_wp2_with fail
  refine (may_any A len cap rs _ hw3 (by omega)).mono ?_
  rintro e w4 ⟨rfl, hb4⟩
  have hb4' : Below w.heap.size w w4 := Hb3.out.trans (hb4.mono hs3)
  have hw4 := (hw.below hb4').more hb4'.size
  have Hb4 := Lib.hid hb4'
  have hs4 := hb4'.size
  clear hb4 hb4' hw3
  by_cases he : logErr rs 1 = 0
  case neg =>
    have hd : decide (logErr rs 1 = 0) = false := decide_eq_false he
    rw [hd]
    clear hw4 hd he
    go_wp2_with fail
    refine (alive_any _).mono ?_
    rintro e w5 ⟨rfl, hb5⟩
    have Hb5 := Lib.hid (Hb4.out.trans (hb5.mono hs4))
    clear hb5
    go_wp2_with fail
    go_ret
    exact ⟨rfl, Hb5.out⟩
  have hd : decide (logErr rs 1 = 0) = true := decide_eq_true he
  rw [hd]
  have He := Lib.hid he
  clear hd he
  by_cases h200 : 200 < len
  case pos =>
    clear hw4
    go_wp2_with fail
    refine (alive_any _).mono ?_
    rintro e w5 ⟨rfl, hb5⟩
    have Hb5 := Lib.hid (Hb4.out.trans (hb5.mono hs4))
    clear hb5
    go_wp2_with fail
    go_ret
    exact ⟨rfl, Hb5.out⟩
  have hmod : ((f : Int) % ((len : Int) + 1)) = ((f % (len + 1) : Nat) : Int) := int_rem (a := f) (b := len + 1) (by omega)
  have hm : f % (len + 1) ≤ len := by have := Nat.mod_lt f (show 0 < len + 1 by omega); omega
  have Hmod := Lib.hid hmod
  generalize f % (len + 1) = m at *
  clear hmod
  have hl2 : len ≤ 200 := by omega
  have hd2 : decide (200 < (len : Int)) = false := by rw [decide_eq_false_iff_not]; omega
  go_wp2_with fail
  rw [Hmod.out]
  have hsc : scanErr rs m = 0 := by unfold scanErr; rw [if_neg (by rw [He.out]; simp), if_pos (by simp only [argB, Bool.and_eq_true, decide_eq_true_eq]; have := hlen.out; omega)]
  have hE : scanL rs m ⟨#[]⟩ ⟨#[]⟩ = foldE rs m := by unfold scanL; rw [if_pos hsc, show ((m : Int)).toNat = m from by omega]; exact cut_all rfl rfl
  have hst := fstore_any A len cap rs m w4 hw4 (by omega) hc
  unfold ScanPost at hst
  rw [hsc, hE] at hst
  have Hst := Lib.hid hst
  have hEl : (foldE rs m).length ≤ 2097152 := len_foldE_le He.out (by have := hlen.out; omega)
  have HEr := Lib.hid (agree_fold rs m).1
  have Hsc := Lib.hid hsc
  clear hst hE hsc
  refine Hst.out.mono ?_
  rintro e w5 ⟨v5, rfl, ho5, hb5⟩
  obtain ⟨Ao, co, rfl, hrow, -, -⟩ := ho5.row
  have hs5 := hb5.size
  have hb5' : Below w.heap.size w w5 := Hb4.out.trans (hb5.mono hs4)
  have Hb5 := Lib.hid hb5'
  have hs05 := hb5'.size
  clear hb5 hb5' ho5 Hst hw4
  have hEn : (foldE rs m).length = (foldE rs m).length := rfl
  obtain ⟨E, hE⟩ : ∃ E, E = foldE rs m := ⟨_, rfl⟩
  rw [← hE] at hrow hEl
  have HE := Lib.hid hE
  rw [← hE]
  clear hE hEn
  go_wp2_with fail
  go_loopw [9] (fun i wr => ∃ t : Nat, t ≤ E.length ∧ i = .int .i64 t ∧ Below w5.heap.size w5 wr) (fun i _ => E.length - (RowKit.intOf i).toNat)
  case atStart => exact ⟨0, Nat.zero_le _, rfl, Below.refl _ _⟩
  case round =>
    obtain ⟨t, ht, rfl, hb⟩ := hrel
    have hr := hrow.below hb
    have Hb := Lib.hid hb
    have hsb := hb.size
    clear hb
    by_cases hlt : t < E.length
    · obtain ⟨be, offe, y, rfl, hbe, hy, y0, y1⟩ := ent_cell2 hr hlt
      cases t with
      | zero =>
        clear hy hr
        go_wp2_with fail
        go_quiet (fail)
        go_wp2_with fail
        exact ⟨⟨0 + 1, by omega, by go_num, below_drewN Hb.out _⟩, by simp [RowKit.intOf]; omega⟩
      | succ t =>
        obtain ⟨be', offe', z, he', hbe', hz, z0, z1⟩ := ent_cell2 hr (show t < E.length by omega)
        simp only [Option.some.injEq, Addr.mk.injEq, and_true] at he'
        obtain ⟨rfl, rfl⟩ := he'
        have hlt2 : Op.bytesLess z.key.toList y.key.toList = true := by rw [less_eq]; exact rises_lt (HE.out ▸ HEr.out) hz hy (by omega)
        clear hy hz hr
        have hti : (0 : Int) < ((t + 1 : Nat) : Int) := by omega
        go_wp2_with fail
        go_quiet (fail)
        go_wp2_with fail
        exact ⟨⟨t + 1 + 1, by omega, by go_num, below_drewN Hb.out _⟩, by simp [RowKit.intOf]; omega⟩
    · obtain rfl : t = E.length := by omega
      clear hr
      obtain ⟨w6, hw6⟩ : ∃ w6 : World, w6 = wr := ⟨_, rfl⟩
      subst hw6
      have hT : ∀ X : World, Below w6.heap.size w6 X → TxsAt X w.heap.size A len rs ∧ Below w.heap.size w X ∧ w6.heap.size ≤ X.heap.size ∧ w.heap.size ≤ w6.heap.size := fun X h => by
        have h1 : Below w.heap.size w w6 := Hb5.out.trans (Hb.out.mono hs05)
        have h0 : Below w.heap.size w X := h1.trans (h.mono h1.size)
        exact ⟨hw.below h0, h0, h.size, h1.size⟩
      have HT := Lib.hid hT
      clear hT
      go_wp2_with fail
      go_loopw [8, 10, 11] (fun n v i wr => ∃ (p : Nat) (S : List ByteArray), p ≤ len ∧ i = .int .i64 p ∧ n = .int .i64 (foundN rs m S : Nat) ∧ Hid (Seen rs p 0 S) ∧ wr.ownsRow w6.heap.size 9 1 v S.length (S.flatMap Scell) ∧ Below w6.heap.size w6 wr) (fun _ _ i _ => len - (RowKit.intOf i).toNat)
      case atStart => exact ⟨0, [], Nat.zero_le _, rfl, rfl, Lib.hid (Seen.start rs), ⟨rfl, Or.inl ⟨rfl, rfl⟩⟩, Below.refl _ _⟩
      case round =>
        obtain ⟨p, S, hp, rfl, rfl, HS, hown, hb⟩ := hrel
        obtain ⟨hr, -, hsr, hs6⟩ := HT.out _ hb
        have Hb := Lib.hid hb
        have Hown := Lib.hid hown
        clear hb hown
        by_cases hlt : p < len
        · obtain ⟨bb, off, r, rfl, hbl2, hx, x0, x1, hws, hrl⟩ := hr.cell2 hlt
          have hr32 : r.ws.length ≤ 32 ∧ r.ws.length = r.len := by
            have h1 := (logErr_ok He.out hx).1
            simp only [txB, Bool.and_eq_true, decide_eq_true_eq] at h1
            exact ⟨h1.1.2, hws.len⟩
          have Hr32 := Lib.hid hr32
          have Hwp := Lib.hid (wsOf_get hx)
          have Hx := Lib.hid hx
          clear hx hr hws hr32
          go_wp2_with fail
          go_loopw [8, 10, 12] (fun n v i wi => ∃ (k : Nat) (S : List ByteArray), k ≤ r.len ∧ i = .int .i64 k ∧ n = .int .i64 (foundN rs m S : Nat) ∧ Hid (Seen rs p k S) ∧ wi.ownsRow w6.heap.size 9 1 v S.length (S.flatMap Scell) ∧ Below w6.heap.size w6 wi) (fun _ _ i _ => r.len - (RowKit.intOf i).toNat)
          case atStart => exact ⟨0, S, Nat.zero_le _, rfl, rfl, HS, Hown.out, Hb.out⟩
          case round =>
            obtain ⟨k, S, hk, rfl, rfl, HS, hown, hb⟩ := hrel
            obtain ⟨hr, -, hsr, -⟩ := HT.out _ hb
            have z1 := (hb.cell (p := ⟨bb, off + p * 2 + 1, none⟩) (show bb < w6.heap.size by omega)).trans (((Hb.out.cell (p := ⟨bb, off + p * 2 + 1, none⟩) (show bb < w6.heap.size by omega)).symm).trans x1)
            have hws := (hr.2 r (List.mem_of_getElem? Hx.out)).1
            have Hbk := Lib.hid hb
            have hSl : S.length ≤ 32 * p + k := HS.out.2.2.2
            have hrl32 : r.len ≤ 32 := by have := Hr32.out; omega
            obtain ⟨As, cs, rfl, hrowS, hnilS, hcapS⟩ := rowAt_own (len_s _) hown
            have Hown := Lib.hid hown
            clear hb hown hnilS
            by_cases hkl : k < r.len
            · obtain ⟨b2, off2, x, hA2, hbl3, hx2, y0, y1, y2⟩ := WsAt.cell3 hws hkl
              have hx3 : (wsOf rs p)[k]? = some x := by rw [Hwp.out]; exact hx2
              have Hx3 := Lib.hid hx3
              have hkB : keyB x.key = true := by
                have h1 := (logErr_ok He.out Hx.out).1
                simp only [txB, Bool.and_eq_true, List.all_eq_true] at h1
                have h3 := h1.2 x (List.mem_of_getElem? hx2)
                simp only [wrB, Bool.and_eq_true] at h3
                exact h3.1.1
              have HkB := Lib.hid hkB
              clear hx2 hx3 hws hkB
              rw [hA2] at z1
              go_wp2_with fail
              refine (among_any As _ cs S x.key _ hrowS (by omega)).mono ?_
              rintro e w7 ⟨rfl, rfl⟩
              cases hmem : memB S x.key
              case true =>
                have Hmem := Lib.hid hmem
                clear hmem hr hrowS
                go_wp2_with fail
                exact ⟨⟨k + 1, S, by omega, by go_num, rfl, Lib.hid (HS.out.skip Hx3.out ((memB_iff _ _).1 Hmem.out)), Hown.out, Hbk.out⟩, by simp [RowKit.intOf]; omega⟩
              case false =>
                have Hmem := Lib.hid hmem
                have How2 : wr.ownsRow w6.heap.size 9 1 _ S.length _ := Hown.out
                clear hmem hrowS
                go_wp2_with (at_builtin; refine wpList_append_own _ rfl _ _ 70 rfl w6.heap.size 9 i0 _ 1 16 Try.underlying70 hi hz0 hz1 hz2 rfl (by decide) _ _ _ rfl (How2.alloc _) ⟨wr.heap.size, 0, none⟩ 1 1 (Scell x.key) rfl rfl (cells_new _ _ _) (one_s _) (by simp only [maxLen]; omega) (by omega) (by simp; omega) ?_; intro v7 w7 hown7 hg7 hn7)
                have hb7 : Below w6.heap.size w6 w7 := Hbk.out.trans (below_grown_new How2 hg7 (by omega))
                obtain ⟨hr7, hb07, hs7, -⟩ := HT.out _ hb7
                have hge : getErr rs m x.key = 0 := by unfold getErr; rw [if_neg (by rw [Hsc.out]; simp), if_pos HkB.out]
                have hgv : getV rs m x.key = mget (foldM rs m) x.key := by unfold getV; rw [if_pos hge, show ((m : Int)).toNat = m from by omega]
                have hwe : writerErr rs ((m : Int) + 1) x.key = 0 := by unfold writerErr; rw [if_neg (by rw [He.out]; simp), if_pos (by rw [HkB.out]; simp; have := hlen.out; omega)]
                have hwn : writerN rs ((m : Int) + 1) x.key = (lastN rs x.key m : Nat) := by unfold writerN; rw [if_pos hwe, show ((m : Int) + 1 - 1).toNat = m from by omega]
                have hcg : ∀ X : World, TxsAt X X.heap.size (some ⟨bb, off, none⟩) len rs → Calls Try.prog 23 #[.slice (some ⟨bb, off, none⟩) len cap, .int .i64 m, .string x.key] X fun e w' => e = .returned (.tuple #[.string ((mget (foldM rs m) x.key).getD ⟨#[]⟩), .bool (mget (foldM rs m) x.key).isSome, .int .i64 0]) ∧ Below X.heap.size X w' := fun X h => by
                  have := fget_any _ len cap rs m x.key X h (by omega) hc; rwa [hge, hgv] at this
                have hcw : ∀ X : World, TxsAt X X.heap.size (some ⟨bb, off, none⟩) len rs → Calls Try.prog 27 #[.slice (some ⟨bb, off, none⟩) len cap, .int .i64 ((m : Int) + 1), .string x.key] X fun e w' => e = .returned (.tuple #[.int .i64 (lastN rs x.key m : Nat), .int .i64 0]) ∧ Below X.heap.size X w' := fun X h => by
                  have := fwriter_any _ len cap rs ((m : Int) + 1) x.key X h (by omega); unfold WriterPost at this; rwa [hwe, hwn] at this
                obtain ⟨lawA, lawB⟩ := keys_law He.out (show m ≤ rs.length by have := hlen.out; omega) x.key
                have hfa := found_add rs m S x.key
                have hN := lastN_le rs x.key m
                have hfb : foundN rs m S ≤ S.length := List.length_filter_le _ _
                obtain ⟨y, hy⟩ : ∃ y, y = lastWr0 rs x.key m := ⟨_, rfl⟩
                rw [← hy] at lawA lawB
                generalize (mget (foldM rs m) x.key).isSome = gb at hcg lawA hfa
                generalize (mget (foldM rs m) x.key).getD ⟨#[]⟩ = gs at hcg lawB
                subst lawB
                have hgap : ∀ q, lastN rs x.key m ≤ q → q < m → lastW (wsOf rs q) x.key = none := fun q h1 h2 => by
                  have := lastN_gap rs x.key m q h1 h2
                  rw [← lastW_has] at this
                  exact Option.not_isSome_iff_eq_none.1 (by rw [this]; simp)
                have hone : 0 < lastN rs x.key m → lastW (wsOf rs (lastN rs x.key m - 1)) x.key = some y := fun h => by
                  have h1 := lastN_has rs x.key m h
                  rw [← lastW_has] at h1
                  obtain ⟨z, hz⟩ := Option.isSome_iff_exists.1 h1
                  rw [hy]; unfold lastWr0 lastWr
                  rw [if_neg (by omega), hz]; rfl
                have hzero : lastN rs x.key m = 0 → y = ⟨⟨#[]⟩, ⟨#[]⟩, true⟩ := fun h => by
                  rw [hy]; unfold lastWr0 lastWr; rw [if_pos h]; rfl
                generalize lastN rs x.key m = N at hcw hN hgap hone hzero
                have Hfa := Lib.hid hfa
                have LawA := Lib.hid lawA
                have Hcg := Lib.hid hcg
                have Hcw := Lib.hid hcw
                have Hgap := Lib.hid hgap
                have Hone := Lib.hid hone
                have Hzero := Lib.hid hzero
                have Hown7 := Lib.hid hown7
                have Hb7 := Lib.hid hb7
                have HS' := Lib.hid (HS.out.add Hx3.out (fun h => by rw [(memB_iff _ _).2 h] at Hmem; exact absurd Hmem.out (by simp)))
                clear hge hgv hwe hwn hcg hcw lawA hfa hgap hone hzero hown7 hb7 hg7 hn7 hr How2 hb07 hy
                refine (Hcg.out w7 (hr7.more (by omega))).mono ?_
                rintro e w8 ⟨rfl, hb8⟩
                have hb8' := Hb7.out.trans (hb8.mono hs7)
                obtain ⟨hr8, -, hs8, -⟩ := HT.out _ hb8'
                have Hown8 := Lib.hid (ownsRow_below Hown7.out hb8)
                have Hb8 := Lib.hid hb8'
                clear hb8 hb8' hr7
                go_wp2_with fail
                refine (Hcw.out w8 (hr8.more (by omega))).mono ?_
                rintro e w9 ⟨rfl, hb9⟩
                have hb9' := Hb8.out.trans (hb9.mono hs8)
                obtain ⟨hr9, -, hs9, -⟩ := HT.out _ hb9'
                have Hown9 := Lib.hid (ownsRow_below Hown8.out hb9)
                have Hb9 := Lib.hid hb9'
                clear hb9 hb9' hr8
                have hdA : decide ((N : Int) < 0) = false := by rw [decide_eq_false_iff_not]; omega
                have hdB : decide (m < N) = false := by rw [decide_eq_false_iff_not]; omega
                by_cases hN0 : 0 < N
                · obtain ⟨b3, off3, r3, he3, hbl4, hx4, u0, u1, hws4, hrl4⟩ := hr9.cell2 (show N - 1 < len by omega)
                  simp only [Option.some.injEq, Addr.mk.injEq, and_true] at he3
                  obtain ⟨rfl, rfl⟩ := he3
                  have hlw := Hone.out hN0
                  rw [wsOf_get hx4] at hlw
                  have hcl := fun o => last_any r3.number r3.A r3.len r3.cap r3.ws x.key (w9.alloc o) ((hws4.below (Below.refl w.heap.size w9 |>.alloc (by omega) o)).more (by simp; omega)) (by omega)
                  rw [hlw, show lastV (some y) = .tuple #[.agg #[.string y.key, .string y.val, .bool y.drop], .bool true] from rfl] at hcl
                  have Hcl := Lib.hid hcl
                  have u0' : ∀ o, (w9.alloc o).cell? ⟨bb, off + (N - 1) * 2, none⟩ = some (.int .i64 r3.number) := fun o => ((bel_alloc (Below.refl w9.heap.size w9) o).cell (p := ⟨bb, off + (N - 1) * 2, none⟩) (by show bb < _; omega)).trans u0
                  have u1' : ∀ o, (w9.alloc o).cell? ⟨bb, off + (N - 1) * 2 + 1, none⟩ = some (.slice r3.A r3.len r3.cap) := fun o => ((bel_alloc (Below.refl w9.heap.size w9) o).cell (p := ⟨bb, off + (N - 1) * 2 + 1, none⟩) (by show bb < _; omega)).trans u1
                  have hdN : decide (0 < N) = true := decide_eq_true hN0
                  clear hlw hcl hx4 hws4 hr9
                  go_wp2_with fail
                  refine (Hcl.out _).mono ?_
                  rintro e w10 ⟨rfl, hb10'⟩
                  have hblk0 : w10.heap[w9.heap.size]? = some (.cells #[.string ⟨#[]⟩, .string ⟨#[]⟩, .bool true] 39 (0, 0)) := (hb10'.block w9.heap.size (by simp)).trans (blk_new _ _)
                  have e0 := blk_cell hblk0 0
                  have e1 := blk_cell hblk0 1
                  have e2 := blk_cell hblk0 2
                  have f0 := blk_frozen hblk0 0
                  have f1 := blk_frozen hblk0 1
                  have f2 := blk_frozen hblk0 2
                  simp only [List.getElem?_toArray, List.getElem?_cons_zero, List.getElem?_cons_succ] at e0 e1 e2
                  have Hblk0 := Lib.hid hblk0
                  have Hb10' := Lib.hid ((bel_alloc (Below.refl w9.heap.size w9) _).trans (hb10'.mono (by simp)))
                  clear hb10' hblk0 u0 u1 u0' u1'
                  go_wp2_with fail
                  have hblk : (((w10.setCell ⟨w9.heap.size, 0, none⟩ (.string y.key)).setCell ⟨w9.heap.size, 1, none⟩ (.string y.val)).setCell ⟨w9.heap.size, 2, none⟩ (.bool y.drop)).heap[w9.heap.size]? = some (.cells #[.string y.key, .string y.val, .bool y.drop] 39 (0, 0)) := by
                    have := blk_set (blk_set (blk_set Hblk0.out 0 (.string y.key)) 1 (.string y.val)) 2 (.bool y.drop)
                    simpa using this
                  have hb10 : Below w9.heap.size w9 (((w10.setCell ⟨w9.heap.size, 0, none⟩ (.string y.key)).setCell ⟨w9.heap.size, 1, none⟩ (.string y.val)).setCell ⟨w9.heap.size, 2, none⟩ (.bool y.drop)) := bel_set (bel_set (bel_set Hb10'.out (Nat.le_refl _) _) (Nat.le_refl _) _) (Nat.le_refl _) _
                  clear e0 e1 e2 f0 f1 f2
                  have Hblk := Lib.hid hblk
                  have Hb10 := Lib.hid hb10
                  clear hblk hb10
                  go_loopw [21] (fun i wi => ∃ q : Nat, N ≤ q ∧ q ≤ m ∧ i = .int .i64 q ∧ wi.heap[w9.heap.size]? = some (.cells #[.string y.key, .string y.val, .bool y.drop] 39 (0, 0)) ∧ Below w9.heap.size w9 wi) (fun i _ => m - (RowKit.intOf i).toNat)
                  case atStart => exact ⟨N, Nat.le_refl _, hN, rfl, Hblk.out, Hb10.out⟩
                  case round =>
                    obtain ⟨q, hq1, hq2, rfl, hblk, hb⟩ := hrel
                    have hb' := Hb9.out.trans (hb.mono hs9)
                    obtain ⟨hr, -, hsr, -⟩ := HT.out _ hb'
                    have hglt := blk_lt hblk
                    by_cases hqm : q < m
                    · obtain ⟨b3, off3, r3, he3, hbl4, hx4, u0, u1, hws4, hrl4⟩ := hr.cell2 (show q < len by omega)
                      simp only [Option.some.injEq, Addr.mk.injEq, and_true] at he3
                      obtain ⟨rfl, rfl⟩ := he3
                      have hlw := Hgap.out q hq1 hqm
                      rw [wsOf_get hx4] at hlw
                      have hcl := last_any r3.number r3.A r3.len r3.cap r3.ws x.key _ (hws4.more (by omega)) (by omega)
                      rw [hlw, show lastV none = .tuple #[.agg #[.string ⟨#[]⟩, .string ⟨#[]⟩, .bool false], .bool false] from rfl] at hcl
                      have Hcl := Lib.hid hcl
                      have Hbb := Lib.hid hb
                      have Hblk2 := Lib.hid hblk
                      have hszz := hb.size
                      clear hlw hcl hx4 hr hws4 hb hblk hb'
                      go_wp2_with fail
                      refine Hcl.out.mono ?_
                      rintro e w11 ⟨rfl, hb11⟩
                      have hblk11 := (hb11.block _ hglt).trans Hblk2.out
                      have Hblk11 := Lib.hid hblk11
                      have Hb11 := Lib.hid (Hbb.out.trans (hb11.mono hszz))
                      have hlt11 := blk_lt hblk11
                      clear hb11 hblk11
                      go_wp2_with fail
                      exact ⟨⟨q + 1, by omega, by omega, by go_num, (Below.heap_alloc _ _ _ hlt11).trans Hblk11.out, Hb11.out.alloc (by omega) _⟩, by simp [RowKit.intOf]; omega⟩
                    · obtain rfl : q = m := by omega
                      have d1 := blk_cell hblk 1
                      have d2 := blk_cell hblk 2
                      simp only [List.getElem?_toArray, List.getElem?_cons_zero, List.getElem?_cons_succ] at d1 d2
                      have Hown10 := Lib.hid (ownsRow_below Hown9.out hb)
                      have Hbb := Lib.hid hb'
                      have hl1 : (S ++ [x.key]).length = S.length + 1 := by simp
                      have hf1 : (S ++ [x.key]).flatMap Scell = S.flatMap Scell ++ Scell x.key := by simp
                      have Hl1 := Lib.hid hl1
                      have Hf1 := Lib.hid hf1
                      clear hb hb' hblk hr hl1 hf1
                      cases gb
                      · have hyd : y.drop = true := by have := LawA.out; cases hh : y.drop; · rw [hh] at this; cases this
                                                       · rfl
                        rw [hyd] at d2
                        clear hyd
                        go_wp2_with fail
                        exact ⟨⟨k + 1, S ++ [x.key], by omega, by go_num, by rw [Hfa.out]; rfl, HS', by rw [Hl1.out, Hf1.out]; exact Hown10.out, Hbb.out⟩, by simp [RowKit.intOf]; omega⟩
                      · have hyd : y.drop = false := by have := LawA.out; cases hh : y.drop; · rfl
                                                        · rw [hh] at this; cases this
                        rw [hyd] at d2
                        clear hyd
                        go_wp2_with fail
                        exact ⟨⟨k + 1, S ++ [x.key], by omega, by go_num, by rw [Hfa.out, if_pos rfl]; go_num, HS', by rw [Hl1.out, Hf1.out]; exact Hown10.out, Hbb.out⟩, by simp [RowKit.intOf]; omega⟩
                · have hy0 := Hzero.out (by omega)
                  have Hy0 := Lib.hid hy0
                  have hdN : decide (0 < N) = false := decide_eq_false hN0
                  clear hr9 hy0
                  go_wp2_with fail
                  have hblk : (w9.alloc (.cells #[.string ⟨#[]⟩, .string ⟨#[]⟩, .bool true] 39)).heap[w9.heap.size]? = some (.cells #[.string y.key, .string y.val, .bool y.drop] 39 (0, 0)) := by rw [Hy0.out]; exact blk_new _ _
                  have hb10 : Below w9.heap.size w9 (w9.alloc (.cells #[.string ⟨#[]⟩, .string ⟨#[]⟩, .bool true] 39)) := bel_alloc (Below.refl _ _) _
                  have Hblk := Lib.hid hblk
                  have Hb10 := Lib.hid hb10
                  clear hblk hb10
                  go_loopw [21] (fun i wi => ∃ q : Nat, N ≤ q ∧ q ≤ m ∧ i = .int .i64 q ∧ wi.heap[w9.heap.size]? = some (.cells #[.string y.key, .string y.val, .bool y.drop] 39 (0, 0)) ∧ Below w9.heap.size w9 wi) (fun i _ => m - (RowKit.intOf i).toNat)
                  case atStart => exact ⟨N, Nat.le_refl _, hN, rfl, Hblk.out, Hb10.out⟩
                  case round =>
                    obtain ⟨q, hq1, hq2, rfl, hblk, hb⟩ := hrel
                    have hb' := Hb9.out.trans (hb.mono hs9)
                    obtain ⟨hr, -, hsr, -⟩ := HT.out _ hb'
                    have hglt := blk_lt hblk
                    by_cases hqm : q < m
                    · obtain ⟨b3, off3, r3, he3, hbl4, hx4, u0, u1, hws4, hrl4⟩ := hr.cell2 (show q < len by omega)
                      simp only [Option.some.injEq, Addr.mk.injEq, and_true] at he3
                      obtain ⟨rfl, rfl⟩ := he3
                      have hlw := Hgap.out q hq1 hqm
                      rw [wsOf_get hx4] at hlw
                      have hcl := last_any r3.number r3.A r3.len r3.cap r3.ws x.key _ (hws4.more (by omega)) (by omega)
                      rw [hlw, show lastV none = .tuple #[.agg #[.string ⟨#[]⟩, .string ⟨#[]⟩, .bool false], .bool false] from rfl] at hcl
                      have Hcl := Lib.hid hcl
                      have Hbb := Lib.hid hb
                      have Hblk2 := Lib.hid hblk
                      have hszz := hb.size
                      clear hlw hcl hx4 hr hws4 hb hblk hb'
                      go_wp2_with fail
                      refine Hcl.out.mono ?_
                      rintro e w11 ⟨rfl, hb11⟩
                      have hblk11 := (hb11.block _ hglt).trans Hblk2.out
                      have Hblk11 := Lib.hid hblk11
                      have Hb11 := Lib.hid (Hbb.out.trans (hb11.mono hszz))
                      have hlt11 := blk_lt hblk11
                      clear hb11 hblk11
                      go_wp2_with fail
                      exact ⟨⟨q + 1, by omega, by omega, by go_num, (Below.heap_alloc _ _ _ hlt11).trans Hblk11.out, Hb11.out.alloc (by omega) _⟩, by simp [RowKit.intOf]; omega⟩
                    · obtain rfl : q = m := by omega
                      have d1 := blk_cell hblk 1
                      have d2 := blk_cell hblk 2
                      simp only [List.getElem?_toArray, List.getElem?_cons_zero, List.getElem?_cons_succ] at d1 d2
                      have Hown10 := Lib.hid (ownsRow_below Hown9.out hb)
                      have Hbb := Lib.hid hb'
                      have hl1 : (S ++ [x.key]).length = S.length + 1 := by simp
                      have hf1 : (S ++ [x.key]).flatMap Scell = S.flatMap Scell ++ Scell x.key := by simp
                      have Hl1 := Lib.hid hl1
                      have Hf1 := Lib.hid hf1
                      clear hb hb' hblk hr hl1 hf1
                      cases gb
                      · have hyd : y.drop = true := by have := LawA.out; cases hh : y.drop; · rw [hh] at this; cases this
                                                       · rfl
                        rw [hyd] at d2
                        clear hyd
                        go_wp2_with fail
                        exact ⟨⟨k + 1, S ++ [x.key], by omega, by go_num, by rw [Hfa.out]; rfl, HS', by rw [Hl1.out, Hf1.out]; exact Hown10.out, Hbb.out⟩, by simp [RowKit.intOf]; omega⟩
                      · have hyd : y.drop = false := by have := LawA.out; cases hh : y.drop; · rfl
                                                        · rw [hh] at this; cases this
                        rw [hyd] at d2
                        clear hyd
                        go_wp2_with fail
                        exact ⟨⟨k + 1, S ++ [x.key], by omega, by go_num, by rw [Hfa.out, if_pos rfl]; go_num, HS', by rw [Hl1.out, Hf1.out]; exact Hown10.out, Hbb.out⟩, by simp [RowKit.intOf]; omega⟩
            · obtain rfl : k = r.len := by omega
              clear hws hr hrowS
              go_wp2_with fail
              exact ⟨⟨p + 1, S, by omega, by go_num, rfl, Lib.hid (HS.out.next (by rw [Hwp.out]; exact Hr32.out.2) hrl32), Hown.out, Hbk.out⟩, by simp [RowKit.intOf]; omega⟩
        · obtain rfl : p = len := by omega
          have hfin : foundN rs m S = E.length := by rw [HE.out]; exact Seen.found (by rw [hlen.out]; exact HS.out)
          rw [hfin]
          have hb7 := (HT.out _ Hb.out).2.1
          have Hb7 := Lib.hid hb7
          clear hr hfin hb7
          go_wp2_with fail
          go_ret
          exact ⟨rfl, Hb7.out⟩
end Go.Proofs.Ytdcnaieieggclaa

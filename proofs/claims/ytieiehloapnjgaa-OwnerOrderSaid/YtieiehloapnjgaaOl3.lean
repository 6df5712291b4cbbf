/- OwnerOrder: the walk of its law. -/
import Derived.Test.YtieiehloapnjgaaOl2
import Derived.Deep.DeepCutAuto
namespace Go.Proofs.Ytieiehloapnjgaa
open Go.RowKit
set_option linter.unusedVariables false
set_option linter.unusedSimpArgs false

set_option maxRecDepth 100000
set_option maxHeartbeats 16000000 in
theorem laworder_any (queue : Int) (A : Option Addr) (len cap : Nat) (asks : List AskR) (w : World) (hw : AsAt w w.heap.size A len asks) (hl : len ≤ 4398046511104) :
    Calls Try.prog 4 #[.int .i64 queue, .slice A len cap] w fun e w' => e = .returned (.bool true) ∧ Below w.heap.size w w' := by
  have Hw := Lib.hid hw
  clear hw
  by_cases hq : 1 ≤ queue ∧ queue ≤ 16
  · obtain ⟨hq1, hq2⟩ := hq
    obtain ⟨c, rfl⟩ : ∃ c : Nat, queue = c := ⟨queue.toNat, by omega⟩
    have hc1 : 1 ≤ c := by omega
    have hc2 : c ≤ 16 := by omega
    obtain ⟨i0, hi, hz0, hz1, hz2⟩ := info_parts info_int
    go_enter Try.func4, Try.ntmps4
    go_wp2_with fail
    refine (onew_any 0 c none 0 0 [] w ⟨RowAt.nil_, by simp⟩ (by omega) (by simp)).mono ?_
    intro e w1 he
    unfold ONewEnd at he
    rw [if_pos ⟨⟨by omega, by omega, hq1, hq2⟩, by decide⟩] at he
    obtain ⟨o, rfl, ho, hcap, hg, htg, htp, hp, hb, hb1⟩ := he
    have hcap2 : o.cap = c := by omega
    have HO1 : Hid (OwAt w1 o 0 [] []) := Lib.hid ho
    have HB1 := Lib.hid hb1
    obtain ⟨Bo, o1, o2, o3, o4, o5, hBo⟩ : ∃ Bo : Nat, o.g < Bo ∧ o.p < Bo ∧ o.b < Bo ∧ o.t.g < Bo ∧ o.t.p < Bo ∧ ∀ X, o.g < X → o.p < X → o.b < X → o.t.g < X → o.t.p < X → Bo ≤ X :=
      ⟨max o.g (max o.p (max o.b (max o.t.g o.t.p))) + 1, by omega, by omega, by omega, by omega, by omega, fun X a1 a2 a3 a4 a5 => by omega⟩
    have HBo := Lib.hid hBo
    clear hBo
    clear ho hb1 hcap
    go_wp2_with fail
    go_loopw [7, 8] (fun tk i wr => ∃ (j f2 : Nat) (L : Hs) (q : List Rq) (A2 : Option Addr) (n cp : Nat), j ≤ len ∧ j ≤ 200 ∧ i = .int .i64 j ∧ tk = .slice A2 n cp ∧ L.length ≤ j ∧ sizeH L ≤ j ∧ Hid (OwAt wr o f2 L q) ∧ Hid (TakAt wr Bo A2 n cp (q.map (·.from_))) ∧ Hid (∀ r ∈ q, ∀ a b, r.A = some a → 0 < r.len → A2 = some b → a.block ≠ b.block) ∧ Hid (Below w.heap.size w wr)) (fun _ i _ => len - (RowKit.intOf i).toNat)
    case atStart => exact ⟨0, 0, [], [], none, 0, 0, by omega, by omega, rfl, rfl, by simp, by simp [sizeH], HO1, Lib.hid (TakAt.nil _ _), Lib.hid (fun r hr => by cases hr), HB1⟩
    case round =>
      obtain ⟨j, f2, L, q, A2, n, cp, hj, hj2, rfl, rfl, hLl, hLs, HO, HT, HA, HB⟩ := hrel
      have hnq : q.length = n := by have := HT.out.1; simpa using this
      have hqc : q.length ≤ c := by rw [← hcap2]; exact HO.out.rg.hq
      by_cases hlt : j < len
      · by_cases h200 : j < 200
        · obtain ⟨b, off, x, rfl, hbl, hx, hcx⟩ := Hw.out.1.at_ hlt
          have hxm := Lib.hid (Hw.out.2 x (List.mem_of_getElem? hx))
          obtain ⟨sv, r⟩ := x
          have z0 := hcx 0 _ rfl
          have Z1 := Lib.hid hcx
          have y0 : wr.cell? ⟨b, off + j * 10, none⟩ = some (.bool sv) := (HB.out.cell (p := ⟨b, off + j * 10, none⟩) hbl).trans z0
          clear z0 hx hcx
          cases sv
          · skip
            as_aux_lemma =>
            obtain ⟨hrow, hlim, hnil⟩ := hxm.out
            have hxc : ∀ (k : Nat) (u : Value), (AskR.cells ⟨false, r⟩)[k]? = some u → wr.cell? ⟨b, off + j * 10 + k, none⟩ = some u := fun k u hu => (HB.out.cell (p := ⟨b, off + j * 10 + k, none⟩) hbl).trans (Z1.out k u hu)
            have y1 := hxc 1 _ rfl
            have y2 := hxc 2 _ rfl
            have y3 := hxc 3 _ rfl
            have y4 := hxc 4 _ rfl
            have y5 := hxc 5 _ rfl
            have y6 := hxc 6 _ rfl
            have y7 := hxc 7 _ rfl
            have y8 := hxc 8 _ rfl
            have y9 := hxc 9 _ rfl
            have hask := oask_any o f2 L q r wr HO.out ((hrow.below HB.out).more HB.out.size) hnil hlim
            have Hask := Lib.hid hask
            clear hxc hrow hnil hlim hask
            go_wp2_with fail
            refine Hask.out.mono ?_
            clear Hask y1 y2 y3 y4 y5 y6 y7 y8 y9
            intro e w6 he
            unfold OAskEnd at he
            cases hm : mayR r
            · rw [if_neg (by rw [hm]; simp)] at he
              obtain ⟨rfl, hb6⟩ := he
              have HB6 := Lib.hid hb6
              clear hb6 hm
              go_wp2_with fail
              exact ⟨⟨j + 1, f2, L, q, A2, n, cp, by omega, by omega, by go_num, rfl, by omega, by omega, Lib.hid (HO.out.below HB6.out), Lib.hid (HT.out.below HB6.out), HA, Lib.hid (HB.out.trans (HB6.out.mono HB.out.size))⟩, by simp [RowKit.intOf]; omega⟩
            · rw [if_pos hm] at he
              by_cases hroom : q.length < o.cap
              · rw [if_pos hroom] at he
                obtain ⟨A', cap', rfl, hfr, ho6, k6⟩ := he
                obtain ⟨r2, hr2⟩ : ∃ r2 : Rq, r2 = { r with A := A', cap := cap' } := ⟨_, rfl⟩
                rw [← hr2] at ho6
                have hf2 : r2.from_ = r.from_ := by rw [hr2]
                have hA2 : r2.A = A' := by rw [hr2]
                have HO6 := Lib.hid ho6
                have HT6 := Lib.hid (HT.out.kept k6 (fun b hb => by omega))
                have HB6 : Hid (Below w.heap.size w w6) := Lib.hid (((Kept.of_below HB.out).trans k6).below (Nat.le_refl _) (fun k hk => by omega))
                have HA6 : Hid (∀ x ∈ q ++ [r2], ∀ a c, x.A = some a → 0 < x.len → A2 = some c → a.block ≠ c.block) := Lib.hid (fun x hx a c2 e hn e2 => by
                  rcases List.mem_append.1 hx with h | h
                  · exact HA.out x h a c2 e hn e2
                  · simp at h
                    subst h
                    rw [hA2] at e
                    have h1 := hfr a e
                    have h2 := HT.out.lt e2
                    omega)
                have y2 : w6.cell? ⟨b, off + j * 10 + 2, none⟩ = some (.int .i64 r.from_) := (HB6.out.cell (p := ⟨b, off + j * 10 + 2, none⟩) hbl).trans (Z1.out 2 _ rfl)
                have hnc : n < c := by omega
                have hd1 : ¬ c < n + 1 := by omega
                have hd2 : decide ((c : Int) < (n : Int) + 1) = false := by simp; omega
                have hbx : Below w6.heap.size w6 (w6.alloc (.cells #[.int .i64 r.from_] 3)) := bel_alloc (Below.refl _ _) _
                have HO7 := Lib.hid (HO6.out.below hbx)
                have HT7 := Lib.hid (HT6.out.below hbx)
                have HB7 := Lib.hid (HB6.out.trans (hbx.mono HB6.out.size))
                have hsrc : ∀ (k : Nat) (u : Value), [Value.int .i64 r.from_][k]? = some u → (w6.alloc (.cells #[.int .i64 r.from_] 3)).cell? ((⟨w6.heap.size, 0, none⟩ : Addr).add k) = some u := fun k u hu => by
                  cases k with
                  | zero => simp at hu; subst hu; rw [Addr.add_lit]; exact blk_cell (blk_new w6 _) 0
                  | succ k => simp at hu
                have Hsrc := Lib.hid hsrc
                have hw1s : Bo ≤ (w6.alloc (.cells #[.int .i64 r.from_] 3)).heap.size := HBo.out _ (blk_lt HO7.out.hg) (blk_lt HO7.out.rg.hp) HO7.out.rg.buf.lt HO7.out.sh.lt.1 HO7.out.sh.lt.2
                clear ho6 k6 hr2 hA2 hfr HO6 HT6 HB6 hbx hsrc hm
                cases A2 with
                | none =>
                  obtain ⟨hn0, hcp0⟩ := HT7.out.none_
                  have HN0 := Lib.hid hn0
                  have HCP0 := Lib.hid hcp0
                  clear hn0 hcp0
                  go_wp2_with (at_builtin; refine wpList_append_grows _ rfl _ _ 35 rfl 3 i0 (.int .i64 0) 1 8 Try.underlying35 hi hz0 hz1 hz2 rfl (by decide) none n cp ((q.map (·.from_)).map (Value.int .i64)) rfl (fun _ => ⟨HN0.out, HCP0.out⟩) (by simp [hnq]) (fun b e => by cases e) ⟨w6.heap.size, 0, none⟩ 1 1 [.int .i64 r.from_] rfl rfl Hsrc.out (by simp [Value.oneCell']) (by have := HCP0.out; omega) (by simp only [maxLen]; omega) (by omega) ?_)
                  intro v' w8 hown hg8
                  have hown2 : w8.ownsRow (w6.alloc (.cells #[.int .i64 r.from_] 3)).heap.size 3 1 v' ((q ++ [r2]).map (·.from_)).length (((q ++ [r2]).map (·.from_)).map (Value.int .i64)) := by
                    have := hown
                    simp only [List.map_append, List.map_cons, List.map_nil, List.length_append, List.length_map, List.length_cons, List.length_nil, hnq, hf2] at this ⊢
                    simpa using this
                  obtain ⟨g2, cp2, rfl, hg2, ht8⟩ := TakAt.own hown2 (B := Bo) hw1s (by simp)
                  have hb8 : Below (w6.alloc (.cells #[.int .i64 r.from_] 3)).heap.size (w6.alloc (.cells #[.int .i64 r.from_] 3)) w8 := (Below.refl _ _).grown hg8 (Nat.le_refl _) (fun k hk => by cases hk)
                  have HO8 := Lib.hid (HO7.out.below hb8)
                  have HB8 := Lib.hid (HB7.out.trans (hb8.mono HB7.out.size))
                  have HT8 : Hid (TakAt w8 Bo (some ⟨g2, 0, none⟩) (n + 1) cp2 ((q ++ [r2]).map (·.from_))) := Lib.hid (by have := ht8; simp only [List.length_map, List.length_append, List.length_cons, List.length_nil, hnq] at this; exact this)
                  have HA8 : Hid (∀ x ∈ q ++ [r2], ∀ a c, x.A = some a → 0 < x.len → some (⟨g2, 0, none⟩ : Addr) = some c → a.block ≠ c.block) := Lib.hid (fun x hx a c2 e hn e2 => by
                    injection e2 with e2
                    subst e2
                    have := HO7.out.row_lt hx e hn
                    show a.block ≠ g2
                    omega)
                  have hlen8 : ((q ++ [r2]).map (·.from_)).length = n + 1 := by simp [hnq]
                  rw [hlen8]
                  clear hown hown2 hg8 hg2 ht8 hb8 hlen8 y2
                  go_wp2_with fail
                  exact ⟨⟨j + 1, f2, L, q ++ [r2], some ⟨g2, 0, none⟩, n + 1, cp2, by omega, by omega, by go_num, rfl, by omega, by omega, HO8, HT8, HA8, HB8⟩, by simp [RowKit.intOf]; omega⟩
                | some ad =>
                  obtain ⟨g, oo, cur, rfl, hgB, hcur, hfit, hat⟩ := HT7.out.some_
                  have HAT := Lib.hid hat
                  have HCUR := Lib.hid hcur
                  clear hat hcur
                  go_wp2_with (at_builtin; refine wpList_append_arg _ rfl _ _ 35 rfl 3 i0 (.int .i64 0) 1 8 Try.underlying35 hi hz0 hz1 hz2 rfl (by decide) g oo n cp ((q.map (·.from_)).map (Value.int .i64)) rfl (by simp [hnq]) (fun k u hu => by
                    rw [List.getElem?_map] at hu
                    cases hq : (q.map (·.from_))[k]? with
                    | none => rw [hq] at hu; cases hu
                    | some z => rw [hq] at hu; simp only [Option.map_some, Option.some.injEq] at hu; subst hu; exact (blk_cell HCUR.out (oo + k)).trans (HAT.out k z hq)) ⟨w6.heap.size, 0, none⟩ 1 1 [.int .i64 r.from_] rfl rfl Hsrc.out (by simp [Value.oneCell']) (fun hr k hk => by
                    simp at hk
                    subst hk
                    have hlt2 : oo + n * 1 + 0 < cur.size := by omega
                    exact ⟨by rw [blk_cell HCUR.out, Array.getElem?_eq_getElem hlt2]; rfl, blk_frozen HCUR.out _⟩) (by simp only [maxLen]; omega) (by omega) ?_ ?_)
                  · intro hr
                    have ht8 := HT7.out.push hr r.from_
                    have k8 := kept_setCells g [.int .i64 r.from_] (oo + n) (w6.alloc (.cells #[.int .i64 r.from_] 3))
                    have HO8 := Lib.hid (HO7.out.far k8 HCUR.out ⟨by omega, by omega, by omega, by omega, by omega⟩ (fun x hx a e hn => HA6.out x hx a ⟨g, oo, none⟩ e hn rfl))
                    have HB8 : Hid (Below w.heap.size w ((w6.alloc (.cells #[.int .i64 r.from_] 3)).setCells g (oo + n) [.int .i64 r.from_])) := Lib.hid (((Kept.of_below HB7.out).trans k8).below (Nat.le_refl _) (fun k hk => by omega))
                    have HT8 : Hid (TakAt ((w6.alloc (.cells #[.int .i64 r.from_] 3)).setCells g (oo + n) [.int .i64 r.from_]) Bo (some ⟨g, oo, none⟩) (n + 1) cp ((q ++ [r2]).map (·.from_))) := Lib.hid (by rw [List.map_append, List.map_cons, List.map_nil, hf2]; exact ht8)
                    try rw [Nat.mul_one]
                    generalize (w6.alloc (.cells #[.int .i64 r.from_] 3)).setCells g (oo + n) [.int .i64 r.from_] = w8 at HO8 HB8 HT8 ⊢
                    clear ht8 k8 y2
                    go_wp2_with fail
                    exact ⟨⟨j + 1, f2, L, q ++ [r2], some ⟨g, oo, none⟩, n + 1, cp, by omega, by omega, by go_num, rfl, by omega, by omega, HO8, HT8, HA6, HB8⟩, by simp [RowKit.intOf]; omega⟩
                  · intro hr v' w8 hown hg8
                    have hown2 : w8.ownsRow (w6.alloc (.cells #[.int .i64 r.from_] 3)).heap.size 3 1 v' ((q ++ [r2]).map (·.from_)).length (((q ++ [r2]).map (·.from_)).map (Value.int .i64)) := by
                      have := hown
                      simp only [List.map_append, List.map_cons, List.map_nil, List.length_append, List.length_map, List.length_cons, List.length_nil, hnq, hf2] at this ⊢
                      simpa using this
                    obtain ⟨g2, cp2, rfl, hg2, ht8⟩ := TakAt.own hown2 (B := Bo) hw1s (by simp)
                    have hb8 : Below (w6.alloc (.cells #[.int .i64 r.from_] 3)).heap.size (w6.alloc (.cells #[.int .i64 r.from_] 3)) w8 := (Below.refl _ _).grown hg8 (Nat.le_refl _) (fun k hk => by cases hk)
                    have HO8 := Lib.hid (HO7.out.below hb8)
                    have HB8 := Lib.hid (HB7.out.trans (hb8.mono HB7.out.size))
                    have HT8 : Hid (TakAt w8 Bo (some ⟨g2, 0, none⟩) (n + 1) cp2 ((q ++ [r2]).map (·.from_))) := Lib.hid (by have := ht8; simp only [List.length_map, List.length_append, List.length_cons, List.length_nil, hnq] at this; exact this)
                    have HA8 : Hid (∀ x ∈ q ++ [r2], ∀ a c, x.A = some a → 0 < x.len → some (⟨g2, 0, none⟩ : Addr) = some c → a.block ≠ c.block) := Lib.hid (fun x hx a c2 e hn e2 => by
                      injection e2 with e2
                      subst e2
                      have := HO7.out.row_lt hx e hn
                      show a.block ≠ g2
                      omega)
                    have hlen8 : ((q ++ [r2]).map (·.from_)).length = n + 1 := by simp [hnq]
                    rw [hlen8]
                    clear hown hown2 hg8 hg2 ht8 hb8 hlen8 y2
                    go_wp2_with fail
                    exact ⟨⟨j + 1, f2, L, q ++ [r2], some ⟨g2, 0, none⟩, n + 1, cp2, by omega, by omega, by go_num, rfl, by omega, by omega, HO8, HT8, HA8, HB8⟩, by simp [RowKit.intOf]; omega⟩
              · rw [if_neg hroom] at he
                obtain ⟨rfl, hb6⟩ := he
                have HB6 := Lib.hid hb6
                clear hb6 hm
                go_wp2_with fail
                exact ⟨⟨j + 1, f2, L, q, A2, n, cp, by omega, by omega, by go_num, rfl, by omega, by omega, Lib.hid (HO.out.below HB6.out), Lib.hid (HT.out.below HB6.out), HA, Lib.hid (HB.out.trans (HB6.out.mono HB.out.size))⟩, by simp [RowKit.intOf]; omega⟩
          · cases q with
            | nil =>
              as_aux_lemma =>
              have hn0 : n = 0 := by simpa using hnq.symm
              subst hn0
              go_wp2_with fail
              refine (oserve_none o f2 L wr HO.out).mono ?_
              rintro e w3 ⟨rfl, hb3⟩
              unfold respZ
              have HB4 : Hid (Below wr.heap.size wr (w3.alloc (.cells #[.int .i64 0, .bool false, .slice none 0 0, .slice none 0 0, .int .i64 0] 40))) := Lib.hid (bel_alloc hb3 _)
              clear hb3
              go_wp2_with fail
              exact ⟨⟨j + 1, f2, L, [], A2, 0, cp, by omega, by omega, by go_num, rfl, by omega, by omega, Lib.hid (HO.out.below HB4.out), Lib.hid (HT.out.below HB4.out), Lib.hid (fun r hr => by cases hr), Lib.hid (HB.out.trans (HB4.out.mono HB.out.size))⟩, by simp [RowKit.intOf]; omega⟩
            | cons r2 q2 =>
              as_aux_lemma =>
              go_wp2_with fail
              refine (oserve_any o f2 L r2 q2 wr HO.out (by omega) (by omega)).mono ?_
              rintro e w3 ⟨f3, L3, cs, rfl, hrep, ho3, k3⟩
              obtain ⟨hl3, hs3⟩ := hrep.bound HO.out.sh.ok
              obtain ⟨bo, A5, n5, c5, A6, n6, c6, d, rfl⟩ := hrep.form
              have hb4 : Below w3.heap.size w3 (w3.alloc (.cells #[.int .i64 r2.from_, .bool bo, .slice A5 n5 c5, .slice A6 n6 c6, .int .i64 d] 40)) := bel_alloc (Below.refl _ _) _
              have HO4 := Lib.hid (ho3.below hb4)
              have ht4 : TakAt (w3.alloc (.cells #[.int .i64 r2.from_, .bool bo, .slice A5 n5 c5, .slice A6 n6 c6, .int .i64 d] 40)) Bo A2 n cp (r2.from_ :: q2.map (·.from_)) := (HT.out.kept k3 (fun b hb => by omega)).below hb4
              have HB4 : Hid (Below w.heap.size w (w3.alloc (.cells #[.int .i64 r2.from_, .bool bo, .slice A5 n5 c5, .slice A6 n6 c6, .int .i64 d] 40))) := Lib.hid (((Kept.of_below HB.out).trans (k3.trans (Kept.of_below hb4))).below (Nat.le_refl _) (fun k hk => by omega))
              have n4 := blk_new w3 (.cells #[.int .i64 r2.from_, .bool bo, .slice A5 n5 c5, .slice A6 n6 c6, .int .i64 d] 40)
              clear hrep ho3 k3 hb4
              obtain ⟨m, rfl⟩ : ∃ m, n = m + 1 := ⟨q2.length, by rw [← hnq]; rfl⟩
              have HT4 := Lib.hid ht4.pop
              obtain ⟨ha, hb, ⟨hc, hd⟩ | ⟨g, oo, cur, rfl, he, hf, hgg, hh⟩⟩ := ht4
              · omega
              · have t0 := hh 0 r2.from_ rfl
                rw [Nat.add_zero, ← blk_cell hf oo] at t0
                clear ha hf hgg hh
                go_upto_region 13 with fail
                generalize w3.alloc (.cells #[.int .i64 r2.from_, .bool bo, .slice A5 n5 c5, .slice A6 n6 c6, .int .i64 d] 40) = w4 at HO4 HT4 HB4 n4 t0 ⊢
                have q0 : w4.cell? ⟨w3.heap.size, 0, none⟩ = some (.int .i64 r2.from_) := blk_cell n4 0
                clear n4
                go_quiet (fail)
                clear q0 t0
                have HO5 : Hid (OwAt (w4.drewN nq) o f3 L3 q2) := Lib.hid (HO4.out.below (below_drewN (Below.refl _ _) _))
                have HB5 : Hid (Below w.heap.size w (w4.drewN nq)) := Lib.hid (below_drewN HB4.out _)
                have HT5 := Lib.hid (HT4.out.below (below_drewN (Below.refl _ _) nq))
                clear HO4 HB4 HT4
                have HT6 : Hid (TakAt (w4.drewN nq) Bo (if cp = 1 then some ⟨g, oo, none⟩ else some ⟨g, oo + 1, none⟩) m (cp - 1) (q2.map (·.from_))) := Lib.hid (by have := HT5.out; simpa [Addr.add_lit] using this)
                clear HT5
                go_wp2_with fail
                exact ⟨⟨j + 1, f3, L3, q2, _, m, cp - 1, by omega, by omega, by go_num, rfl, by omega, by omega, HO5, HT6, Lib.hid (fun r hr a b2 e hn e2 => by
                  have := HA.out r (by simp [hr]) a ⟨g, oo, none⟩ e hn rfl
                  split at e2 <;> (injection e2 with e2; subst e2; exact this)), HB5⟩, by simp [RowKit.intOf]; omega⟩
        · skip
          as_aux_lemma =>
          go_wp2_with fail
          refine (olen_any o f2 L q wr HO.out).mono ?_
          rintro e w8 ⟨rfl, rfl⟩
          rw [hnq]
          go_wp2_with fail
          refine (oroom_any o f2 L q w8 HO.out).mono ?_
          rintro e w9 ⟨rfl, hb9⟩
          have HB9 := Lib.hid (HB.out.trans (hb9.mono HB.out.size))
          clear hb9
          rw [hcap2, hnq]
          have e1 : ((c - n : Nat) : Int) = (c : Int) - (n : Int) := by omega
          rw [e1]
          clear e1
          go_wp2_with fail
          refine (lives15_any w9).mono ?_
          rintro e w10 ⟨rfl, hb10⟩
          have HB10 := Lib.hid (HB9.out.trans (hb10.mono HB9.out.size))
          clear hb10
          go_wp2_with fail
          go_ret
          exact ⟨rfl, HB10.out⟩
      · skip
        as_aux_lemma =>
        go_wp2_with fail
        refine (olen_any o f2 L q wr HO.out).mono ?_
        rintro e w8 ⟨rfl, rfl⟩
        rw [hnq]
        go_wp2_with fail
        refine (oroom_any o f2 L q w8 HO.out).mono ?_
        rintro e w9 ⟨rfl, hb9⟩
        have HB9 := Lib.hid (HB.out.trans (hb9.mono HB.out.size))
        clear hb9
        rw [hcap2, hnq]
        have e1 : ((c - n : Nat) : Int) = (c : Int) - (n : Int) := by omega
        rw [e1]
        clear e1
        go_wp2_with fail
        refine (lives15_any w9).mono ?_
        rintro e w10 ⟨rfl, hb10⟩
        have HB10 := Lib.hid (HB9.out.trans (hb10.mono HB9.out.size))
        clear hb10
        go_wp2_with fail
        go_ret
        exact ⟨rfl, HB10.out⟩
  · by_cases hq1 : queue < 1
    · go_enter Try.func4, Try.ntmps4
      go_wp2_with fail
      refine (onew_any 0 queue none 0 0 [] w ⟨RowAt.nil_, by simp⟩ (by omega) (by simp)).mono ?_
      intro e w1 he
      unfold ONewEnd at he
      rw [if_neg (fun h => hq h.1.2.2)] at he
      obtain ⟨rfl, hb1⟩ := he
      have HB1 := Lib.hid hb1
      clear hb1
      go_wp2_with fail
      refine (lives15_any w1).mono ?_
      rintro e w2 ⟨rfl, hb2⟩
      have HB2 := Lib.hid (HB1.out.trans (hb2.mono HB1.out.size))
      clear hb2
      go_wp2_with fail
      go_ret
      exact ⟨rfl, HB2.out⟩
    · have hq2 : 16 < queue := by omega
      go_enter Try.func4, Try.ntmps4
      go_wp2_with fail
      refine (onew_any 0 queue none 0 0 [] w ⟨RowAt.nil_, by simp⟩ (by omega) (by simp)).mono ?_
      intro e w1 he
      unfold ONewEnd at he
      rw [if_neg (fun h => hq h.1.2.2)] at he
      obtain ⟨rfl, hb1⟩ := he
      have HB1 := Lib.hid hb1
      clear hb1
      go_wp2_with fail
      refine (lives15_any w1).mono ?_
      rintro e w2 ⟨rfl, hb2⟩
      have HB2 := Lib.hid (HB1.out.trans (hb2.mono HB1.out.size))
      clear hb2
      go_wp2_with fail
      go_ret
      exact ⟨rfl, HB2.out⟩
end Go.Proofs.Ytieiehloapnjgaa

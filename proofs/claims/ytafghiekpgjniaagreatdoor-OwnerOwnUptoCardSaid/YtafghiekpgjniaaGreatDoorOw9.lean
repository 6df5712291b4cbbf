/- owner: may a request be. -/
import Derived.Test.YtafghiekpgjniaaGreatDoorOw1
import Derived.Test.YtafghiekpgjniaaGreatDoorOR
namespace Go.Proofs.YtafghiekpgjniaaGreatDoor
open Go.RowKit
set_option linter.unusedVariables false
set_option linter.unusedSimpArgs false

set_option maxRecDepth 100000
def markB (r : Rq) : Bool := decide (0 ≤ r.num) && decide (r.num ≤ 65536)
def bareB (r : Rq) : Bool := decide (r.key.size = 0) && decide (r.fin.size = 0)
def zwB (r : Rq) : Bool := decide (r.wk.size = 0) && decide (r.wv.size = 0) && !r.wd
def readB (r : Rq) : Bool := decide (r.from_ ≠ 0) && markB r && zwB r
def instB (r : Rq) : Bool := decide (0 < r.from_) && markB r && decide (0 < r.num) && bareB r && keyB r.wk && valB r.wv && (!r.wd || decide (r.wv.size = 0))
/-- May the request be? -/
def mayR (r : Rq) : Bool :=
  if r.kind ≠ 5 ∧ 0 < r.len then false
  else if r.kind = 1 then instB r
  else if r.kind = 2 then readB r && keyB r.key && decide (r.fin.size = 0)
  else if r.kind = 3 then readB r && decide (r.key.size ≤ 64) && decide (r.fin.size ≤ 64)
  else if r.kind = 4 then readB r && bareB r
  else if r.kind = 5 then readB r && bareB r && aboveB r.bs r.num
  else false
theorem rqz {X : World} {g : Nat} (kind from_ num : Int) (wk wv : ByteArray) (wd : Bool) (key fin : ByteArray) (A : Option Addr) (len cap : Nat) (hN : X.heap[g]? = some (.cells #[.int .u8 kind, .int .i64 from_, .int .i64 num, .string wk, .string wv, .bool wd, .string key, .string fin, .slice A len cap] 98 (0, 0))) :
    X.cell? ⟨g, 0, none⟩ = some (.int .u8 kind) ∧ X.cell? ⟨g, 1, none⟩ = some (.int .i64 from_) ∧ X.cell? ⟨g, 2, none⟩ = some (.int .i64 num) ∧ X.cell? ⟨g, 3, none⟩ = some (.string wk) ∧ X.cell? ⟨g, 4, none⟩ = some (.string wv) ∧ X.cell? ⟨g, 5, none⟩ = some (.bool wd) ∧
      X.cell? ⟨g, 6, none⟩ = some (.string key) ∧ X.cell? ⟨g, 7, none⟩ = some (.string fin) ∧ X.cell? ⟨g, 8, none⟩ = some (.slice A len cap) :=
  ⟨blk_cell hN 0, blk_cell hN 1, blk_cell hN 2, blk_cell hN 3, blk_cell hN 4, blk_cell hN 5, blk_cell hN 6, blk_cell hN 7, blk_cell hN 8⟩
theorem nil_size {k : ByteArray} (h : k.toList = []) : k.size = 0 := (toList_nil k).1 h
theorem some_size {k : ByteArray} (h : ¬ k.toList = []) : ¬ k.size = 0 := fun e => h ((toList_nil k).2 e)
theorem keyB_nil {k : ByteArray} (h : k.toList = []) : keyB k = false := by have := nil_size h; simp [keyB, this]
theorem keyB_le {k : ByteArray} (h : ¬ k.toList = []) (h2 : k.size ≤ 64) : keyB k = true := by have := some_size h; simp [keyB, h2]; omega
theorem keyB_gt {k : ByteArray} (h2 : ¬ k.size ≤ 64) : keyB k = false := by simp [keyB, h2]
set_option maxHeartbeats 8000000 in
theorem omay_any (r : Rq) (w : World) (hi : RowAt Icell 1 w w.heap.size r.A r.len r.bs) (hl : r.len ≤ 17592186044416) :
    Calls Tryz.prog 126 #[r.val] w fun e w' => e = .returned (.bool (mayR r)) ∧ Below w.heap.size w w' := by
  have hpost : ∀ (q : Bool) (X : World), mayR r = q → Below w.heap.size w X → (Ending.returned (.bool q) = .returned (.bool (mayR r)) ∧ Below w.heap.size w X) := fun q X h h' => by subst h; exact ⟨rfl, h'⟩
  have Hpost := Lib.hid hpost
  have hab : ∀ X, Below w.heap.size w X → Calls Tryz.prog 192 #[.slice r.A r.len r.cap, .int .i64 r.num] X fun e w' => e = .returned (.bool (aboveB r.bs r.num)) ∧ Below X.heap.size X w' := fun X hX => oabove_any r.A r.len r.cap r.bs r.num X ((hi.below hX).more hX.size) hl
  have Hab := Lib.hid hab
  clear hpost hab hi
  obtain ⟨kind, from_, num, wk, wv, wd, key, fin, A, len, cap, bs⟩ := r
  have tk := Lib.hid (toList_nil key)
  have tf := Lib.hid (toList_nil fin)
  have tw := Lib.hid (toList_nil wk)
  have tv := Lib.hid (toList_nil wv)
  unfold Rq.val
  simp only at *
  go_enter Tryz.func126, Tryz.ntmps126
  go_upto_region 1 with fail
  obtain ⟨W, hW⟩ : ∃ W, W = w.alloc (.cells #[.int .u8 kind, .int .i64 from_, .int .i64 num, .string wk, .string wv, .bool wd, .string key, .string fin, .slice A len cap] 98) := ⟨_, rfl⟩
  rw [← hW]
  have HB : Hid (Below w.heap.size w W) := Lib.hid (hW ▸ bel_alloc (Below.refl _ _) _)
  have hN : W.heap[w.heap.size]? = some (.cells #[.int .u8 kind, .int .i64 from_, .int .i64 num, .string wk, .string wv, .bool wd, .string key, .string fin, .slice A len cap] 98 (0, 0)) := hW ▸ blk_new _ _
  obtain ⟨z0, z1, z2, z3, z4, z5, z6, z7, z8⟩ := rqz kind from_ num wk wv wd key fin A len cap hN
  have HN := Lib.hid hN
  clear hW hN
  obtain ⟨mk, hmk⟩ : ∃ mk, mk = (decide (0 ≤ num) && decide (num ≤ 65536)) := ⟨_, rfl⟩
  have Hmk := Lib.hid hmk
  obtain ⟨kb, hkb⟩ : ∃ kb, kb = keyB key := ⟨_, rfl⟩
  have Hkb := Lib.hid hkb
  obtain ⟨bb, hbb⟩ : ∃ bb, bb = (decide (key.size = 0) && decide (fin.size = 0)) := ⟨_, rfl⟩
  have Hbb := Lib.hid hbb
  obtain ⟨rb, hrb⟩ : ∃ rb, rb = (decide (from_ ≠ 0) && mk && (decide (wk.size = 0) && decide (wv.size = 0) && !wd)) := ⟨_, rfl⟩
  have Hrb := Lib.hid hrb
  have Hm5 := Lib.hid (show kind = 5 → mayR ⟨kind, from_, num, wk, wv, wd, key, fin, A, len, cap, bs⟩ = (rb && bb && aboveB bs num) from fun h => by subst h hmk hbb hrb; simp [mayR, readB, markB, zwB, bareB])
  have HmL := Lib.hid (show ¬ kind = 5 → 0 < len → mayR ⟨kind, from_, num, wk, wv, wd, key, fin, A, len, cap, bs⟩ = false from fun h h' => by simp [mayR, h, h'])
  have Hm1 := Lib.hid (show kind = 1 → ¬ 0 < len → mayR ⟨kind, from_, num, wk, wv, wd, key, fin, A, len, cap, bs⟩ = (decide (0 < from_) && mk && decide (0 < num) && bb && keyB wk && valB wv && (!wd || decide (wv.size = 0))) from fun h h' => by subst h hmk hbb; simp [mayR, h', instB, markB, bareB])
  have Hm2 := Lib.hid (show kind = 2 → ¬ 0 < len → mayR ⟨kind, from_, num, wk, wv, wd, key, fin, A, len, cap, bs⟩ = (rb && kb && decide (fin.size = 0)) from fun h h' => by subst h hmk hkb hrb; simp [mayR, h', readB, markB, zwB])
  have Hm3 := Lib.hid (show kind = 3 → ¬ 0 < len → mayR ⟨kind, from_, num, wk, wv, wd, key, fin, A, len, cap, bs⟩ = (rb && decide (key.size ≤ 64) && decide (fin.size ≤ 64)) from fun h h' => by subst h hmk hrb; simp [mayR, h', readB, markB, zwB])
  have Hm4 := Lib.hid (show kind = 4 → ¬ 0 < len → mayR ⟨kind, from_, num, wk, wv, wd, key, fin, A, len, cap, bs⟩ = (rb && bb) from fun h h' => by subst h hmk hbb hrb; simp [mayR, h', readB, markB, zwB, bareB])
  have Hm0 := Lib.hid (show ¬ kind = 1 → ¬ kind = 2 → ¬ kind = 3 → ¬ kind = 4 → ¬ kind = 5 → mayR ⟨kind, from_, num, wk, wv, wd, key, fin, A, len, cap, bs⟩ = false from fun h1 h2 h3 h4 h5 => by simp [mayR, h1, h2, h3, h4, h5])
  clear hmk hkb hbb hrb
  generalize Value.agg #[.int .u8 kind, .int .i64 from_, .int .i64 num, .string wk, .string wv, .bool wd, .string key, .string fin, .slice A len cap] = v0
  go_cut [3] (fun s wx => s = .bool mk ∧ wx = W)
  case first => as_aux_lemma =>
    go_wp2_with fail
    all_goals go_meet
    all_goals (case rel => exact ⟨by have := Hmk.out; grind, rfl⟩)
  case rest =>
    obtain ⟨rfl, rfl⟩ := hcut
    go_upto_region 2 with fail
    go_cut [4, 5] (fun s4 s5 wx => s4 = .bool kb ∧ s5 = .bool bb ∧ Below wx.heap.size wx wx ∧ Below w.heap.size w wx ∧ wx.heap[w.heap.size]? = some (.cells #[.int .u8 kind, .int .i64 from_, .int .i64 num, .string wk, .string wv, .bool wd, .string key, .string fin, .slice A len cap] 98 (0, 0)))
    case first => as_aux_lemma =>
      by_cases h1 : key.toList = []
      · by_cases h2 : fin.toList = []
        · skip
          have e4 := Lib.hid (show kb = false by rw [Hkb.out]; exact keyB_nil h1)
          have e5 := Lib.hid (show bb = true by rw [Hbb.out]; simp [nil_size h1, nil_size h2])
          go_quiet (fail)
          go_wp2_with fail
          go_meet
          case rel => exact ⟨by first | (rw [e4.out]; done) | (rw [e4.out]; simp [h1, h2]; done) | (rw [e4.out]; simp [h1]; omega), by first | (rw [e5.out]; done) | (rw [e5.out]; simp [h1, h2]; done) | (rw [e5.out]; simp [h1]; omega), Below.refl _ _, below_drewN HB.out _, HN.out⟩
        · skip
          have e4 := Lib.hid (show kb = false by rw [Hkb.out]; exact keyB_nil h1)
          have e5 := Lib.hid (show bb = false by rw [Hbb.out]; simp [some_size h2])
          go_quiet (fail)
          go_wp2_with fail
          go_meet
          case rel => exact ⟨by first | (rw [e4.out]; done) | (rw [e4.out]; simp [h1, h2]; done) | (rw [e4.out]; simp [h1]; omega), by first | (rw [e5.out]; done) | (rw [e5.out]; simp [h1, h2]; done) | (rw [e5.out]; simp [h1]; omega), Below.refl _ _, below_drewN HB.out _, HN.out⟩
      · by_cases h2 : key.size ≤ 64
        · skip
          have e4 := Lib.hid (show kb = true by rw [Hkb.out]; exact keyB_le h1 h2)
          have e5 := Lib.hid (show bb = false by rw [Hbb.out]; simp [some_size h1])
          go_quiet (fail)
          go_wp2_with fail
          go_meet
          case rel => exact ⟨by first | (rw [e4.out]; done) | (rw [e4.out]; simp [h1, h2]; done) | (rw [e4.out]; simp [h1]; omega), by first | (rw [e5.out]; done) | (rw [e5.out]; simp [h1, h2]; done) | (rw [e5.out]; simp [h1]; omega), Below.refl _ _, below_drewN HB.out _, HN.out⟩
        · skip
          have e4 := Lib.hid (show kb = false by rw [Hkb.out]; exact keyB_gt h2)
          have e5 := Lib.hid (show bb = false by rw [Hbb.out]; simp [some_size h1])
          go_quiet (fail)
          go_wp2_with fail
          go_meet
          case rel => exact ⟨by first | (rw [e4.out]; done) | (rw [e4.out]; simp [h1, h2]; done) | (rw [e4.out]; simp [h1]; omega), by first | (rw [e5.out]; done) | (rw [e5.out]; simp [h1, h2]; done) | (rw [e5.out]; simp [h1]; omega), Below.refl _ _, below_drewN HB.out _, HN.out⟩
    case rest =>
      obtain ⟨rfl, rfl, -, hbx, hNx⟩ := hcut
      obtain ⟨z0, z1, z2, z3, z4, z5, z6, z7, z8⟩ := rqz kind from_ num wk wv wd key fin A len cap hNx
      have HBx := Lib.hid hbx
      have HNx := Lib.hid hNx
      clear hbx hNx HB HN
      go_upto_region 3 with fail
      go_cut [3, 6] (fun s3 s wx => s3 = .bool mk ∧ s = .bool rb ∧ wx = wc)
      case first => as_aux_lemma =>
        go_wp2_with fail
        all_goals go_meet
        all_goals (case rel => refine ⟨?_, ?_, rfl⟩ <;> (have q := Hrb.out; have q1 := tw.out; have q2 := tv.out; clear Hpost Hab Hmk Hkb Hbb HBx HNx z0 z1 z2 z3 z4 z5 z6 z7 z8 Hrb tk tf tw tv; grind))
      case rest =>
        obtain ⟨rfl, rfl, rfl⟩ := hcut
        clear Hmk Hkb Hbb Hrb
        have hlt := blk_lt HNx.out
        have hle := Nat.le_of_lt hlt
        have hne : ¬ w.heap.size = wc.heap.size := by omega
        by_cases h5 : kind = 5
        · subst h5
          have E := Lib.hid (Hm5.out rfl)
          clear HmL Hm1 Hm2 Hm3 Hm4 Hm0 Hm5
          as_aux_lemma =>
          cases rb
          · go_wp2_with fail
            go_ret
            exact Hpost.out _ _ (by rw [E.out]; (first | rfl | simp)) (by first | exact bel_alloc HBx.out _ | exact bel_set (bel_set (bel_set (bel_alloc HBx.out _) hle _) hle _) hle _)
          · cases bb
            · go_wp2_with fail
              go_ret
              exact Hpost.out _ _ (by rw [E.out]; (first | rfl | simp)) (by first | exact bel_alloc HBx.out _ | exact bel_set (bel_set (bel_set (bel_alloc HBx.out _) hle _) hle _) hle _)
            · go_wp2_with fail
              refine (Hab.out _ (by first | exact bel_alloc HBx.out _ | exact bel_set (bel_set (bel_set (bel_alloc HBx.out _) hle _) hle _) hle _)).mono ?_
              rintro e w9 ⟨rfl, hb9⟩
              go_wp2_with fail
              go_ret
              exact Hpost.out _ _ (by rw [E.out]; (first | rfl | simp)) (Below.trans (by first | exact bel_alloc HBx.out _ | exact bel_set (bel_set (bel_set (bel_alloc HBx.out _) hle _) hle _) hle _) (hb9.mono (by simp; omega)))
        · by_cases hl0 : 0 < len
          · skip
            clear Hm5 Hm1 Hm2 Hm3 Hm4 Hm0
            as_aux_lemma =>
            go_wp2_with fail
            go_ret
            exact Hpost.out _ _ (HmL.out h5 hl0) HBx.out
          · by_cases h1 : kind = 1
            · subst h1
              have E := Lib.hid (Hm1.out rfl hl0)
              clear Hm5 HmL Hm2 Hm3 Hm4 Hm0 Hm1
              as_aux_lemma =>
              go_wp2_with fail
              all_goals go_ret
              all_goals (refine Hpost.out _ _ ?_ (by first | exact bel_alloc HBx.out _ | exact bel_set (bel_set (bel_set (bel_alloc HBx.out _) hle _) hle _) hle _); rw [E.out]; have q1 := tw.out; have q2 := tv.out; clear Hpost Hab E HBx HNx z0 z1 z2 z3 z4 z5 z6 z7 z8 tk tf tw tv hlt hle hne h5 hl0 hl)
              all_goals first
                | (simp [show ¬ (0 : Int) < from_ from Int.not_lt.2 ‹from_ ≤ 0›]; done)
                | (simp [show mk = false from Bool.eq_false_iff.2 ‹¬ mk = true›]; done)
                | (simp [show ¬ (0 : Int) < num from Int.not_lt.2 ‹num ≤ 0›]; done)
                | (simp [show bb = false from Bool.eq_false_iff.2 ‹¬ bb = true›]; done)
                | (simp [keyB_nil ‹wk.toList = []›]; done)
                | (simp [show keyB wk = false from keyB_gt (by have := ‹(64 : Int) < (wk.size : Int)›; omega)]; done)
                | (simp [show valB wv = false from by simp [valB]; have := ‹(1024 : Int) < (wv.size : Int)›; omega]; done)
                | (have v1 : valB wv = true := by (simp [valB]; have := ‹(wv.size : Int) ≤ 1024›; omega)
                   have v2 : keyB wk = true := keyB_le ‹¬ wk.toList = []› (by have := ‹(wk.size : Int) ≤ 64›; omega)
                   have v3 : wv.toList.isEmpty = decide (wv.size = 0) := by (rw [Bool.eq_iff_iff]; simp [q2])
                   simp only [v1, v2, v3, ‹(0 : Int) < from_›, ‹mk = true›, ‹(0 : Int) < num›, ‹bb = true›, decide_true, Bool.true_and]
                   cases wd <;> simp_all)
            · by_cases h2 : kind = 2
              · subst h2
                have E := Lib.hid (Hm2.out rfl hl0)
                clear Hm5 HmL Hm1 Hm3 Hm4 Hm0 Hm2
                as_aux_lemma =>
                cases rb
                · go_wp2_with fail
                  go_ret
                  exact Hpost.out _ _ (by rw [E.out]; (first | rfl | simp)) (by first | exact bel_alloc HBx.out _ | exact bel_set (bel_set (bel_set (bel_alloc HBx.out _) hle _) hle _) hle _)
                · cases kb
                  · go_wp2_with fail
                    go_ret
                    exact Hpost.out _ _ (by rw [E.out]; (first | rfl | simp)) (by first | exact bel_alloc HBx.out _ | exact bel_set (bel_set (bel_set (bel_alloc HBx.out _) hle _) hle _) hle _)
                  · go_wp2_with fail
                    all_goals go_ret
                    all_goals exact Hpost.out _ _ (by rw [E.out]; have q1 := tf.out; clear Hpost Hab E HBx HNx z0 z1 z2 z3 z4 z5 z6 z7 z8 tk tf tw tv; grind) (by first | exact bel_alloc HBx.out _ | exact bel_set (bel_set (bel_set (bel_alloc HBx.out _) hle _) hle _) hle _)
              · by_cases h3 : kind = 3
                · subst h3
                  have E := Lib.hid (Hm3.out rfl hl0)
                  clear Hm5 HmL Hm1 Hm2 Hm4 Hm0 Hm3
                  as_aux_lemma =>
                  cases rb
                  · go_wp2_with fail
                    go_ret
                    exact Hpost.out _ _ (by rw [E.out]; (first | rfl | simp)) (by first | exact bel_alloc HBx.out _ | exact bel_set (bel_set (bel_set (bel_alloc HBx.out _) hle _) hle _) hle _)
                  · go_wp2_with fail
                    all_goals go_ret
                    all_goals exact Hpost.out _ _ (by rw [E.out]; clear Hpost Hab E HBx HNx z0 z1 z2 z3 z4 z5 z6 z7 z8 tk tf tw tv; grind) (by first | exact bel_alloc HBx.out _ | exact bel_set (bel_set (bel_set (bel_alloc HBx.out _) hle _) hle _) hle _)
                · by_cases h4 : kind = 4
                  · subst h4
                    have E := Lib.hid (Hm4.out rfl hl0)
                    clear Hm5 HmL Hm1 Hm2 Hm3 Hm0 Hm4
                    as_aux_lemma =>
                    cases rb
                    · go_wp2_with fail
                      go_ret
                      exact Hpost.out _ _ (by rw [E.out]; (first | rfl | simp)) (by first | exact bel_alloc HBx.out _ | exact bel_set (bel_set (bel_set (bel_alloc HBx.out _) hle _) hle _) hle _)
                    · go_wp2_with fail
                      all_goals go_ret
                      all_goals exact Hpost.out _ _ (by rw [E.out]; (first | rfl | simp)) (by first | exact bel_alloc HBx.out _ | exact bel_set (bel_set (bel_set (bel_alloc HBx.out _) hle _) hle _) hle _)
                  · clear Hm5 HmL Hm1 Hm2 Hm3 Hm4
                    as_aux_lemma =>
                    go_wp2_with fail
                    go_ret
                    exact Hpost.out _ _ (Hm0.out h1 h2 h3 h4 h5) (by first | exact bel_alloc HBx.out _ | exact bel_set (bel_set (bel_set (bel_alloc HBx.out _) hle _) hle _) hle _)
end Go.Proofs.YtafghiekpgjniaaGreatDoor

/- trace.Check, whole. -/
import Derived.Test.YtbiamjgkedmceaaGreatDoorSt10
namespace Go.Proofs.YtbiamjgkedmceaaGreatDoor
open Go.RowKit
set_option linter.unusedVariables false
set_option linter.unusedSimpArgs false

open Go.Maps
set_option maxRecDepth 100000
/-- What trace.Check answers. -/
def checkR (c : Cfg) (rs : List RTx) (mark : Int) (by_ : List Int) (l : List Ev) : Int × Int :=
  if c.ok = false then (0, 7) else if logErr rs 1 = 0 ∧ placeB rs.length mark by_ = true then ((checkN c rs mark.toNat (by_.map Int.toNat) l : Nat), checkE (checkN c rs mark.toNat (by_.map Int.toNat) l) l.length) else (0, 1)
set_option maxHeartbeats 1000000 in
theorem checkA_any (c : Cfg) (rs : List RTx) (A : Option Addr) (len cap : Nat) (mark : Int) (A2 : Option Addr) (n2 c2 : Nat) (by_ : List Int) (A3 : Option Addr) (n3 c3 : Nat) (A4 : Option Addr) (n4 c4 : Nat) (l : List Ev) (w : World) (hok : c.ok = false) :
    Calls Tryz.prog 44 #[.agg #[.int .i64 c.lanes, .int .i64 c.shards, .int .i64 c.window, .int .i64 c.queue], .slice A len cap, .agg #[.int .i64 mark, .slice A2 n2 c2, .slice A3 n3 c3], .slice A4 n4 c4] w fun e w' => e = .returned (.tuple #[.int .i64 0, .int .i64 7]) ∧ Below w.heap.size w w' := by
  have Hcf := Lib.hid (cfg_any c)
  rw [hok] at Hcf
  unfold Cfg.v at Hcf
  obtain ⟨W0, hW0⟩ : ∃ W0, W0 = (w.alloc (.cells #[.int .i64 c.lanes, .int .i64 c.shards, .int .i64 c.window, .int .i64 c.queue] 47)).alloc (.cells #[.int .i64 mark, .slice A2 n2 c2, .slice A3 n3 c3] 59) := ⟨_, rfl⟩
  have hb0 : Below w.heap.size w W0 := hW0 ▸ bel_alloc (bel_alloc (Below.refl _ _) _) _
  have HC0 : Hid (W0.heap[w.heap.size]? = some (.cells #[.int .i64 c.lanes, .int .i64 c.shards, .int .i64 c.window, .int .i64 c.queue] 47 (0, 0))) := Lib.hid (by rw [hW0, Below.heap_alloc _ _ _ (by simp)]; exact blk_new _ _)
  have HV0 : Hid (W0.heap[w.heap.size + 1]? = some (.cells #[.int .i64 mark, .slice A2 n2 c2, .slice A3 n3 c3] 59 (0, 0))) := Lib.hid (by rw [hW0]; have := blk_new (w.alloc (.cells #[.int .i64 c.lanes, .int .i64 c.shards, .int .i64 c.window, .int .i64 c.queue] 47)) (.cells #[.int .i64 mark, .slice A2 n2 c2, .slice A3 n3 c3] 59); simpa using this)
  have HB0 := Lib.hid hb0
  have HW0 := Lib.hid hW0
  clear hb0 hW0 hok
  go_enter Tryz.func44, Tryz.ntmps44
  go_wp2_with fail
  go_step3
  go_wp2_with fail
  rw [← HW0.out]
  refine (Hcf.out _).mono ?_
  rintro e w1 ⟨rfl, hb1⟩
  have HB1 := Lib.hid (HB0.out.trans (hb1.mono HB0.out.size))
  clear hb1
  go_wp2_with fail
  rw [Exit.noGoto_ret]
  go_ret2
  exact ⟨rfl, HB1.out⟩
set_option maxHeartbeats 1000000 in
theorem checkB_any (c : Cfg) (rs : List RTx) (A : Option Addr) (len cap : Nat) (mark : Int) (A2 : Option Addr) (n2 c2 : Nat) (by_ : List Int) (A3 : Option Addr) (n3 c3 : Nat) (A4 : Option Addr) (n4 c4 : Nat) (l : List Ev) (w : World) (hl : TxsAt w w.heap.size A len rs) (hlen : len ≤ 4398046511104) (hok : c.ok = true) (hlog : ¬ logErr rs 1 = 0) :
    Calls Tryz.prog 44 #[.agg #[.int .i64 c.lanes, .int .i64 c.shards, .int .i64 c.window, .int .i64 c.queue], .slice A len cap, .agg #[.int .i64 mark, .slice A2 n2 c2, .slice A3 n3 c3], .slice A4 n4 c4] w fun e w' => e = .returned (.tuple #[.int .i64 0, .int .i64 1]) ∧ Below w.heap.size w w' := by
  have Hcf := Lib.hid (cfg_any c)
  rw [hok] at Hcf
  unfold Cfg.v at Hcf
  obtain ⟨W0, hW0⟩ : ∃ W0, W0 = (w.alloc (.cells #[.int .i64 c.lanes, .int .i64 c.shards, .int .i64 c.window, .int .i64 c.queue] 47)).alloc (.cells #[.int .i64 mark, .slice A2 n2 c2, .slice A3 n3 c3] 59) := ⟨_, rfl⟩
  have hb0 : Below w.heap.size w W0 := hW0 ▸ bel_alloc (bel_alloc (Below.refl _ _) _) _
  have HC0 : Hid (W0.heap[w.heap.size]? = some (.cells #[.int .i64 c.lanes, .int .i64 c.shards, .int .i64 c.window, .int .i64 c.queue] 47 (0, 0))) := Lib.hid (by rw [hW0, Below.heap_alloc _ _ _ (by simp)]; exact blk_new _ _)
  have HV0 : Hid (W0.heap[w.heap.size + 1]? = some (.cells #[.int .i64 mark, .slice A2 n2 c2, .slice A3 n3 c3] 59 (0, 0))) := Lib.hid (by rw [hW0]; have := blk_new (w.alloc (.cells #[.int .i64 c.lanes, .int .i64 c.shards, .int .i64 c.window, .int .i64 c.queue] 47)) (.cells #[.int .i64 mark, .slice A2 n2 c2, .slice A3 n3 c3] 59); simpa using this)
  have HB0 := Lib.hid hb0
  have HW0 := Lib.hid hW0
  have Hl := Lib.hid hl
  obtain ⟨q, hq⟩ : ∃ q, q = logErr rs 1 := ⟨_, rfl⟩
  rw [← hq] at hlog
  have Hq := Lib.hid hq
  have hq0 : (q != 0) = true := by simpa using hlog
  clear hb0 hW0 hok hl hq
  go_enter Tryz.func44, Tryz.ntmps44
  go_wp2_with fail
  go_step3
  go_wp2_with fail
  rw [← HW0.out]
  refine (Hcf.out _).mono ?_
  rintro e w1 ⟨rfl, hb1⟩
  have HV1 := Lib.hid ((hb1.block _ (blk_lt HV0.out)).trans HV0.out)
  have HB1 := Lib.hid (HB0.out.trans (hb1.mono HB0.out.size))
  have Hlg := Lib.hid (logcheck_any A len cap rs w1 ((Hl.out.below HB1.out).more HB1.out.size) hlen)
  rw [← Hq.out] at Hlg
  clear hb1
  go_wp2_with fail
  refine Hlg.out.mono ?_
  rintro e w2 ⟨rfl, hb2⟩
  have HB2 := Lib.hid (HB1.out.trans (hb2.mono HB1.out.size))
  clear hb2
  go_wp2_with fail
  rw [Exit.noGoto_ret]
  go_ret2
  exact ⟨rfl, HB2.out⟩
set_option maxHeartbeats 1000000 in
theorem checkC_any (c : Cfg) (rs : List RTx) (A : Option Addr) (len cap : Nat) (mark : Int) (A2 : Option Addr) (n2 c2 : Nat) (by_ : List Int) (A3 : Option Addr) (n3 c3 : Nat) (A4 : Option Addr) (n4 c4 : Nat) (l : List Ev) (w : World) (hl : TxsAt w w.heap.size A len rs) (hb : IsAt w w.heap.size A2 n2 by_) (hlen : len ≤ 4398046511104) (hn2 : n2 ≤ 4398046511104000) (hok : c.ok = true) (hlog : logErr rs 1 = 0) (hpl : placeB len mark by_ = false) :
    Calls Tryz.prog 44 #[.agg #[.int .i64 c.lanes, .int .i64 c.shards, .int .i64 c.window, .int .i64 c.queue], .slice A len cap, .agg #[.int .i64 mark, .slice A2 n2 c2, .slice A3 n3 c3], .slice A4 n4 c4] w fun e w' => e = .returned (.tuple #[.int .i64 0, .int .i64 1]) ∧ Below w.heap.size w w' := by
  have Hcf := Lib.hid (cfg_any c)
  rw [hok] at Hcf
  unfold Cfg.v at Hcf
  obtain ⟨W0, hW0⟩ : ∃ W0, W0 = (w.alloc (.cells #[.int .i64 c.lanes, .int .i64 c.shards, .int .i64 c.window, .int .i64 c.queue] 47)).alloc (.cells #[.int .i64 mark, .slice A2 n2 c2, .slice A3 n3 c3] 59) := ⟨_, rfl⟩
  have hb0 : Below w.heap.size w W0 := hW0 ▸ bel_alloc (bel_alloc (Below.refl _ _) _) _
  have HC0 : Hid (W0.heap[w.heap.size]? = some (.cells #[.int .i64 c.lanes, .int .i64 c.shards, .int .i64 c.window, .int .i64 c.queue] 47 (0, 0))) := Lib.hid (by rw [hW0, Below.heap_alloc _ _ _ (by simp)]; exact blk_new _ _)
  have HV0 : Hid (W0.heap[w.heap.size + 1]? = some (.cells #[.int .i64 mark, .slice A2 n2 c2, .slice A3 n3 c3] 59 (0, 0))) := Lib.hid (by rw [hW0]; have := blk_new (w.alloc (.cells #[.int .i64 c.lanes, .int .i64 c.shards, .int .i64 c.window, .int .i64 c.queue] 47)) (.cells #[.int .i64 mark, .slice A2 n2 c2, .slice A3 n3 c3] 59); simpa using this)
  have HB0 := Lib.hid hb0
  have HW0 := Lib.hid hW0
  have Hl := Lib.hid hl
  have Hb := Lib.hid hb
  have Hlog := Lib.hid hlog
  have Hpl := Lib.hid hpl
  clear hb0 hW0 hok hl hlog hpl hb
  go_enter Tryz.func44, Tryz.ntmps44
  go_wp2_with fail
  go_step3
  go_wp2_with fail
  rw [← HW0.out]
  refine (Hcf.out _).mono ?_
  rintro e w1 ⟨rfl, hb1⟩
  have HV1 := Lib.hid ((hb1.block _ (blk_lt HV0.out)).trans HV0.out)
  have HB1 := Lib.hid (HB0.out.trans (hb1.mono HB0.out.size))
  have Hlg := Lib.hid (logcheck_any A len cap rs w1 ((Hl.out.below HB1.out).more HB1.out.size) hlen)
  rw [Hlog.out] at Hlg
  have v0 : w1.cell? ⟨w.heap.size + 1, 0, none⟩ = some (.int .i64 mark) := blk_cell HV1.out 0
  clear hb1
  go_wp2_with fail
  refine Hlg.out.mono ?_
  rintro e w2 ⟨rfl, hb2⟩
  have HV2 := Lib.hid ((hb2.block _ (blk_lt HV1.out)).trans HV1.out)
  have HB2 := Lib.hid (HB1.out.trans (hb2.mono HB1.out.size))
  have Hpc := Lib.hid (tplace_any A len cap mark A2 n2 c2 by_ w2 ((Hb.out.below HB2.out).more HB2.out.size) hlen hn2)
  rw [Hpl.out] at Hpc
  have v0 : w2.cell? ⟨w.heap.size + 1, 0, none⟩ = some (.int .i64 mark) := blk_cell HV2.out 0
  have v1 : w2.cell? ⟨w.heap.size + 1, 1, none⟩ = some (.slice A2 n2 c2) := blk_cell HV2.out 1
  clear hb2
  go_wp2_with fail
  refine Hpc.out.mono ?_
  rintro e w3 ⟨rfl, rfl⟩
  go_wp2_with fail
  rw [Exit.noGoto_ret]
  go_ret2
  exact ⟨rfl, HB2.out⟩
theorem ints_toNat (bs : List Nat) : (ints bs).map Int.toNat = bs := by
  induction bs with
  | nil => rfl
  | cons b r ih => simp only [ints, List.map_cons, Int.toNat_natCast] at ih ⊢; rw [ih]
theorem tcheck_any (c : Cfg) (rs : List RTx) (A : Option Addr) (len cap : Nat) (mark : Int) (A2 : Option Addr) (n2 c2 : Nat) (by_ : List Int) (A3 : Option Addr) (n3 c3 : Nat) (A4 : Option Addr) (n4 c4 : Nat) (l : List Ev) (w : World) (hl : TxsAt w w.heap.size A len rs) (hb : IsAt w w.heap.size A2 n2 by_) (he : EsAt w w.heap.size A4 n4 l) (hn : A2 = none → c2 = 0) (hcap : ∀ r ∈ rs, r.len ≤ r.cap) (hn4 : n4 ≤ 4398046511104) (hlen : len ≤ 4398046511104) (hn2 : n2 ≤ 4398046511104000) :
    Calls Tryz.prog 44 #[.agg #[.int .i64 c.lanes, .int .i64 c.shards, .int .i64 c.window, .int .i64 c.queue], .slice A len cap, .agg #[.int .i64 mark, .slice A2 n2 c2, .slice A3 n3 c3], .slice A4 n4 c4] w fun e w' => e = .returned (.tuple #[.int .i64 (checkR c rs mark by_ l).1, .int .i64 (checkR c rs mark by_ l).2]) ∧ Below w.heap.size w w' := by
  by_cases hok : c.ok = false
  · rw [checkR, if_pos hok]
    exact checkA_any c rs A len cap mark A2 n2 c2 by_ A3 n3 c3 A4 n4 c4 l w hok
  · have hok' : c.ok = true := by simpa using hok
    rw [checkR, if_neg hok]
    by_cases hlog : logErr rs 1 = 0
    · by_cases hpl : placeB rs.length mark by_ = true
      · rw [if_pos ⟨hlog, hpl⟩]
        have h6 := logErr_le hlog
        obtain ⟨M, bs, rfl, rfl, h1, h2, h3⟩ := place_nat hpl h6
        have hlr := hl.1.len
        have hbl : n2 ≤ 65536 := by
          have : M + bs.length ≤ max M 65536 := rise_len (a := M) (N := 65536) h2.rise (fun b hb2 => by have := h2.lo b hb2; simp only at this; omega)
          have h9 := hb.len
          simp only [ints, List.length_map] at h9
          have := h2.mark
          simp only at this
          omega
        rw [ints_toNat, Int.toNat_natCast]
        have hll := he.len
        rw [hll]
        exact checkD_any c rs A len cap M A2 n2 c2 bs A3 n3 c3 A4 n4 c4 l w hl hb he hn hcap hn4 hok' hlog (by rw [← hlr]; exact hpl) h2 hbl (by omega) (by omega) h3
      · rw [if_neg (fun h => hpl h.2)]
        exact checkC_any c rs A len cap mark A2 n2 c2 by_ A3 n3 c3 A4 n4 c4 l w hl hb hlen hn2 hok' hlog (by rw [← hl.1.len]; simpa using hpl)
    · rw [if_neg (fun h => hlog h.1)]
      exact checkB_any c rs A len cap mark A2 n2 c2 by_ A3 n3 c3 A4 n4 c4 l w hl hlen hok' hlog
end Go.Proofs.YtbiamjgkedmceaaGreatDoor

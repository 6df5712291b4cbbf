/- Lemmas and contracts of functions that a statement of this seat stands on; each holds under the premises typed in its head. -/
import Derived.Test.YtfokcdgahiljdaaConf
import Derived.Test.YtfokcdgahiljdaaT6
namespace Go.Proofs.Ytfokcdgahiljdaa
open Go.RowKit
set_option linter.unusedVariables false
set_option linter.unusedSimpArgs false

def callN (c : Cfg) (x : Cl) : Int × Int :=
  if c.ok = false then (0, 7) else if x.ok = false ∨ x.kind = 4 then (0, 1) else if x.kind = 1 then (4, 0) else (2 + 2 * c.shards, 0)
def pairV (p : Int × Int) : Value := .tuple #[.int .i64 p.1, .int .i64 p.2]
theorem ret_pair {p : Int × Int} {a b : Int} (h : p = (a, b)) : Ending.returned (.tuple #[.int .i64 a, .int .i64 b]) = .returned (pairV p) := by rw [h]; rfl
theorem cfg_shards {c : Cfg} (h : c.ok = true) : 1 ≤ c.shards ∧ c.shards ≤ 16 := by simp only [Cfg.ok, inB] at h; grind
theorem cfg_lanes {c : Cfg} (h : c.ok = true) : 1 ≤ c.lanes ∧ c.lanes ≤ 16 := by simp only [Cfg.ok, inB] at h; grind

set_option maxHeartbeats 1000000 in
theorem call_any (c : Cfg) (x : Cl) (w : World) : Calls Try.prog 13 #[c.v, x.v] w fun e w' => e = .returned (pairV (callN c x)) ∧ Below w.heap.size w w' := by
  have hfin : ∀ (a b : Int) (w' : World), callN c x = (a, b) → Below w.heap.size w w' → (Ending.returned (.tuple #[.int .i64 a, .int .i64 b]) = .returned (pairV (callN c x)) ∧ Below w.heap.size w w') := fun a b w' h h' => ⟨ret_pair h, h'⟩
  have Hf := Lib.hid hfin
  clear hfin
  unfold Cfg.v Cl.v
  go_enter Try.func13, Try.ntmps13
  go_wp2_with fail
  refine (cfg_any c _).mono ?_
  rintro e w1 ⟨rfl, hb1⟩
  have hs1 : w.heap.size + 1 < w1.heap.size := by have := hb1.size; simp at this; omega
  have B1 : Below (w.heap.size + 2) _ w1 := hb1.mono (by simp)
  have c1 : w1.cell? ⟨w.heap.size, 1, none⟩ = some (.int .i64 c.shards) := (B1.cell (p := ⟨w.heap.size, 1, none⟩) (by simp)).trans (by simp [go_sem])
  have k0 : w1.cell? ⟨w.heap.size + 1, 0, none⟩ = some (.int .u8 x.kind) := (B1.cell (p := ⟨w.heap.size + 1, 0, none⟩) (by simp)).trans (by simp [go_sem])
  have k1 : w1.cell? ⟨w.heap.size + 1, 1, none⟩ = some (.string x.key) := (B1.cell (p := ⟨w.heap.size + 1, 1, none⟩) (by simp)).trans (by simp [go_sem])
  have k2 : w1.cell? ⟨w.heap.size + 1, 2, none⟩ = some (.string x.end_) := (B1.cell (p := ⟨w.heap.size + 1, 2, none⟩) (by simp)).trans (by simp [go_sem])
  have Hb1 := Lib.hid (below_two B1)
  clear hb1 B1
  cases hc : c.ok
  · have Hc := Lib.hid hc
    clear hc
    rw [show errCfg false = 7 from rfl]
    go_wp2_with fail
    go_ret2
    refine Hf.out 0 7 _ ?_ Hb1.out
    simp [callN, Hc.out]
  · have Hc := Lib.hid hc
    have hsh := cfg_shards hc
    obtain ⟨hsh1, hsh2⟩ := hsh
    clear hc
    rw [show errCfg true = 0 from rfl]
    go_wp2_with fail
    refine (cl_any x _).mono ?_
    rintro e w2 ⟨rfl, hb2⟩
    have c2 := (hb2.cell (p := ⟨w.heap.size, 1, none⟩) (by show w.heap.size < _; omega)).trans c1
    have j0 := (hb2.cell (p := ⟨w.heap.size + 1, 0, none⟩) hs1).trans k0
    have Hb2 := Lib.hid (Hb1.out.trans (hb2.mono (by omega)))
    have hs2 := hb2.size
    clear hb2 c1 k0 k1 k2 Hb1
    cases hx : x.ok
    · have Hx := Lib.hid hx
      clear hx
      rw [show errOf false = 1 from rfl]
      go_wp2_with fail
      go_ret2
      refine Hf.out 0 1 _ ?_ Hb2.out
      simp [callN, Hc.out, Hx.out]
    · have Hx := Lib.hid hx
      clear hx
      rw [show errOf true = 0 from rfl]
      by_cases h4 : x.kind = 4
      · have H4 := Lib.hid h4
        have h4' := beq_iff_eq.2 h4
        clear h4
        go_wp2_with fail
        go_ret2
        refine Hf.out 0 1 _ ?_ Hb2.out
        simp [callN, Hc.out, Hx.out, H4.out]
      · have H4 := Lib.hid h4
        have h4' := beq_eq_false_iff_ne.2 h4
        clear h4
        by_cases h1 : x.kind = 1
        · have H1 := Lib.hid h1
          have h1' := beq_iff_eq.2 h1
          clear h1
          go_wp2_with fail
          go_ret2
          refine Hf.out 4 0 _ ?_ Hb2.out
          simp [callN, Hc.out, Hx.out, H1.out]
        · have H1 := Lib.hid h1
          have h1' := beq_eq_false_iff_ne.2 h1
          clear h1
          go_wp2_with fail
          refine (sum2_any 2 (2 * c.shards) _ (by omega) (by omega) (by omega) (by omega) ⟨w2.heap.size, 0, none⟩ (by simp) (by simp [go_sem]) (by simp [go_sem, Addr.add_lit])).mono ?_
          rintro e w3 ⟨rfl, rfl⟩
          go_wp2_with fail
          go_ret2
          refine Hf.out (2 + 2 * c.shards) 0 _ ?_ (Hb2.out.alloc (by omega) _)
          simp [callN, Hc.out, Hx.out, H1.out, H4.out]

set_option maxHeartbeats 1000000 in
theorem refcall_any (c : Cfg) (x : Cl) (w : World) : Calls Try.prog 14 #[c.v, x.v] w fun e w' => e = .returned (pairV (callN c x)) ∧ Below w.heap.size w w' := by
  have hfin : ∀ (a b : Int) (w' : World), callN c x = (a, b) → Below w.heap.size w w' → (Ending.returned (.tuple #[.int .i64 a, .int .i64 b]) = .returned (pairV (callN c x)) ∧ Below w.heap.size w w') := fun a b w' h h' => ⟨ret_pair h, h'⟩
  have Hf := Lib.hid hfin
  clear hfin
  unfold Cfg.v Cl.v
  go_enter Try.func14, Try.ntmps14
  go_wp2_with fail
  refine (refcfg_any c _).mono ?_
  rintro e w1 ⟨rfl, hb1⟩
  have hs1 : w.heap.size + 1 < w1.heap.size := by have := hb1.size; simp at this; omega
  have B1 : Below (w.heap.size + 2) _ w1 := hb1.mono (by simp)
  have c1 : w1.cell? ⟨w.heap.size, 1, none⟩ = some (.int .i64 c.shards) := (B1.cell (p := ⟨w.heap.size, 1, none⟩) (by simp)).trans (by simp [go_sem])
  have k0 : w1.cell? ⟨w.heap.size + 1, 0, none⟩ = some (.int .u8 x.kind) := (B1.cell (p := ⟨w.heap.size + 1, 0, none⟩) (by simp)).trans (by simp [go_sem])
  have k1 : w1.cell? ⟨w.heap.size + 1, 1, none⟩ = some (.string x.key) := (B1.cell (p := ⟨w.heap.size + 1, 1, none⟩) (by simp)).trans (by simp [go_sem])
  have k2 : w1.cell? ⟨w.heap.size + 1, 2, none⟩ = some (.string x.end_) := (B1.cell (p := ⟨w.heap.size + 1, 2, none⟩) (by simp)).trans (by simp [go_sem])
  have Hb1 := Lib.hid (below_two B1)
  clear hb1 B1
  cases hc : c.ok
  · have Hc := Lib.hid hc
    clear hc
    rw [show errCfg false = 7 from rfl]
    go_wp2_with fail
    go_ret2
    refine Hf.out 0 7 _ ?_ Hb1.out
    simp [callN, Hc.out]
  · have Hc := Lib.hid hc
    have hsh := cfg_shards hc
    obtain ⟨hsh1, hsh2⟩ := hsh
    clear hc
    rw [show errCfg true = 0 from rfl]
    go_wp2_with fail
    refine (refcl_any x _).mono ?_
    rintro e w2 ⟨rfl, hb2⟩
    have c2 := (hb2.cell (p := ⟨w.heap.size, 1, none⟩) (by show w.heap.size < _; omega)).trans c1
    have j0 := (hb2.cell (p := ⟨w.heap.size + 1, 0, none⟩) hs1).trans k0
    have Hb2 := Lib.hid (Hb1.out.trans (hb2.mono (by omega)))
    have hs2 := hb2.size
    clear hb2 c1 k0 k1 k2 Hb1
    cases hx : x.ok
    · have Hx := Lib.hid hx
      clear hx
      rw [show errOf false = 1 from rfl]
      go_wp2_with fail
      go_ret2
      refine Hf.out 0 1 _ ?_ Hb2.out
      simp [callN, Hc.out, Hx.out]
    · have Hx := Lib.hid hx
      clear hx
      rw [show errOf true = 0 from rfl]
      by_cases h4 : x.kind = 4
      · have H4 := Lib.hid h4
        have h4' := beq_iff_eq.2 h4
        clear h4
        go_wp2_with fail
        go_ret2
        refine Hf.out 0 1 _ ?_ Hb2.out
        simp [callN, Hc.out, Hx.out, H4.out]
      · have H4 := Lib.hid h4
        have h4' := beq_eq_false_iff_ne.2 h4
        clear h4
        by_cases h1 : x.kind = 1
        · have H1 := Lib.hid h1
          have h1' := beq_iff_eq.2 h1
          clear h1
          go_wp2_with fail
          go_ret2
          refine Hf.out 4 0 _ ?_ Hb2.out
          simp [callN, Hc.out, Hx.out, H1.out]
        · have H1 := Lib.hid h1
          have h1' := beq_eq_false_iff_ne.2 h1
          clear h1
          go_wp2_with fail
          go_ret2
          refine Hf.out (2 + 2 * c.shards) 0 _ ?_ Hb2.out
          simp [callN, Hc.out, Hx.out, H1.out, H4.out]

set_option maxHeartbeats 1000000 in
theorem lawcall_any (c : Cfg) (x : Cl) (w : World) : Calls Try.prog 5 #[c.v, x.v] w fun e w' => e = .returned (.bool true) ∧ Below w.heap.size w w' := by
  have h1 : ∀ W, Calls Try.prog 13 #[c.v, x.v] W fun e w' => e = .returned (pairV (callN c x)) ∧ Below W.heap.size W w' := fun W => call_any c x W
  have h2 : ∀ W, Calls Try.prog 14 #[c.v, x.v] W fun e w' => e = .returned (pairV (callN c x)) ∧ Below W.heap.size W w' := fun W => refcall_any c x W
  generalize callN c x = r at h1 h2
  obtain ⟨a, b⟩ := r
  unfold pairV at h1 h2
  have H1 := Lib.hid h1
  have H2 := Lib.hid h2
  clear h1 h2
  unfold Cfg.v Cl.v
  go_enter Try.func5, Try.ntmps5
  go_wp2_with fail
  refine (H1.out _).mono ?_
  rintro e w1 ⟨rfl, hb1⟩
  have hs1 : w.heap.size + 1 < w1.heap.size := by have := hb1.size; simp at this; omega
  have B1 : Below (w.heap.size + 2) _ w1 := hb1.mono (by simp)
  have c0 : w1.cell? ⟨w.heap.size, 0, none⟩ = some (.int .i64 c.lanes) := (B1.cell (p := ⟨w.heap.size, 0, none⟩) (by simp)).trans (by simp [go_sem])
  have c1 : w1.cell? ⟨w.heap.size, 1, none⟩ = some (.int .i64 c.shards) := (B1.cell (p := ⟨w.heap.size, 1, none⟩) (by simp)).trans (by simp [go_sem])
  have c2 : w1.cell? ⟨w.heap.size, 2, none⟩ = some (.int .i64 c.window) := (B1.cell (p := ⟨w.heap.size, 2, none⟩) (by simp)).trans (by simp [go_sem])
  have c3 : w1.cell? ⟨w.heap.size, 3, none⟩ = some (.int .i64 c.queue) := (B1.cell (p := ⟨w.heap.size, 3, none⟩) (by simp)).trans (by simp [go_sem])
  have k0 : w1.cell? ⟨w.heap.size + 1, 0, none⟩ = some (.int .u8 x.kind) := (B1.cell (p := ⟨w.heap.size + 1, 0, none⟩) (by simp)).trans (by simp [go_sem])
  have k1 : w1.cell? ⟨w.heap.size + 1, 1, none⟩ = some (.string x.key) := (B1.cell (p := ⟨w.heap.size + 1, 1, none⟩) (by simp)).trans (by simp [go_sem])
  have k2 : w1.cell? ⟨w.heap.size + 1, 2, none⟩ = some (.string x.end_) := (B1.cell (p := ⟨w.heap.size + 1, 2, none⟩) (by simp)).trans (by simp [go_sem])
  have Hb1 := Lib.hid (below_two B1)
  clear hb1 B1
  go_wp2_with fail
  refine (H2.out _).mono ?_
  rintro e w2 ⟨rfl, hb2⟩
  go_wp2_with fail
  refine (lives_any _).mono ?_
  rintro e w3 ⟨rfl, hb3⟩
  go_wp2_with fail
  go_ret
  exact ⟨rfl, (Hb1.out.trans (hb2.mono (by omega))).trans (hb3.mono (by have := hb2.size; omega))⟩
end Go.Proofs.Ytfokcdgahiljdaa

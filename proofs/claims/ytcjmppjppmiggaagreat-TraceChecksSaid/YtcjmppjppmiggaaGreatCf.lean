/- XCf: out of XConfd (pick.py). -/
import Derived.Test.YtcjmppjppmiggaaGreatM1
import Derived.Test.YtcjmppjppmiggaaGreatRows
namespace Go.Proofs.YtcjmppjppmiggaaGreat
open Go.RowKit
set_option linter.unusedVariables false
set_option linter.unusedSimpArgs false

structure Cfg where
  lanes : Int
  shards : Int
  window : Int
  queue : Int
def Cfg.v (c : Cfg) : Value := .agg #[.int .i64 c.lanes, .int .i64 c.shards, .int .i64 c.window, .int .i64 c.queue]
def inB (n most : Int) : Bool := decide (1 ≤ n) && decide (n ≤ most)
def Cfg.ok (c : Cfg) : Bool := inB c.lanes 16 && inB c.shards 16 && inB c.window 64 && inB c.queue 16
def errCfg (b : Bool) : Int := if b then 0 else 7

def pairB (p : Int × Int) : Bool := inB p.1 p.2
def pairCells (p : Int × Int) : List Value := [.int .i64 p.1, .int .i64 p.2]
def cfgRows (c : Cfg) : List (Int × Int) := [(c.lanes, 16), (c.shards, 16), (c.window, 64), (c.queue, 16)]
theorem cfg_all (c : Cfg) : (cfgRows c).all pairB = c.ok := by simp [cfgRows, pairB, Cfg.ok, Bool.and_assoc]
theorem below_two {w wr : World} {o p : Obj} (h : Below (w.heap.size + 2) ((w.alloc o).alloc p) wr) : Below w.heap.size w wr :=
  (((Below.refl _ _).alloc (Nat.le_refl _) _).alloc (by simp) _).trans (h.mono (by omega))

set_option maxHeartbeats 400000 in
theorem cfg_any (c : Cfg) (w : World) : Calls Tryz.prog 16 #[c.v] w fun e w' => e = .returned (.int .i64 (errCfg c.ok)) ∧ Below w.heap.size w w' := by
  have hfin : ∀ (x : Bool) (w' : World), x = c.ok → Below w.heap.size w w' → (Ending.returned (.int .i64 (errCfg x)) = .returned (.int .i64 (errCfg c.ok)) ∧ Below w.heap.size w w') := fun x w' h h' => ⟨by rw [h], h'⟩
  have Hf := Lib.hid hfin
  clear hfin
  have hrow : ∀ (o : Obj) (cs : Array Value), cs = ((cfgRows c).flatMap pairCells).toArray → RowAt pairCells 2 ((w.alloc o).alloc (.cells cs 91)) (w.heap.size + 2) (some ⟨w.heap.size + 1, 0, none⟩) 4 (cfgRows c) := fun o cs hcs =>
    rowAt_block (t := 91) (fr := (0, 0)) (cs := cs) (cfgRows c) (fun _ _ => rfl) (by have := heap_alloc_new (w.alloc o) (.cells cs 91); simpa using this) (by omega) (fun j u hu => by rw [hcs]; simpa using hu)
  have hr := hrow (.cells #[.int .i64 c.lanes, .int .i64 c.shards, .int .i64 c.window, .int .i64 c.queue] 23) _ rfl
  clear hrow
  unfold Cfg.v
  go_enter Tryz.func16, Tryz.ntmps16
  go_wp2_with fail
  go_loopw [19] (fun i wr => ∃ k : Nat, k ≤ 4 ∧ i = .int .i64 k ∧ ((cfgRows c).take k).all pairB = true ∧ Below (w.heap.size + 2) ((w.alloc (.cells #[.int .i64 c.lanes, .int .i64 c.shards, .int .i64 c.window, .int .i64 c.queue] 23)).alloc (.cells ((cfgRows c).flatMap pairCells).toArray 91)) wr) (fun i _ => 4 - (RowKit.intOf i).toNat)
  case atStart => exact ⟨0, by omega, rfl, rfl, Below.refl _ _⟩
  case round =>
    obtain ⟨k, hk, rfl, hall, hb⟩ := hrel
    have hr2 := hr.below hb
    have Hb := Lib.hid hb
    have Hall := Lib.hid hall
    have hs : w.heap.size + 1 < wr.heap.size := by have := hb.size; simp at this; omega
    clear hb hall
    by_cases hlt : k < 4
    · obtain ⟨b, off, x, he, hbl, hx, hc⟩ := hr2.at_ hlt
      simp only [Option.some.injEq, Addr.mk.injEq, and_true] at he
      obtain ⟨rfl, rfl⟩ := he
      have x0 := hc 0 _ rfl
      have x1 := hc 1 _ rfl
      have Hx := Lib.hid hx
      simp only [Nat.zero_add, Nat.add_zero] at x0 x1
      clear hx hc
      obtain ⟨p, q⟩ := x
      go_wp2_with fail
      case roundEnd =>
        refine ⟨⟨k + 1, by omega, by go_num, ?_, Hb.out.alloc (by omega) _⟩, by simp [RowKit.intOf]; omega⟩
        rw [all_take_succ Hx.out, Hall.out]
        simp only [pairB, inB]; grind
      all_goals
        go_ret
        refine Hf.out false _ ?_ (below_two (Hb.out.alloc (by omega) _))
        have h1 := all_of_not (p := pairB) Hx.out (by simp only [pairB, inB]; grind)
        rw [← cfg_all, h1]
    · have hkl : k = 4 := by omega
      subst hkl
      go_wp2_with fail
      go_ret
      refine Hf.out true _ ?_ (below_two Hb.out)
      rw [← cfg_all, ← Hall.out]; rfl

end Go.Proofs.YtcjmppjppmiggaaGreat

/- A trace's story in plain words: what each task does next. -/
import Derived.Test.YtbiamjgkedmceaaGreatDoorDq
import Derived.Test.YtbiamjgkedmceaaGreatDoorGt0
import Derived.Test.YtbiamjgkedmceaaGreatDoorCf
import Derived.Test.YtbiamjgkedmceaaGreatDoorEv
namespace Go.Proofs.YtbiamjgkedmceaaGreatDoor
open Go.RowKit
set_option linter.unusedVariables false
set_option linter.unusedSimpArgs false

instance : DecidableEq Ev := fun a b => decidable_of_iff (a.task = b.task ∧ a.kind = b.kind ∧ a.number = b.number ∧ a.shard = b.shard ∧ a.count = b.count ∧ a.mark = b.mark) (by cases a; cases b; simp)
/-- The writes that count. -/
def cntW : List Wr → List Wr
  | [] => []
  | x :: r => if hasKey r x.key = true then cntW r else x :: cntW r
/-- A key's sum, and its shard. -/
def hashB (l : List UInt8) : Nat := l.foldl (fun h b => (h ^^^ b.toNat) * 16777619 % 4294967296) 2166136261
def shd (c : Cfg) (k : ByteArray) : Nat := hashB k.data.toList % c.shards.toNat
structure Ln where
  num : Nat
  ws : List Wr
  sent : Nat
  ack : Nat
structure TS where
  at_ : Nat
  holds : Bool
  E : Nat → Bool
  G : Gt
  line : List Nat
  gone : List Nat
  lanes : List Ln
  qs : List (List (Int × Int))
  calls : List (Int × (Int × Bool))
def TS.m (s : TS) : Nat := if s.holds then s.at_ - 1 else s.at_
abbrev TrA := Int × Ev × Bool
def ev0 : Ev := ⟨0, 0, 0, 0, 0, 0⟩
/-- Those that are free when n has ended. -/
def freeL (rs : List RTx) (m : Nat) (E : Nat → Bool) (n : Nat) : List Nat := (List.range (m + 1)).filter fun a => decide (1 ≤ a) && !E a && decide (depL rs E a = [n])
section
variable (c : Cfg) (rs rs' : List RTx) (by_ : List Int)
def TS.feed (s : TS) : TrA × TS :=
  if s.holds = false then
    if rs.length ≤ s.at_ then ((0, ev0, false), s)
    else ((1, ⟨0, 0, s.at_ + 1, 0, 0, 0⟩, true), { s with at_ := s.at_ + 1, holds := true })
  else if by_.contains (s.at_ : Int) = true then ((2, ⟨0, 0, s.at_, 0, 0, 0⟩, true), { s with holds := false, E := E1 s.E s.at_ })
  else if c.window < (s.at_ : Int) - s.G.mark then ((0, ev0, false), s)
  else ((3, ⟨0, 0, s.at_, 0, (depL rs' s.E s.at_).length, 0⟩, true), { s with holds := false, line := if (depL rs' s.E s.at_).length = 0 then s.line ++ [s.at_] else s.line })
def TS.lane (i : Nat) (s : TS) : TrA × TS :=
  match s.lanes[i]? with
  | none => ((0, ev0, false), s)
  | some h =>
    if h.num = 0 then
      match s.line with
      | [] => ((0, ev0, false), s)
      | n :: r => ((4, ⟨0, 0, n, 0, 0, 0⟩, true), { s with line := r, lanes := s.lanes.set i ⟨n, cntW (wsOf rs (n - 1)), 0, 0⟩ })
    else match h.ws[h.sent]? with
      | some x =>
        if ((s.qs[shd c x.key]?).getD []).length = c.queue.toNat then ((0, ev0, false), s)
        else ((5, ⟨0, 0, h.num, shd c x.key, 0, 0⟩, true), { s with qs := s.qs.modify (shd c x.key) (· ++ [((i : Int) + 1, (h.num : Int))]), lanes := s.lanes.set i { h with sent := h.sent + 1 } })
      | none =>
        if h.ack < h.ws.length then ((0, ev0, false), s)
        else ((6, ⟨0, 0, h.num, 0, 0, 0⟩, true), { s with gone := s.gone ++ [h.num], lanes := s.lanes.set i { h with num := 0 } })
def TS.owner (k : Nat) (s : TS) : TrA × TS :=
  match s.qs[k]? with
  | none => ((0, ev0, false), s)
  | some [] => ((0, ev0, false), s)
  | some (a :: r) =>
    ((7, ⟨0, 0, a.2, k, 0, 0⟩, true), if 0 < a.1 then { s with qs := s.qs.set k r, lanes := s.lanes.modify (a.1 - 1).toNat fun h => { h with ack := h.ack + 1 } }
      else { s with qs := s.qs.set k r, calls := match mget s.calls a.1 with | some x => mput s.calls a.1 (x.1 - 1, x.2) | none => s.calls })
def TS.gates (s : TS) : TrA × TS :=
  match s.gone with
  | [] => ((0, ev0, false), s)
  | n :: r => ((8, ⟨0, 0, n, 0, (s.G.done n).2.1, 0⟩, true), { s with gone := r, line := s.line ++ freeL rs' s.m s.E n, E := E1 s.E n, G := (s.G.done n).1 })
def TS.call (e : Ev) (s : TS) : TrA × TS :=
  match mget s.calls e.task with
  | none => ((9, ⟨0, 0, e.task, 0, 0, 0⟩, true), { s with calls := mput s.calls e.task (0, false) })
  | some x =>
    if x.2 = true then ((0, ⟨0, 0, e.task, 0, 0, 0⟩, false), s)
    else if e.kind = 10 then
      if e.shard < 0 ∨ c.shards ≤ e.shard ∨ ((s.qs[e.shard.toNat]?).getD []).length = c.queue.toNat then ((0, ⟨0, 0, e.task, 0, 0, 0⟩, false), s)
      else ((10, ⟨0, 0, e.task, e.shard, 0, 0⟩, true), { s with qs := s.qs.modify e.shard.toNat (· ++ [(e.task, e.task)]), calls := mput s.calls e.task (x.1 + 1, x.2) })
    else if e.kind = 11 then ((11, ⟨0, 0, e.task, 0, e.count, 0⟩, decide (0 ≤ e.count) && decide (x.1 = 0)), s)
    else if e.kind = 12 then ((12, ⟨0, 0, e.task, 0, 0, 0⟩, decide (x.1 = 0)), { s with calls := mput s.calls e.task (x.1, true) })
    else ((0, ⟨0, 0, e.task, 0, 0, 0⟩, false), s)
def TS.step (e : Ev) (s : TS) : TrA × TS :=
  if e.task < 0 then s.call c e
  else if e.task = 0 then s.feed c rs rs' by_
  else if e.task ≤ c.lanes then s.lane c rs (e.task - 1).toNat
  else if e.task ≤ c.lanes + c.shards then s.owner (e.task - c.lanes - 1).toNat
  else if e.task = c.lanes + c.shards + 1 then s.gates rs'
  else ((0, ev0, false), s)
/-- Is an event what comes next? -/
def TS.fits (e : Ev) (s : TS) : Bool × TS :=
  let r := s.step c rs rs' by_ e
  (r.1.2.2 && decide (e = ⟨e.task, r.1.1, r.1.2.1.number, r.1.2.1.shard, r.1.2.1.count, r.2.G.mark⟩), r.2)
def tale : List Ev → TS → Nat
  | [], _ => 0
  | e :: r, s => if (s.fits c rs rs' by_ e).1 = true then tale r (s.fits c rs rs' by_ e).2 + 1 else 0
end
end Go.Proofs.YtbiamjgkedmceaaGreatDoor

/- XEv: out of XStat1d XStat2d XIntC XStat3d (pick.py). -/
import Derived.Test.YtcjmppjppmiggaaGreatCf
namespace Go.Proofs.YtcjmppjppmiggaaGreat
open Go.RowKit
set_option linter.unusedVariables false
set_option linter.unusedSimpArgs false

structure Ev where
  task : Int
  kind : Int
  number : Int
  shard : Int
  count : Int
  mark : Int
def Ev.cells (e : Ev) : List Value := [.int .i64 e.task, .int .u8 e.kind, .int .i64 e.number, .int .i64 e.shard, .int .i64 e.count, .int .i64 e.mark]
def Ev.v (e : Ev) : Value := .agg #[.int .i64 e.task, .int .u8 e.kind, .int .i64 e.number, .int .i64 e.shard, .int .i64 e.count, .int .i64 e.mark]
abbrev EsAt := RowAt Ev.cells 6
theorem EsAt.cell6 {w : World} {B n i : Nat} {A : Option Addr} {l : List Ev} (h : EsAt w B A n l) (hi : i < n) :
    ∃ b off x, A = some ⟨b, off, none⟩ ∧ b < B ∧ l[i]? = some x ∧ w.cell? ⟨b, off + i * 6, none⟩ = some (.int .i64 x.task) ∧ w.cell? ⟨b, off + i * 6 + 1, none⟩ = some (.int .u8 x.kind) ∧ w.cell? ⟨b, off + i * 6 + 2, none⟩ = some (.int .i64 x.number) ∧ w.cell? ⟨b, off + i * 6 + 3, none⟩ = some (.int .i64 x.shard) ∧ w.cell? ⟨b, off + i * 6 + 4, none⟩ = some (.int .i64 x.count) ∧ w.cell? ⟨b, off + i * 6 + 5, none⟩ = some (.int .i64 x.mark) := by
  obtain ⟨b, off, x, e, hb, hx, hc⟩ := h.at_ hi
  exact ⟨b, off, x, e, hb, hx, hc 0 _ rfl, hc 1 _ rfl, hc 2 _ rfl, hc 3 _ rfl, hc 4 _ rfl, hc 5 _ rfl⟩
end Go.Proofs.YtcjmppjppmiggaaGreat

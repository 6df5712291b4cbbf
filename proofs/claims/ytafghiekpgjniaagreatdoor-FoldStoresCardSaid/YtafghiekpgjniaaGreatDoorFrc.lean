/- XFrc: out of XFold1 XFold2 XFold3 XFold4 XFold5 XFold6 XFp XFlp XFq XFr0 XFr1 XFr2 XFr3 XPb0 XKey XFr4 XApp XFr5 XFr6 XFr7 XFr8 XFold7 XFr9 (pick.py). -/
import Derived.Test.YtafghiekpgjniaaGreatDoorFo2
import Derived.Test.YtafghiekpgjniaaGreatDoorMa
namespace Go.Proofs.YtafghiekpgjniaaGreatDoor
open Go.RowKit
set_option linter.unusedVariables false
set_option linter.unusedSimpArgs false

section
open Go.Maps
/-- The answer hangs on the numbers and the writes alone. -/
theorem logErr_congr : ∀ {rs rs' : List RTx} {m : Int}, rs'.map (fun r => (r.number, r.ws)) = rs.map (fun r => (r.number, r.ws)) → logErr rs' m = logErr rs m
  | [], [], _, _ => rfl
  | [], _ :: _, _, h => by simp at h
  | _ :: _, [], _, h => by simp at h
  | r :: rs, r' :: rs', m, h => by
    simp only [List.map_cons, List.cons.injEq, Prod.mk.injEq] at h
    simp only [logErr]
    rw [h.1.1, h.1.2, logErr_congr (m := m + 1) h.2]
theorem scanErr_congr {rs rs' : List RTx} (h : rs'.map (fun r => (r.number, r.ws)) = rs.map (fun r => (r.number, r.ws))) (i : Int) : scanErr rs' i = scanErr rs i := by
  have hl : rs'.length = rs.length := by simpa using congrArg List.length h
  unfold scanErr argB; rw [logErr_congr h, hl]
theorem allW_congr {rs rs' : List RTx} (h : rs'.map (fun r => (r.number, r.ws)) = rs.map (fun r => (r.number, r.ws))) (n : Nat) : allW rs' n = allW rs n := by
  have h2 : rs'.map RTx.ws = rs.map RTx.ws := by
    have := congrArg (List.map Prod.snd) h
    simpa [List.map_map, Function.comp_def] using this
  unfold allW
  rw [List.flatMap_def, List.flatMap_def, List.map_take, List.map_take, h2]
theorem scanL_congr {rs rs' : List RTx} (h : rs'.map (fun r => (r.number, r.ws)) = rs.map (fun r => (r.number, r.ws))) (i : Int) (key fin : ByteArray) : scanL rs' i key fin = scanL rs i key fin := by
  unfold scanL foldE; rw [scanErr_congr h, allW_congr h]
def TrueB (w : World) (e : Ending) (w' : World) : Prop := e = .returned (.bool true) ∧ Below w.heap.size w w'
end
end Go.Proofs.YtafghiekpgjniaaGreatDoor

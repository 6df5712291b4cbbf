/- A region that draws its order, whose operations read and whose callees may make memory but change none: one walk, in the order of the text. Over any program. -/
import Derived.Test.YtdcnaieieggclaaMA
import Derived.Deep.QuietTactic
import Derived.BigQuiet
namespace Go.Proofs.Ytdcnaieieggclaa
open Go.RowKit
set_option linter.unusedVariables false
set_option linter.unusedSimpArgs false

/-- A world that has grown out of w: what was there is as it was. -/
structure Ext (w : World) where
  X : World
  h : Below w.heap.size w X
instance ext_some (w : World) : Nonempty (Ext w) := ⟨⟨w, Below.refl _ _⟩⟩
theorem Ext.call {P : Program} {f : FuncId} {args : Array Value} {w : World} {n : Ext w} {v : Value} (h : Calls P f args n.X fun e w' => e = .returned v ∧ Below n.X.heap.size n.X w') :
    Calls P f args n.X fun e w'' => e = .returned v ∧ ∃ m : Ext w, w'' = m.X :=
  h.mono fun _ _ ⟨he, hb⟩ => ⟨he, ⟨_, n.h.trans (hb.mono n.h.size)⟩, rfl⟩
theorem Ext.same {P : Program} {f : FuncId} {args : Array Value} {w : World} {n : Ext w} {v : Value} (h : Calls P f args n.X fun e w' => e = .returned v ∧ w' = n.X) :
    Calls P f args n.X fun e w'' => e = .returned v ∧ ∃ m : Ext w, w'' = m.X :=
  h.mono fun _ _ ⟨he, hb⟩ => ⟨he, n, hb⟩
theorem Ext.same2 {P : Program} {f : FuncId} {args : Array Value} {w : World} {n : Ext w} {v : Value} (h : Calls P f args n.X fun e w' => e = .returned v ∧ n.X = w') :
    Calls P f args n.X fun e w'' => e = .returned v ∧ ∃ m : Ext w, w'' = m.X :=
  h.mono fun _ _ ⟨he, hb⟩ => ⟨he, n, hb.symm⟩
theorem wp_region_ext {P : Program} {id : Nat} {Q : Exit → Act → World → Prop} {a : Act} {w : World} {l : List Oper} (hm : P.follows .mixedOrders = true) (hB : Region.lexB .any l.toArray = true)
    (h : wpQuiet P l.toArray (fun w' => ∃ n : Ext w, w' = n.X) (fun a' => ∀ w', (∃ n : Ext w, w' = n.X) → Q .normal a' w') l a) : (Code.region id l.toArray true).wp P Q a w :=
  wp_region_quiet (C := fun w' => ∃ n : Ext w, w' = n.X) hm hB ⟨⟨_, (Below.refl _ w).drew⟩, rfl⟩ (by simpa using h)
theorem Ext.end_ {P : Program} {ops : Array Oper} {w : World} {Q : Exit → Act → World → Prop} {a : Act} (h : ∀ X, Below w.heap.size w X → Q .normal a X) :
    wpQuiet P ops (fun w' => ∃ n : Ext w, w' = n.X) (fun a' => ∀ w', (∃ n : Ext w, w' = n.X) → Q .normal a' w') [] a :=
  wpQuiet_nil (fun w' ⟨n, hn⟩ => hn ▸ h n.X n.h)
end Go.Proofs.Ytdcnaieieggclaa

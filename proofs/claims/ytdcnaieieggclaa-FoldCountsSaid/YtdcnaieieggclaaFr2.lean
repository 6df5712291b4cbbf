/- Lemmas and contracts of functions that a statement of this seat stands on; each holds under the premises typed in its head. -/
import Derived.Test.YtdcnaieieggclaaFr1
import Derived.Test.YtdcnaieieggclaaIter
namespace Go.Proofs.Ytdcnaieieggclaa
open Go.RowKit
set_option linter.unusedVariables false
set_option linter.unusedSimpArgs false

open Go.Maps
theorem fget_any (A : Option Addr) (len cap : Nat) (rs : List RTx) (i : Int) (k : ByteArray) (w : World) (hw : TxsAt w w.heap.size A len rs) (hl : len ≤ 4398046511104) (hc : len ≤ cap) :
    Calls Try.prog 23 #[.slice A len cap, .int .i64 i, .string k] w fun e w' => e = .returned (.tuple #[.string ((getV rs i k).getD ⟨#[]⟩), .bool (getV rs i k).isSome, .int .i64 (getErr rs i k)]) ∧ Below w.heap.size w w' := by
  have hv := values_any A len cap rs i w hw hl hc
  by_cases hs : scanErr rs i = 0
  · rw [hs] at hv
    cases hk : keyB k
    · have h1 : getErr rs i k = 1 := by unfold getErr; rw [if_neg (by simpa using hs), if_neg (by rw [hk]; simp)]
      have h2 : getV rs i k = none := by unfold getV; rw [if_neg (by rw [h1]; decide)]
      rw [h1, h2]
      have Hk := Lib.hid hk
      clear hs h1 h2 hk
      go_enter Try.func23, Try.ntmps23
      go_wp2_with fail
      refine hv.mono ?_
      rintro e w1 ⟨v, rfl, -, -, hb1⟩
      have Hb1 := Lib.hid hb1
      clear hb1 hv
      have hmay : ∀ W, Calls Try.prog 50 #[.string k] W fun e w' => e = .returned (.bool false) ∧ W = w' := fun W => by have := fmay_any k W; rwa [Hk.out] at this
      go_wp2_with (go_at_call 50; refine (hmay _).mono ?_; rintro e w' ⟨rfl, rfl⟩)
      go_ret3
      exact ⟨rfl, Hb1.out⟩
    · have h1 : getErr rs i k = 0 := by unfold getErr; rw [if_neg (by simpa using hs), if_pos hk]
      have h2 : getV rs i k = mget (foldM rs i.toNat) k := by unfold getV; rw [if_pos h1]
      rw [h1, h2]
      have Hk := Lib.hid hk
      clear hs h1 h2 hk
      go_enter Try.func23, Try.ntmps23
      go_wp2_with fail
      refine hv.mono ?_
      rintro e w1 ⟨v, rfl, hg, -, hb1⟩
      obtain ⟨b, rfl, hbb, hm⟩ := hg (by trivial)
      have Hb1 := Lib.hid hb1
      clear hb1 hv hg
      have hmay : ∀ W, Calls Try.prog 50 #[.string k] W fun e w' => e = .returned (.bool true) ∧ W = w' := fun W => by have := fmay_any k W; rwa [Hk.out] at this
      go_wp2_with (first | (go_at_call 50; refine (hmay _).mono ?_; rintro e w' ⟨rfl, rfl⟩) | (at_lookup; refine wpList_lookup_ok_M (κ := Value.string) (ν := Value.string) (b := b) (m := foldM rs i.toNat) rfl _ _ rfl hm kstr Try.underlying80 zstr k rfl rfl ?_))
      go_ret3
      refine ⟨?_, Hb1.out⟩
      cases mget (foldM rs i.toNat) k <;> rfl
  · have h1 : getErr rs i k = scanErr rs i := by unfold getErr; rw [if_pos hs]
    have h2 : getV rs i k = none := by unfold getV; rw [if_neg (by rw [h1]; exact hs)]
    rw [h1, h2]
    have hne : (scanErr rs i == 0) = false := by simpa using hs
    have hne2 : (scanErr rs i != 0) = true := by simpa using hs
    clear hs h1 h2
    go_enter Try.func23, Try.ntmps23
    go_wp2_with fail
    refine hv.mono ?_
    rintro e w1 ⟨v, rfl, -, -, hb1⟩
    have Hb1 := Lib.hid hb1
    clear hb1 hv
    go_wp2_with fail
    go_ret3
    exact ⟨rfl, Hb1.out⟩
/-! ### scans -/
def Scell (k : ByteArray) : List Value := [.string k]
theorem len_s (xs : List ByteArray) : ∀ x ∈ xs, (Scell x).length = 1 := fun _ _ => rfl
theorem flat_s (xs : List ByteArray) : xs.flatMap Scell = xs.map Value.string := by
  induction xs with
  | nil => rfl
  | cons x r ih => rw [List.flatMap_cons, ih]; rfl
theorem info_ent : (Try.prog.info? 57).map (fun i => (i.zero, i.size, i.bytes)) = some (some (.agg #[.string ⟨#[]⟩, .string ⟨#[]⟩]), 2, 32) := by kernel_rfl
def EntsOwn (w : World) (base : Nat) (v : Value) (xs : List Ent) : Prop := w.ownsRow base 57 2 v xs.length (xs.flatMap Ent.cells)
theorem EntsOwn.nil (w : World) (base : Nat) : EntsOwn w base (.slice none 0 0) [] := ⟨rfl, Or.inl ⟨rfl, rfl⟩⟩
end Go.Proofs.Ytdcnaieieggclaa

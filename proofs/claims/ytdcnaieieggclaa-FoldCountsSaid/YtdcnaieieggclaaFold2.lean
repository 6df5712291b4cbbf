/- Lemmas and contracts of functions that a statement of this seat stands on; each holds under the premises typed in its head. -/
import Derived.Test.YtdcnaieieggclaaCore
import Derived.Maps.Own
import Derived.Test.YtdcnaieieggclaaMap
namespace Go.Proofs.Ytdcnaieieggclaa
open Go.RowKit
set_option linter.unusedVariables false
set_option linter.unusedSimpArgs false

open Go.Maps
/-- slices.IndexFunc over writes, of a closure with one captured value. -/
theorem indexw_reach (c : Value) (p : Wr → Bool) (A : Option Addr) (len cap : Nat) (ws : List Wr) (w : World) (hw : WsAt w w.heap.size A len ws) (hl : len ≤ 4398046511104)
    (hcall : ∀ (x : Wr) (W : World), Below w.heap.size w W → Calls Try.prog 44 #[.agg #[.string x.key, .string x.val, .bool x.drop], c] W fun e w' => e = .returned (.bool (p x)) ∧ Below W.heap.size W w') :
    Calls Try.prog 69 #[.slice A len cap, .func (.func 44) #[] #[c]] w (IdxEnd w (ws.any p)) := by
  have hlen := Lib.hid hw.len
  have Hcall := Lib.hid hcall
  clear hcall
  go_enter Try.func69, Try.ntmps69
  go_wp2_with fail
  go_loopw [8] (fun i wr => ∃ k : Nat, k ≤ len ∧ i = .int .i64 k ∧ (ws.take k).any p = false ∧ Below w.heap.size w wr) (fun i _ => len - (intOf i).toNat)
  case atStart => exact ⟨0, Nat.zero_le _, rfl, rfl, Below.refl _ _⟩
  case round =>
    obtain ⟨k, hk, rfl, hany, hb⟩ := hrel
    have Hany := Lib.hid hany
    clear hany
    have hr := hw.below hb
    have Hb := Lib.hid hb
    have hs := hb.size
    clear hb
    by_cases hlt : k < len
    · obtain ⟨b, off, x, rfl, hbl, hx, x0, x1, x2⟩ := WsAt.cell3 hr hlt
      have Hx := Lib.hid hx
      clear hx
      go_wp2_with fail
      refine (Hcall.out x _ Hb.out).mono ?_
      rintro e w' ⟨rfl, hb'⟩
      cases hp : p x
      · have Hp := Lib.hid hp
        clear hp
        go_wp2_with fail
        exact ⟨⟨k + 1, by omega, by go_num, by rw [any_take_succ Hx.out, Hany.out, Hp.out]; rfl, Hb.out.trans (hb'.mono (by omega))⟩, by simp [intOf]; omega⟩
      · have Hp := Lib.hid hp
        clear hp
        go_wp2_with fail
        go_ret
        refine ⟨k, rfl, by omega, ?_, Hb.out.trans (hb'.mono (by omega))⟩
        rw [any_of (p := p) Hx.out Hp.out]
        simp
    · have hkl : k = len := by omega
      go_wp2
      go_ret
      have h2 := Hany.out
      have h3 := hlen.out
      rw [List.take_of_length_le (by omega)] at h2
      exact ⟨-1, rfl, by omega, by rw [h2]; simp, Hb.out⟩
theorem containsw_reach (c : Value) (p : Wr → Bool) (A : Option Addr) (len cap : Nat) (ws : List Wr) (w : World) (hw : WsAt w w.heap.size A len ws) (hl : len ≤ 4398046511104)
    (hcall : ∀ (x : Wr) (W : World), Below w.heap.size w W → Calls Try.prog 44 #[.agg #[.string x.key, .string x.val, .bool x.drop], c] W fun e w' => e = .returned (.bool (p x)) ∧ Below W.heap.size W w') :
    Calls Try.prog 43 #[.slice A len cap, .func (.func 44) #[] #[c]] w fun e w' => e = .returned (.bool (ws.any p)) ∧ Below w.heap.size w w' := by
  have hfin : ∀ (b : Bool) (w' : World), b = ws.any p → Below w.heap.size w w' → (Ending.returned (.bool b) = .returned (.bool (ws.any p)) ∧ Below w.heap.size w w') := fun b w' h h' => ⟨by rw [h], h'⟩
  have Hf := Lib.hid hfin
  have Hcall := Lib.hid hcall
  clear hfin hcall
  go_enter Try.func43, Try.ntmps43
  go_wp2_with (go_at_call 69; refine (indexw_reach c p _ _ _ ws _ hw hl Hcall.out).mono ?_; rintro e w' ⟨r, rfl, hr1, hr2, hb'⟩; have Hr2 := Lib.hid hr2; clear hr2)
  go_ret
  exact Hf.out _ _ (by have := Hr2.out; simpa using this) hb'

/-! ### The keys that a chain has reached -/
def keysB (m : List (ByteArray × Bool)) (k : ByteArray) : Bool := (mget m k).getD false
theorem kstr : Keying Try.prog 9 Value.string := keying_string Try.underlying9
theorem zbool (w : World) : (zeroValue 4).run Try.prog w = .ok (.bool false) w := by kernel_rfl
/-- The variable g holds the map b, which is m. -/
def KeysAt (w : World) (g b : Nat) (m : List (ByteArray × Bool)) : Prop := w.heap[g]? = some (.cells #[.map (some b)] 75 (0, 0)) ∧ OwnM Value.string Value.bool w b m ∧ g ≠ b
theorem KeysAt.below {w w' : World} {g b B : Nat} {m : List (ByteArray × Bool)} (h : KeysAt w g b m) (hb : Below B w w') (hg : g < B) (hB : b < B) : KeysAt w' g b m := ⟨(hb.block g hg).trans h.1, h.2.1.below hb hB, h.2.2⟩
theorem KeysAt.lt {w : World} {g b : Nat} {m : List (ByteArray × Bool)} (h : KeysAt w g b m) : g < w.heap.size ∧ b < w.heap.size := ⟨blk_lt h.1, h.2.1.lt⟩

theorem haskey_any (g b : Nat) (m : List (ByteArray × Bool)) (x : Wr) (w : World) (hk : KeysAt w g b m) :
    Calls Try.prog 44 #[.agg #[.string x.key, .string x.val, .bool x.drop], .pointer (some ⟨g, 0, none⟩)] w fun e w' => e = .returned (.bool (keysB m x.key)) ∧ Below w.heap.size w w' := by
  have hown := hk.2.1
  have hlt := hk.lt.1
  have c0 := blk_cell hk.1 0
  simp only [List.getElem?_toArray, List.getElem?_cons_zero] at c0
  have hfin : ∀ (v : Value) (w' : World), v = .bool (keysB m x.key) → Below w.heap.size w w' → (Ending.returned v = .returned (.bool (keysB m x.key)) ∧ Below w.heap.size w w') := fun v w' h h' => ⟨by rw [h], h'⟩
  have Hf := Lib.hid hfin
  clear hfin hk
  go_enter Try.func44, Try.ntmps44
  go_wp2_with (at_lookup; refine wpList_lookup_M (κ := Value.string) (ν := Value.bool) (b := b) (m := m) rfl _ _ rfl (hown.alloc _) kstr Try.underlying75 zbool x.key rfl rfl ?_)
  go_ret
  refine Hf.out _ _ ?_ ((Below.refl _ _).alloc (Nat.le_refl _) _)
  unfold keysB
  cases mget m x.key <;> rfl
theorem reached_any (g b : Nat) (m : List (ByteArray × Bool)) (n : Int) (A : Option Addr) (len cap : Nat) (ws : List Wr) (w : World) (hk : KeysAt w g b m) (hw : WsAt w w.heap.size A len ws) (hl : len ≤ 4398046511104) :
    Calls Try.prog 42 #[.agg #[.int .i64 n, .slice A len cap], .pointer (some ⟨g, 0, none⟩)] w fun e w' => e = .returned (.bool (ws.any fun x => keysB m x.key)) ∧ Below w.heap.size w w' := by
  have hw2 : ∀ o, WsAt (w.alloc o) (w.alloc o).heap.size A len ws := fun o => (hw.below ((Below.refl _ _).alloc (Nat.le_refl _) _)).more (by simp)
  obtain ⟨h1, h2⟩ := hk.lt
  have hcall : ∀ (o : Obj) (x : Wr) (W : World), Below (w.alloc o).heap.size (w.alloc o) W → Calls Try.prog 44 #[.agg #[.string x.key, .string x.val, .bool x.drop], .pointer (some ⟨g, 0, none⟩)] W fun e w' => e = .returned (.bool (keysB m x.key)) ∧ Below W.heap.size W w' := fun o x W hb =>
    haskey_any g b m x W ((hk.below ((Below.refl _ _).alloc (Nat.le_refl _) o) h1 h2).below hb (by simp; omega) (by simp; omega))
  have Hcall := Lib.hid hcall
  clear hcall hk
  go_enter Try.func42, Try.ntmps42
  go_wp2_with fail
  refine (containsw_reach (.pointer (some ⟨g, 0, none⟩)) (fun x => keysB m x.key) A len cap ws _ (hw2 _) hl (Hcall.out _)).mono ?_
  rintro e w1 ⟨rfl, hb1⟩
  have Hb1 := Lib.hid (((Below.refl _ _).alloc (Nat.le_refl _) _).trans (hb1.mono (by simp)))
  clear hb1
  go_wp2_with fail
  go_ret
  exact ⟨rfl, Hb1.out⟩
end Go.Proofs.Ytdcnaieieggclaa

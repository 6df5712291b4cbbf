/- Lemmas and contracts of functions that a statement of this seat stands on; each holds under the premises typed in its head. -/
import Derived.Test.YtfokcdgahiljdaaT4
import Derived.Test.YtfokcdgahiljdaaMap
namespace Go.Proofs.Ytfokcdgahiljdaa
open Go.RowKit
set_option linter.unusedVariables false
set_option linter.unusedSimpArgs false


theorem toList_inj {a b : ByteArray} : a.toList = b.toList ↔ a = b := by
  rw [ByteArray.toList_eq, ByteArray.toList_eq]
  exact ⟨fun h => by cases a; cases b; simp at h; simp [h], fun h => by rw [h]⟩
theorem sameKey_iff (x y : Wr) : sameKey x y = true ↔ y.key = x.key := by simp [sameKey, toList_inj]
theorem mem_counting (ws : List Wr) (k : ByteArray) : k ∈ (countingL ws).map Wr.key ↔ k ∈ ws.map Wr.key := by
  induction ws with
  | nil => simp [countingL]
  | cons x r ih =>
    simp only [countingL]
    by_cases h : r.any (sameKey x) = true
    · rw [if_pos h, ih]
      obtain ⟨y, hy, hs⟩ := List.any_eq_true.1 h
      have := (sameKey_iff x y).1 hs
      simp only [List.map_cons, List.mem_cons]
      exact ⟨Or.inr, fun hk => hk.elim (fun e => by rw [e, ← this]; exact List.mem_map_of_mem hy) id⟩
    · rw [if_neg h]
      simp only [List.map_cons, List.mem_cons, ih]
theorem nodup_counting (ws : List Wr) : ((countingL ws).map Wr.key).Nodup := by
  induction ws with
  | nil => simp [countingL]
  | cons x r ih =>
    simp only [countingL]
    by_cases h : r.any (sameKey x) = true
    · rw [if_pos h]; exact ih
    · rw [if_neg h, List.map_cons, List.nodup_cons, mem_counting]
      refine ⟨fun hm => h ?_, ih⟩
      obtain ⟨y, hy, he⟩ := List.mem_map.1 hm
      exact List.any_eq_true.2 ⟨y, hy, (sameKey_iff x y).2 he⟩
theorem length_of_mem {α : Type} {a b : List α} (ha : a.Nodup) (hb : b.Nodup) (h : ∀ x, x ∈ a ↔ x ∈ b) : a.length = b.length :=
  ((List.perm_ext_iff_of_nodup ha hb).2 h).length_eq
theorem countingL_le (ws : List Wr) : (countingL ws).length ≤ ws.length := by
  induction ws with
  | nil => simp [countingL]
  | cons x r ih => simp only [countingL]; split <;> simp <;> omega
theorem txB_len {n : Int} {ws : List Wr} (h : txB n ws = true) : ws.length ≤ 32 := by simp only [txB] at h; grind

/-- What the steps of a transaction come to. -/
def txnN (ws : List Wr) (sk : Bool) : Int := if sk then 2 else 5 + 2 * ((countingL ws).length : Int)

theorem sum2_any (a b : Int) (w : World) (ha : 0 ≤ a) (hb : 0 ≤ b) (ha2 : a ≤ 100000000) (hb2 : b ≤ 100000000) (A : Addr) (hA : A.block < w.heap.size) (c0 : w.cell? A = some (.int .i64 a)) (c1 : w.cell? (A.add 1) = some (.int .i64 b)) :
    Calls Try.prog 22 #[.slice (some A) 2 2] w fun e w' => e = .returned (.int .i64 (a + b)) ∧ w = w' := by
  obtain ⟨blk, off, spot⟩ := A
  have hspot : spot = none := World.cell?_spot c0
  subst hspot
  rw [Addr.add_lit] at c1
  go_enter Try.func22, Try.ntmps22
  go_wp2
  go_loop [3, 8] (fun s i => (i = .int .i64 0 ∧ s = .int .i64 0) ∨ (i = .int .i64 1 ∧ s = .int .i64 a) ∨ (i = .int .i64 2 ∧ s = .int .i64 (a + b))) (fun _ i => 2 - (intOf i).toNat)
  case atStart => exact Or.inl ⟨rfl, rfl⟩
  case round =>
    rcases hrel with ⟨rfl, rfl⟩ | ⟨rfl, rfl⟩ | ⟨rfl, rfl⟩
    · go_wp2
      go_round
      case rel => right; left; exact ⟨rfl, by simp⟩
      case measure => simp [intOf]
    · go_wp2
      go_round
      case rel => right; right; exact ⟨rfl, rfl⟩
      case measure => simp [intOf]
    · go_wp2
      go_ret
      exact ⟨rfl, rfl⟩

theorem kstr : Keying Try.prog 9 Value.string := keying_string Try.underlying9
theorem zint (w : World) : (zeroValue 3).run Try.prog w = .ok (.int .i64 0) w := by kernel_rfl

theorem txn_bad (n : Int) (A : Option Addr) (len cap : Nat) (ws : List Wr) (sk : Bool) (w : World) (hw : WsAt w w.heap.size A len ws) (hl : len ≤ 9223372036854775807) (hbad : txB n ws = false) :
    Calls Try.prog 8 #[.agg #[.int .i64 n, .slice A len cap], .bool sk] w fun e w' => e = .returned (.tuple #[.int .i64 0, .int .i64 1]) ∧ Below w.heap.size w w' := by
  have hw2 : ∀ o, WsAt (w.alloc o) (w.alloc o).heap.size A len ws := fun o => (hw.below ((Below.refl _ _).alloc (Nat.le_refl _) _)).more (by simp)
  have Hbad := Lib.hid hbad
  clear hbad
  go_enter Try.func8, Try.ntmps8
  go_wp2_with fail
  refine (check_any n _ _ _ ws _ (hw2 _) hl).mono ?_
  rintro e w' ⟨rfl, hb'⟩
  rw [Hbad.out, show errOf false = 1 from rfl]
  go_wp2_with fail
  go_ret2
  exact ⟨rfl, ((Below.refl _ _).alloc (Nat.le_refl _) _).trans (hb'.mono (by simp))⟩

set_option maxHeartbeats 1000000 in
theorem txn_good (n : Int) (A : Option Addr) (len cap : Nat) (ws : List Wr) (sk : Bool) (w : World) (hw : WsAt w w.heap.size A len ws) (hl : len ≤ 9223372036854775807) (hgood : txB n ws = true) :
    Calls Try.prog 8 #[.agg #[.int .i64 n, .slice A len cap], .bool sk] w fun e w' => e = .returned (.tuple #[.int .i64 (txnN ws sk), .int .i64 0]) ∧ Below w.heap.size w w' := by
  have hw2 : ∀ o, WsAt (w.alloc o) (w.alloc o).heap.size A len ws := fun o => (hw.below ((Below.refl _ _).alloc (Nat.le_refl _) _)).more (by simp)
  have hlen := Lib.hid hw.len
  have hl32 : len ≤ 32 := by have := txB_len hgood; have := hlen.out; omega
  have Hgood := Lib.hid hgood
  clear hgood
  have hmm := @run_makeMap Try.prog
  go_enter Try.func8, Try.ntmps8
  go_wp2_with fail
  refine (check_any n _ _ _ ws _ (hw2 _) hl).mono ?_
  rintro e w1 ⟨rfl, hb1⟩
  rw [Hgood.out, show errOf true = 0 from rfl]
  have hs1 := size_box (hb1.mono (by simp))
  have c0 := cell_box (hb1.mono (by simp)) 0 rfl
  have c1 := cell_box (hb1.mono (by simp)) 1 rfl
  have hw1 := hw.below (below_box (hb1.mono (by simp)))
  have Hb1 := Lib.hid (below_box (hb1.mono (by simp)))
  clear hb1
  cases sk
  · go_wp2_with fail
    go_loopw [17] (fun i wr => ∃ (k : Nat) (m : List (ByteArray × Int)), k ≤ len ∧ i = .int .i64 k ∧ OwnM Value.string (Value.int .i64) wr w1.heap.size m ∧ (∀ x, x ∈ m.map (·.1) ↔ x ∈ (ws.take k).map Wr.key) ∧ Below w1.heap.size w1 wr ∧ w1.heap.size < wr.heap.size) (fun i _ => len - (intOf i).toNat)
    case atStart => exact ⟨0, [], Nat.zero_le _, rfl, OwnM.made _ _ _, by simp, (Below.refl _ _).alloc (Nat.le_refl _) _, by simp⟩
    case round =>
      obtain ⟨k, m, hk, rfl, hown, hmem, hb, hsz⟩ := hrel
      have hr := hw1.below (hb.mono (by omega))
      have Hb := Lib.hid hb
      have Hmem := Lib.hid hmem
      clear hb hmem
      by_cases hlt : k < len
      · obtain ⟨b, off, x, rfl, hbl, hx, x0, x1, x2⟩ := WsAt.cell3 hr hlt
        have Hx := Lib.hid hx
        clear hx
        go_wp2_with (at_mapUpdate; refine wpList_update_M (κ := Value.string) (ν := Value.int .i64) (b := w1.heap.size) (m := m) rfl _ _ _ rfl (hown.alloc _) kstr Try.underlying54 x.key (k : Int) rfl rfl rfl ?_; intro w' hown' hg')
        refine ⟨⟨k + 1, mput m x.key k, by omega, by go_num, hown', ?_, ?_, ?_⟩, by simp [intOf]; omega⟩
        · intro y
          have h1 := Hmem.out
          rw [mem_keys_mput, h1 y, List.take_add_one, Hx.out]
          simp; grind
        · exact (Hb.out.alloc (by omega) _).grown hg' (by simp; omega) (fun q hq => by injection hq; omega)
        · have := hg'.size; simp at this; omega
      · have hkl : k = len := by omega
        subst hkl
        have hcount : m.length = (countingL ws).length := by
          have h1 := length_of_mem hown.nodup (nodup_counting ws) (fun x => by
            rw [Hmem.out x, List.take_of_length_le (by have := hlen.out; omega), mem_counting])
          simpa using h1
        have hle := countingL_le ws
        have hl2 := hlen.out
        have Hc := Lib.hid hcount
        have hm32 : m.length ≤ 32 := by omega
        clear hl2 hcount
        go_wp2_with (at_len; refine wpList_len_M rfl _ rfl hown Try.underlying54 rfl ?_)
        refine (sum2_any 5 (2 * (m.length : Int)) _ (by omega) (by omega) (by omega) (by omega) ⟨wr.heap.size, 0, none⟩ (by simp) (by simp [go_sem]) (by simp [go_sem, Addr.add_lit])).mono ?_
        rintro e w' ⟨rfl, rfl⟩
        go_wp2_with fail
        go_ret2
        refine ⟨?_, (Hb1.out.trans (Hb.out.mono (by omega))).alloc (by omega) _⟩
        rw [show txnN ws false = 5 + 2 * (m.length : Int) from by rw [Hc.out]; rfl]
        rfl
  · go_wp2_with fail
    go_ret2
    exact ⟨rfl, Hb1.out⟩
end Go.Proofs.Ytfokcdgahiljdaa

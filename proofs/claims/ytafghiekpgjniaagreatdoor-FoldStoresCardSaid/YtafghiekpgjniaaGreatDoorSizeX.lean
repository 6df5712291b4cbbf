/- The sizes that the statements count, told exactly. -/
import Derived.Test.YtafghiekpgjniaaGreatDoorSize
namespace Go.Proofs.YtafghiekpgjniaaGreatDoor
open Go.RowKit
set_option linter.unusedVariables false
set_option linter.unusedSimpArgs false

def wsz : Int → List Wr → Int
  | n, [] => n
  | n, x :: r => if n ≤ 1048576 then wsz (n + x.key.size + x.val.size) r else n
theorem wsz_drop {ws : List Wr} {j : Nat} {x : Wr} {q : Int} (h : ws[j]? = some x) : wsz q (ws.drop j) = if q ≤ 1048576 then wsz (q + x.key.size + x.val.size) (ws.drop (j + 1)) else q := by
  rw [drop_get h, wsz]
theorem wsizex_any (A : Option Addr) (len cap : Nat) (ws : List Wr) (w : World) (hw : WsAt w w.heap.size A len ws) (hl : len ≤ 4398046511104) (hs : ∀ x ∈ ws, x.key.size ≤ 140737488351232 ∧ x.val.size ≤ 140737488351232) :
    Calls Tryz.prog 131 #[.slice A len cap] w fun e w' => e = .returned (.int .i64 (wsz len ws)) ∧ (0 ≤ wsz len ws ∧ wsz len ws ≤ 1125899906842624) ∧ Below w.heap.size w w' := by
  have Hs := Lib.hid hs
  have hlen := Lib.hid hw.len
  have hfin : ∀ (q : Int) (w' : World), wsz len ws = q → 0 ≤ q → q ≤ 1125899906842624 → Below w.heap.size w w' → (Ending.returned (.int .i64 q) = .returned (.int .i64 (wsz len ws)) ∧ (0 ≤ wsz len ws ∧ wsz len ws ≤ 1125899906842624) ∧ Below w.heap.size w w') := fun q w' h h0 h1 h' => by subst h; exact ⟨rfl, ⟨h0, h1⟩, h'⟩
  have Hf := Lib.hid hfin
  clear hs hfin
  go_enter Tryz.func131, Tryz.ntmps131
  go_wp2_with fail
  go_loopw [3, 4] (fun n i wr => ∃ (j : Nat) (q : Int), j ≤ len ∧ i = .int .i64 j ∧ n = .int .i64 q ∧ 0 ≤ q ∧ q ≤ 1125899906842624 ∧ Hid (wsz len ws = wsz q (ws.drop j)) ∧ Below w.heap.size w wr) (fun _ i _ => len - (RowKit.intOf i).toNat)
  case atStart => exact ⟨0, len, by omega, rfl, rfl, by omega, by omega, Lib.hid rfl, Below.refl _ _⟩
  case round =>
    obtain ⟨j, q, hj, rfl, rfl, q0, q1, He, hb⟩ := hrel
    have hr := hw.below hb
    have Hb := Lib.hid hb
    clear hb
    by_cases hlt : j < len
    · obtain ⟨b, off, x, rfl, hbl, hx, x0, x1, x2⟩ := WsAt.cell3 hr hlt
      have hsz := Hs.out x (List.mem_of_getElem? hx)
      obtain ⟨z0, z1⟩ := hsz
      have hd := wsz_drop (q := q) hx
      have Hd := Lib.hid hd
      clear hx hr hd
      by_cases hq : q ≤ 1048576
      · go_wp2_with fail
        go_quiet (fail)
        go_wp2_with fail
        exact ⟨⟨j + 1, _, by omega, by go_num, rfl, by omega, by omega, Lib.hid (by rw [He.out, Hd.out, if_pos hq]), bel_drewN Hb.out _⟩, by simp [RowKit.intOf]; omega⟩
      · go_wp2_with fail
        go_ret
        exact Hf.out q _ (by rw [He.out, Hd.out, if_neg (by omega)]) q0 q1 Hb.out
    · go_wp2_with fail
      go_ret
      exact Hf.out q _ (by rw [He.out, List.drop_of_length_le (by have := hlen.out; omega)]; rfl) q0 q1 Hb.out
def tsz (ws : List Wr) : Int := 1 + wsz ws.length ws
theorem tsizex_any (n : Int) (A : Option Addr) (len cap : Nat) (ws : List Wr) (w : World) (hw : WsAt w w.heap.size A len ws) (hl : len ≤ 4398046511104) (hs : ∀ x ∈ ws, x.key.size ≤ 140737488351232 ∧ x.val.size ≤ 140737488351232) :
    Calls Tryz.prog 42 #[.agg #[.int .i64 n, .slice A len cap]] w fun e w' => e = .returned (.int .i64 (tsz ws)) ∧ (0 ≤ tsz ws ∧ tsz ws ≤ 1125899906842625) ∧ Below w.heap.size w w' := by
  have hw2 : ∀ o, WsAt (w.alloc o) (w.alloc o).heap.size A len ws := fun o => (hw.below ((Below.refl _ _).alloc (Nat.le_refl _) _)).more (by simp)
  have ht : tsz ws = 1 + wsz len ws := by unfold tsz; rw [hw.len]
  rw [ht]
  clear ht
  go_enter Tryz.func42, Tryz.ntmps42
  go_wp2_with fail
  refine (wsizex_any A len cap ws _ (hw2 _) hl hs).mono ?_
  rintro e w1 ⟨rfl, ⟨q0, q1⟩, hb1⟩
  have Hb1 := Lib.hid (((Below.refl _ _).alloc (Nat.le_refl _) _).trans (hb1.mono (by simp)))
  clear hb1
  go_wp2_with fail
  go_ret
  exact ⟨rfl, ⟨by omega, by omega⟩, Hb1.out⟩
def txsz : Int → List RTx → Int
  | n, [] => n
  | n, r :: l => if n ≤ 1048576 then txsz (n + tsz r.ws) l else n
theorem txsz_drop {rs : List RTx} {j : Nat} {r : RTx} {q : Int} (h : rs[j]? = some r) : txsz q (rs.drop j) = if q ≤ 1048576 then txsz (q + tsz r.ws) (rs.drop (j + 1)) else q := by
  rw [drop_get h, txsz]
theorem txsizex_any (A : Option Addr) (len cap : Nat) (rs : List RTx) (w : World) (hw : TxsAt w w.heap.size A len rs) (hl : len ≤ 4398046511104) (hs : ∀ r ∈ rs, ∀ x ∈ r.ws, x.key.size ≤ 140737488351232 ∧ x.val.size ≤ 140737488351232) :
    Calls Tryz.prog 8 #[.slice A len cap] w fun e w' => e = .returned (.int .i64 (txsz len rs)) ∧ (0 ≤ txsz len rs ∧ txsz len rs ≤ 2251799813685248) ∧ Below w.heap.size w w' := by
  have Hs := Lib.hid hs
  have hlen := Lib.hid hw.1.len
  have hfin : ∀ (q : Int) (w' : World), txsz len rs = q → 0 ≤ q → q ≤ 2251799813685248 → Below w.heap.size w w' → (Ending.returned (.int .i64 q) = .returned (.int .i64 (txsz len rs)) ∧ (0 ≤ txsz len rs ∧ txsz len rs ≤ 2251799813685248) ∧ Below w.heap.size w w') := fun q w' h h0 h1 h' => by subst h; exact ⟨rfl, ⟨h0, h1⟩, h'⟩
  have Hf := Lib.hid hfin
  clear hs hfin
  go_enter Tryz.func8, Tryz.ntmps8
  go_wp2_with fail
  go_loopw [3, 4] (fun n i wr => ∃ (j : Nat) (q : Int), j ≤ len ∧ i = .int .i64 j ∧ n = .int .i64 q ∧ 0 ≤ q ∧ q ≤ 2251799813685248 ∧ Hid (txsz len rs = txsz q (rs.drop j)) ∧ Below w.heap.size w wr) (fun _ i _ => len - (RowKit.intOf i).toNat)
  case atStart => exact ⟨0, len, by omega, rfl, rfl, by omega, by omega, Lib.hid rfl, Below.refl _ _⟩
  case round =>
    obtain ⟨j, q, hj, rfl, rfl, q0, q1, He, hb⟩ := hrel
    have hr := hw.below hb
    have hsz := hb.size
    have Hb := Lib.hid hb
    clear hb
    by_cases hlt : j < len
    · obtain ⟨b, off, r, rfl, hbl, hx, x0, x1, hws, hrl⟩ := hr.cell2 hlt
      have hws2 := hws.more hsz
      have hsr := Hs.out r (List.mem_of_getElem? hx)
      have Hsr := Lib.hid hsr
      have hd := txsz_drop (q := q) hx
      have Hd := Lib.hid hd
      clear hx hr hsr hd
      by_cases hq : q ≤ 1048576
      · go_wp2_with fail
        refine (tsizex_any r.number r.A r.len r.cap r.ws _ hws2 (by omega) Hsr.out).mono ?_
        rintro e w1 ⟨rfl, ⟨p0, p1⟩, hb1⟩
        have Hb1 := Lib.hid (Hb.out.trans (hb1.mono hsz))
        clear hb1
        go_wp2_with fail
        exact ⟨⟨j + 1, _, by omega, by go_num, rfl, by omega, by omega, Lib.hid (by rw [He.out, Hd.out, if_pos hq]), Hb1.out⟩, by simp [RowKit.intOf]; omega⟩
      · go_wp2_with fail
        go_ret
        exact Hf.out q _ (by rw [He.out, Hd.out, if_neg (by omega)]) q0 q1 Hb.out
    · go_wp2_with fail
      go_ret
      exact Hf.out q _ (by rw [He.out, List.drop_of_length_le (by have := hlen.out; omega)]; rfl) q0 q1 Hb.out
def beyB : Int → List Int → Bool
  | _, [] => false
  | n, x :: r => if 1048576 < n + x then true else beyB (n + x) r
theorem beyB_drop {l : List Int} {j : Nat} {x q : Int} (h : l[j]? = some x) : beyB q (l.drop j) = if 1048576 < q + x then true else beyB (q + x) (l.drop (j + 1)) := by
  rw [drop_get h, beyB]
theorem beyondx_any (A : Option Addr) (len cap : Nat) (l : List Int) (w : World) (hi : RowAt Icell 1 w w.heap.size A len l) (hl : len ≤ 1000) (hb : ∀ x ∈ l, 0 ≤ x ∧ x ≤ 2251799813685248) :
    Calls Tryz.prog 7 #[.slice A len cap] w fun e w' => e = .returned (.bool (beyB 0 l)) ∧ Below w.heap.size w w' := by
  have Hs := Lib.hid hb
  have hlen := Lib.hid hi.len
  have hfin : ∀ (q : Bool) (w' : World), beyB 0 l = q → Below w.heap.size w w' → (Ending.returned (.bool q) = .returned (.bool (beyB 0 l)) ∧ Below w.heap.size w w') := fun q w' h h' => by subst h; exact ⟨rfl, h'⟩
  have Hf := Lib.hid hfin
  clear hb hfin
  go_enter Tryz.func7, Tryz.ntmps7
  go_wp2_with fail
  go_loopw [3, 4] (fun n i wr => ∃ (j : Nat) (q : Int), j ≤ len ∧ i = .int .i64 j ∧ n = .int .i64 q ∧ 0 ≤ q ∧ q ≤ 1048576 ∧ Hid (beyB 0 l = beyB q (l.drop j)) ∧ Below w.heap.size w wr) (fun _ i _ => len - (RowKit.intOf i).toNat)
  case atStart => exact ⟨0, 0, by omega, rfl, rfl, by omega, by omega, Lib.hid rfl, Below.refl _ _⟩
  case round =>
    obtain ⟨j, q, hj, rfl, rfl, q0, q1, He, hb⟩ := hrel
    have hr := hi.below hb
    have Hb := Lib.hid hb
    clear hb
    by_cases hlt : j < len
    · obtain ⟨b, off, x, rfl, hbl, hx, hc⟩ := hr.at_ hlt
      have x0 := hc 0 _ rfl
      simp only [Nat.mul_one, Nat.add_zero] at x0
      obtain ⟨z0, z1⟩ := Hs.out x (List.mem_of_getElem? hx)
      have hd := beyB_drop (q := q) hx
      have Hd := Lib.hid hd
      clear hx hr hc hd
      by_cases hq : 1048576 < q + x
      · go_wp2_with fail
        go_ret
        exact Hf.out _ _ (by rw [He.out, Hd.out, if_pos hq]) Hb.out
      · go_wp2_with fail
        exact ⟨⟨j + 1, _, by omega, by go_num, rfl, by omega, by omega, Lib.hid (by rw [He.out, Hd.out, if_neg hq]), Hb.out⟩, by simp [RowKit.intOf]; omega⟩
    · go_wp2_with fail
      go_ret
      exact Hf.out _ _ (by rw [He.out, List.drop_of_length_le (by have := hlen.out; omega)]; rfl) Hb.out
end Go.Proofs.YtafghiekpgjniaaGreatDoor

/- Lemmas and contracts of functions that a statement of this seat stands on; each holds under the premises typed in its head. -/
import Derived.Test.YtdcnaieieggclaaFold6
import Derived.Test.YtdcnaieieggclaaSize
namespace Go.Proofs.Ytdcnaieieggclaa
open Go.RowKit
set_option linter.unusedVariables false
set_option linter.unusedSimpArgs false

open Go.Maps
/-- What both answer. -/
def chainAns (rs : List RTx) (i j : Int) : Bool × Int :=
  if logErr rs 1 ≠ 0 then (false, logErr rs 1) else if i < 1 ∨ j ≤ i ∨ (rs.length : Int) < j then (false, 1) else
    (decide ((reachL rs (i - 1).toNat ((j - 1).toNat - (i - 1).toNat)).getLast? = some (j - 1).toNat), 0)
theorem chained_any (A : Option Addr) (len cap : Nat) (rs : List RTx) (i j : Int) (w : World) (hw : TxsAt w w.heap.size A len rs) (hl : len ≤ 4398046511104) :
    Calls Try.prog 15 #[.slice A len cap, .int .i64 i, .int .i64 j] w fun e w' => e = .returned (.tuple #[.bool (chainAns rs i j).1, .int .i64 (chainAns rs i j).2]) ∧ Below w.heap.size w w' := by
  have hlen := hw.1.len
  by_cases he : logErr rs 1 = 0
  · by_cases ha : i < 1 ∨ j ≤ i ∨ (rs.length : Int) < j
    · have h1 : chainAns rs i j = (false, 1) := by unfold chainAns; rw [if_neg (by simpa using he), if_pos ha]
      rw [h1]
      exact chained_arg A len cap rs i j w hw hl he (by omega)
    · obtain ⟨a, rfl⟩ : ∃ a : Nat, i = (a : Int) + 1 := ⟨(i - 1).toNat, by omega⟩
      obtain ⟨b, rfl⟩ : ∃ b : Nat, j = (b : Int) + 1 := ⟨(j - 1).toNat, by omega⟩
      have h1 : chainAns rs ((a : Int) + 1) ((b : Int) + 1) = (((rs[b]?).map fun r => r.ws.any fun x => keysB (chainM rs a (b - a)) x.key).getD false, 0) := by
        unfold chainAns
        rw [if_neg (by simpa using he), if_neg ha, chains_same rs a b (by omega) (by omega)]
        simp
      rw [h1]
      exact chained_good A len cap rs a b w hw hl he (by omega) (by omega)
  · have h1 : chainAns rs i j = (false, logErr rs 1) := by unfold chainAns; rw [if_pos he]
    rw [h1]
    exact chained_err A len cap rs i j w hw hl he
theorem rchained_any (A : Option Addr) (len cap : Nat) (rs : List RTx) (i j : Int) (w : World) (hw : TxsAt w w.heap.size A len rs) (hl : len ≤ 4398046511104) :
    Calls Try.prog 16 #[.slice A len cap, .int .i64 i, .int .i64 j] w fun e w' => e = .returned (.tuple #[.bool (chainAns rs i j).1, .int .i64 (chainAns rs i j).2]) ∧ Below w.heap.size w w' := by
  have hlen := hw.1.len
  by_cases he : logErr rs 1 = 0
  · by_cases ha : i < 1 ∨ j ≤ i ∨ (rs.length : Int) < j
    · have h1 : chainAns rs i j = (false, 1) := by unfold chainAns; rw [if_neg (by simpa using he), if_pos ha]
      rw [h1]
      exact rchained_arg A len cap rs i j w hw hl he (by omega)
    · obtain ⟨a, rfl⟩ : ∃ a : Nat, i = (a : Int) + 1 := ⟨(i - 1).toNat, by omega⟩
      obtain ⟨b, rfl⟩ : ∃ b : Nat, j = (b : Int) + 1 := ⟨(j - 1).toNat, by omega⟩
      have h1 : chainAns rs ((a : Int) + 1) ((b : Int) + 1) = (decide ((reachL rs a (b - a)).getLast? = some b), 0) := by
        unfold chainAns
        rw [if_neg (by simpa using he), if_neg ha]
        simp
      rw [h1]
      exact rchained_good A len cap rs a b w hw hl he (by omega) (by omega)
  · have h1 : chainAns rs i j = (false, logErr rs 1) := by unfold chainAns; rw [if_pos he]
    rw [h1]
    exact rchained_err A len cap rs i j w hw hl he
theorem getLast?_snoc {α : Type} (l : List α) (x : α) : (l ++ [x]).getLast? = some x := by simp
/-- The answer hangs on the numbers and the writes alone. -/
theorem logErr_congr : ∀ {rs rs' : List RTx} {m : Int}, rs'.map (fun r => (r.number, r.ws)) = rs.map (fun r => (r.number, r.ws)) → logErr rs' m = logErr rs m
  | [], [], _, _ => rfl
  | [], _ :: _, _, h => by simp at h
  | _ :: _, [], _, h => by simp at h
  | r :: rs, r' :: rs', m, h => by
    simp only [List.map_cons, List.cons.injEq, Prod.mk.injEq] at h
    simp only [logErr]
    rw [h.1.1, h.1.2, logErr_congr (m := m + 1) h.2]
theorem wsOf_congr {rs rs' : List RTx} (h : rs'.map (fun r => (r.number, r.ws)) = rs.map (fun r => (r.number, r.ws))) (p : Nat) : wsOf rs' p = wsOf rs p := by
  have := congrArg (fun l => (l[p]?).map Prod.snd) h
  simp only [List.getElem?_map, Option.map_map] at this
  unfold wsOf
  have e : (Prod.snd ∘ fun r : RTx => (r.number, r.ws)) = RTx.ws := rfl
  rw [e] at this
  rw [this]
theorem reachL_congr {rs rs' : List RTx} (h : rs'.map (fun r => (r.number, r.ws)) = rs.map (fun r => (r.number, r.ws))) (a : Nat) : ∀ t, reachL rs' a t = reachL rs a t
  | 0 => rfl
  | t + 1 => by
    have hp : ∀ q p, pairB rs' q p = pairB rs q p := fun q p => by unfold pairB; rw [wsOf_congr h, wsOf_congr h]
    rw [reachL, reachL, reachL_congr h a t]
    simp only [hp]
theorem chainAns_congr {rs rs' : List RTx} (h : rs'.map (fun r => (r.number, r.ws)) = rs.map (fun r => (r.number, r.ws))) (i j : Int) : chainAns rs' i j = chainAns rs i j := by
  have hl : rs'.length = rs.length := by simpa using congrArg List.length h
  unfold chainAns
  rw [logErr_congr h, hl, reachL_congr h]

set_option maxHeartbeats 2000000 in
theorem lawchains_any (A : Option Addr) (len cap : Nat) (rs : List RTx) (i j : Int) (w : World) (hw : TxsAt w w.heap.size A len rs) (hl : len * 32 ≤ 140737488351232)
    (hs : ∀ r ∈ rs, ∀ x ∈ r.ws, x.key.size ≤ 140737488351232 ∧ x.val.size ≤ 140737488351232) :
    Calls Try.prog 3 #[.slice A len cap, .int .i64 i, .int .i64 j] w fun e w' => e = .returned (.bool true) ∧ Below w.heap.size w w' := by
  have hlen := Lib.hid hw.1.len
  go_enter Try.func3, Try.ntmps3
  go_wp2_with fail
  refine (txsize_any A len cap rs _ hw (by omega) hs).mono ?_
  rintro e w1 ⟨q, rfl, q0, q1, hb1⟩
  have hs1 := hb1.size
  have hq : RowAt Icell 1 (w1.alloc (.cells #[.int .i64 q] 3)) (w1.alloc (.cells #[.int .i64 q] 3)).heap.size (some ⟨w1.heap.size, 0, none⟩) 1 [q] := rowAt_block [q] (len_int _) (blk_new _ _) (by simp) (fun j u hu => by simpa [Icell] using hu)
  have Hq := Lib.hid hq
  have Hb1 := Lib.hid hb1
  clear hq hb1
  go_wp2_with fail
  refine (beyond_any _ 1 1 [q] _ Hq.out (by omega) (fun x hx => by simp at hx; omega)).mono ?_
  rintro e w2 ⟨bb, rfl, hb2⟩
  have hb2w : Below w.heap.size w w2 := Hb1.out.trans ((((Below.refl _ _).alloc (Nat.le_refl _) _).trans (hb2.mono (by simp))).mono hs1)
  have hw2 := (hw.below hb2w).more hb2w.size
  have Hb2 := Lib.hid hb2w
  clear hb2 hb2w
  cases bb
  case true =>
    go_wp2_with fail
    go_ret
    exact ⟨rfl, Hb2.out⟩
  case false =>
    go_wp2_with fail
    refine (twins_any A len cap rs _ hw2 hl).mono ?_
    rintro e w3 ⟨rs', hl', rfl, hblk, htw, hb3⟩
    have hs2 := Hb2.out.size
    have hs3 := hb3.size
    have htx3 := txs_of_twin hl' hlen.out hblk htw (fun r hr => (hw.2 r hr).2)
    have hsame := tw_same htw (by rw [hl', hlen.out])
    have hans := chainAns_congr hsame i j
    have hlt3 : w2.heap.size < w3.heap.size := blk_lt hblk
    have Hblk := Lib.hid hblk
    have Htw := Lib.hid htw
    have Hl' := Lib.hid hl'
    have Hans := Lib.hid hans
    have Hb3 := Lib.hid hb3
    clear hblk htw hl' hans hsame hb3
    go_wp2_with fail
    refine (chained_any _ len (len + 1) rs' i j _ htx3 (by omega)).mono ?_
    rintro e w4 ⟨rfl, hb4⟩
    rw [Hans.out]
    have hs4 := hb4.size
    have hb24 : Below w2.heap.size w2 w4 := Hb3.out.trans (hb4.mono hs3)
    have hb04 : Below w.heap.size w w4 := Hb2.out.trans (hb24.mono hs2)
    have hw4 := (hw.below hb04).more hb04.size
    have hblk4 := (hb4.block w2.heap.size hlt3).trans Hblk.out
    have htw4 := Htw.out.keep hs4 (fun b _ hb => hb4.block b hb)
    have Hblk4 := Lib.hid hblk4
    have Htw4 := Lib.hid htw4
    have Hb04 := Lib.hid hb04
    have Hw4 := Lib.hid hw4
    have hc2 : ∀ W : World, TxsAt W W.heap.size A len rs → Calls Try.prog 16 #[.slice A len cap, .int .i64 i, .int .i64 j] W fun e w' => e = .returned (.tuple #[.bool (chainAns rs i j).1, .int .i64 (chainAns rs i j).2]) ∧ Below W.heap.size W w' := fun W h => rchained_any A len cap rs i j W h (by omega)
    clear Hans
    generalize chainAns rs i j = an at hc2 ⊢
    obtain ⟨an1, an2⟩ := an
    simp only at hc2
    have Hc2 := Lib.hid hc2
    clear hb4 hb24 hb04 hblk4 htw4 hw4 hc2
    go_wp2_with fail
    refine (Hc2.out _ Hw4.out).mono ?_
    rintro e w5 ⟨rfl, hb5⟩
    have hs5 := hb5.size
    have hlt4 : w2.heap.size < w4.heap.size := by omega
    have hw5 := (Hw4.out.below hb5).more hs5
    have hblk5 := (hb5.block w2.heap.size hlt4).trans Hblk4.out
    have htw5 := Htw4.out.keep hs5 (fun b _ hb => hb5.block b hb)
    have Hblk5 := Lib.hid hblk5
    have Htw5 := Lib.hid htw5
    have Hw5 := Lib.hid hw5
    have Hb05 := Lib.hid (Hb04.out.trans (hb5.mono Hb04.out.size))
    clear hb5 hw5 hblk5 htw5
    go_wp2_with fail
    refine (lefts_any w2.heap.size A len cap rs rs' _ Hl'.out Hblk5.out Htw5.out Hw5.out hl).mono ?_
    rintro e w6 ⟨rfl, hb6⟩
    have Hb06 := Lib.hid (Hb05.out.trans (hb6.mono Hb05.out.size))
    clear hb6
    go_wp2_with fail
    go_ret
    exact ⟨rfl, Hb06.out⟩
end Go.Proofs.Ytdcnaieieggclaa

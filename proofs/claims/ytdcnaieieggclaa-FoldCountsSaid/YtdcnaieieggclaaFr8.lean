/- The reference's Get and Writer; lists of entries that are the same. -/
import Derived.Test.YtdcnaieieggclaaFr7
namespace Go.Proofs.Ytdcnaieieggclaa
open Go.RowKit
set_option linter.unusedVariables false
set_option linter.unusedSimpArgs false

open Go.Maps
set_option maxHeartbeats 1000000 in
/-- Two rows of one list are the same. -/
theorem sameE_any (A1 : Option Addr) (len cap1 : Nat) (A2 : Option Addr) (cap2 : Nat) (xs : List Ent) (w : World) (h1 : RowAt Ent.cells 2 w w.heap.size A1 len xs) (h2 : RowAt Ent.cells 2 w w.heap.size A2 len xs) (hl : len ≤ 4398046511104) :
    Calls Try.prog 22 #[.slice A1 len cap1, .slice A2 len cap2] w fun e w' => e = .returned (.bool true) ∧ Below w.heap.size w w' := by
  have hb0 := beq_self_eq_true (len : Int)
  go_enter Try.func22, Try.ntmps22
  go_wp2_with fail
  go_loopw [5] (fun i wr => ∃ k : Nat, k ≤ len ∧ i = .int .i64 k ∧ Below w.heap.size w wr) (fun i _ => len - (RowKit.intOf i).toNat)
  case atStart => exact ⟨0, Nat.zero_le _, rfl, Below.refl _ _⟩
  case round =>
    obtain ⟨k, hk, rfl, hb⟩ := hrel
    have hr := h1.below hb
    have ht := h2.below hb
    have Hb := Lib.hid hb
    have hs := hb.size
    clear hb
    by_cases hlt : k < len
    · obtain ⟨b, off, x, rfl, hbl, hx, hxc⟩ := hr.at_ hlt
      have x0 := hxc 0 _ rfl
      have x1 := hxc 1 _ rfl
      simp only [Nat.add_zero] at x0
      obtain ⟨b', off', y, rfl, hbl', hy, hyc⟩ := ht.at_ hlt
      have y0 := hyc 0 _ rfl
      have y1 := hyc 1 _ rfl
      simp only [Nat.add_zero] at y0
      obtain rfl : y = x := by rw [hx] at hy; exact (Option.some.inj hy).symm
      clear hx hy hxc hyc hr ht
      go_wp2_with fail
      go_quiet (fail)
      go_wp2_with fail
      exact ⟨⟨k + 1, by omega, by go_num, below_drewN Hb.out _⟩, by simp [RowKit.intOf]; omega⟩
    · obtain rfl : k = len := by omega
      go_wp2_with fail
      go_ret
      exact ⟨rfl, Hb.out⟩
def GetPost (w : World) (rs : List RTx) (i : Int) (k : ByteArray) (e : Ending) (w' : World) : Prop := e = .returned (.tuple #[.string ((getV rs i k).getD ⟨#[]⟩), .bool (getV rs i k).isSome, .int .i64 (getErr rs i k)]) ∧ Below w.heap.size w w'
set_option maxHeartbeats 1000000 in
theorem rget_good (A : Option Addr) (len cap : Nat) (rs : List RTx) (n : Nat) (k : ByteArray) (w : World) (hw : TxsAt w w.heap.size A len rs) (hl : len ≤ 4398046511104) (he : logErr rs 1 = 0) (hn : n ≤ len) (hk : keyB k = true) :
    Calls Try.prog 24 #[.slice A len cap, .int .i64 n, .string k] w fun e w' => e = .returned (.tuple #[.string ((mget (foldM rs n) k).getD ⟨#[]⟩), .bool (mget (foldM rs n) k).isSome, .int .i64 0]) ∧ Below w.heap.size w w' := by
  have hlen := Lib.hid hw.1.len
  have He := Lib.hid he
  have hfl : (foldE rs n).length ≤ 2097152 := len_foldE_le he (by have := hlen.out; omega)
  have hkey : ∀ W, Calls Try.prog 51 #[.string k] W fun e w' => e = .returned (.bool true) ∧ W = w' := fun W => by have := key_any k W; rwa [hk] at this
  have Hkey := Lib.hid hkey
  have hd : decide (len < n) = false := by rw [decide_eq_false_iff_not]; omega
  clear he hk hkey
  go_enter Try.func24, Try.ntmps24
  go_wp2_with fail
  refine (ref07check_any A len cap rs _ hw hl).mono ?_
  rintro e w1 ⟨rfl, hb1⟩
  rw [He.out]
  have hs1 := hb1.size
  have hw1 := (hw.below hb1).more hs1
  have Hb1 := Lib.hid hb1
  clear hb1
  go_wp2_with (go_at_call 51; refine (Hkey.out _).mono ?_; rintro e w' ⟨rfl, rfl⟩)
  refine (rfold_any A len cap rs n _ hw1 hl He.out hn).mono ?_
  rintro e w2 ⟨v, rfl, hv, hb2⟩
  obtain ⟨Ao, co, rfl, hrow, hnil, hcap⟩ := hv.row
  have hs2 := hb2.size
  have Hb2 := Lib.hid (Hb1.out.trans (hb2.mono hs1))
  clear hv hnil hb2
  go_wp2_with fail
  refine (rplace_any Ao _ co (foldE rs n) k _ hrow (by omega) (agree_fold rs n).1).mono ?_
  rintro e w3 ⟨p, hit, rfl, hp, hb3⟩
  have hrow3 := hrow.below hb3
  have Hb3 := Lib.hid (Hb2.out.trans (hb3.mono Hb2.out.size))
  have hg := hp.get (agree_fold rs n)
  rcases hg with ⟨rfl, x, hx, hm⟩ | ⟨rfl, hm⟩
  · have hpl := (List.getElem?_eq_some_iff.1 hx).1
    obtain ⟨bb, off, y, rfl, hbl, hy, y0, y1⟩ := ent_cell2 hrow3 hpl
    obtain rfl : y = x := by rw [hx] at hy; exact (Option.some.inj hy).symm
    have Hm := Lib.hid hm
    clear hm hx hy hp hb3 hrow3 hrow
    go_wp2_with fail
    go_ret3
    exact ⟨by rw [Hm.out]; rfl, Hb3.out⟩
  · have Hm := Lib.hid hm
    clear hm hp hb3 hrow3 hrow
    go_wp2_with fail
    go_ret3
    exact ⟨by rw [Hm.out]; rfl, Hb3.out⟩
theorem rget_any (A : Option Addr) (len cap : Nat) (rs : List RTx) (i : Int) (k : ByteArray) (w : World) (hw : TxsAt w w.heap.size A len rs) (hl : len ≤ 4398046511104) :
    Calls Try.prog 24 #[.slice A len cap, .int .i64 i, .string k] w (GetPost w rs i k) := by
  have hlen := hw.1.len
  unfold GetPost
  by_cases he : logErr rs 1 = 0
  · by_cases ha : i < 0 ∨ (len : Int) < i ∨ keyB k = false
    · have h1 : getErr rs i k = 1 := by
        by_cases hb : i < 0 ∨ (len : Int) < i
        · have hs : scanErr rs i = 1 := by unfold scanErr; rw [if_neg (by simpa using he), if_neg (by simp only [argB, Bool.and_eq_true, decide_eq_true_eq]; omega)]
          unfold getErr; rw [if_pos (by rw [hs]; decide), hs]
        · have hs : scanErr rs i = 0 := by unfold scanErr; rw [if_neg (by simpa using he), if_pos (by simp only [argB, Bool.and_eq_true, decide_eq_true_eq]; omega)]
          have hk : keyB k = false := by
            rcases ha with ha | ha | ha
            · omega
            · omega
            · exact ha
          unfold getErr; rw [if_neg (by rw [hs]; decide), hk]; rfl
      have h2 : getV rs i k = none := by unfold getV; rw [if_neg (by rw [h1]; decide)]
      rw [h1, h2]
      have He := Lib.hid he
      clear he h1 h2
      by_cases h1 : i < 0 <;> by_cases h3 : (len : Int) < i
      all_goals (cases hk : keyB k)
      all_goals first
        | (exfalso; simp [hk] at ha; omega)
        | (have Hk := Lib.hid hk
           clear hk ha
           have hkey : ∀ W, Calls Try.prog 51 #[.string k] W fun e w' => e = .returned (.bool _) ∧ W = w' := fun W => by have := key_any k W; rwa [Hk.out] at this
           go_enter Try.func24, Try.ntmps24
           go_wp2_with fail
           refine (ref07check_any A len cap rs _ hw hl).mono ?_
           rintro e w1 ⟨rfl, hb1⟩
           rw [He.out]
           have Hb1 := Lib.hid hb1
           clear hb1
           go_wp2_with (go_at_call 51; refine (hkey _).mono ?_; rintro e w' ⟨rfl, rfl⟩)
           go_ret3
           exact ⟨rfl, Hb1.out⟩)
    · have hk : keyB k = true := by
        cases h : keyB k
        · exact absurd (Or.inr (Or.inr h)) ha
        · rfl
      have hs : scanErr rs i = 0 := by unfold scanErr; rw [if_neg (by simpa using he), if_pos (by simp only [argB, Bool.and_eq_true, decide_eq_true_eq]; omega)]
      have h1 : getErr rs i k = 0 := by unfold getErr; rw [if_neg (by simpa using hs), if_pos hk]
      have h2 : getV rs i k = mget (foldM rs i.toNat) k := by unfold getV; rw [if_pos h1]
      rw [h1, h2]
      obtain ⟨n, rfl⟩ : ∃ n : Nat, i = n := ⟨i.toNat, by omega⟩
      rw [show ((n : Int)).toNat = n from by omega]
      exact rget_good A len cap rs n k w hw hl he (by omega) hk
  · have hs : scanErr rs i = logErr rs 1 := by unfold scanErr; rw [if_pos he]
    have h1 : getErr rs i k = logErr rs 1 := by unfold getErr; rw [if_pos (by rw [hs]; exact he), hs]
    have h2 : getV rs i k = none := by unfold getV; rw [if_neg (by rw [h1]; exact he)]
    rw [h1, h2]
    have hne : (logErr rs 1 != 0) = true := by simpa using he
    clear h1 h2 hs he
    go_enter Try.func24, Try.ntmps24
    go_wp2_with fail
    refine (ref07check_any A len cap rs _ hw hl).mono ?_
    rintro e w1 ⟨rfl, hb1⟩
    have Hb1 := Lib.hid hb1
    clear hb1
    go_wp2_with fail
    go_ret3
    exact ⟨rfl, Hb1.out⟩
set_option maxHeartbeats 1000000 in
theorem rwriter_good (A : Option Addr) (len cap : Nat) (rs : List RTx) (N : Nat) (k : ByteArray) (w : World) (hw : TxsAt w w.heap.size A len rs) (hl : len ≤ 4398046511104) (he : logErr rs 1 = 0) (hN1 : 1 ≤ N) (hN2 : N ≤ len + 1) (hk : keyB k = true) :
    Calls Try.prog 28 #[.slice A len cap, .int .i64 N, .string k] w fun e w' => e = .returned (.tuple #[.int .i64 (lastN rs k (N - 1) : Nat), .int .i64 0]) ∧ Below w.heap.size w w' := by
  have He := Lib.hid he
  have hkey : ∀ W, Calls Try.prog 51 #[.string k] W fun e w' => e = .returned (.bool true) ∧ W = w' := fun W => by have := key_any k W; rwa [hk] at this
  have Hkey := Lib.hid hkey
  have hd1 : decide ((N : Int) < 1) = false := by rw [decide_eq_false_iff_not]; omega
  have hd3 : decide (((len : Int) + 1) < (N : Int)) = false := by rw [decide_eq_false_iff_not]; omega
  clear he hk hkey
  go_enter Try.func28, Try.ntmps28
  go_wp2_with fail
  refine (ref07check_any A len cap rs _ hw hl).mono ?_
  rintro e w1 ⟨rfl, hb1⟩
  rw [He.out]
  have hs1 := hb1.size
  have hw1 := (hw.below hb1).more hs1
  have Hb1 := Lib.hid hb1
  clear hb1
  go_wp2_with (go_at_call 51; refine (Hkey.out _).mono ?_; rintro e w' ⟨rfl, rfl⟩)
  go_loopw [9] (fun n wr => ∃ t : Nat, t ≤ N - 1 ∧ n = .int .i64 t ∧ Hid (lastN rs k (N - 1) = lastN rs k t) ∧ Below w1.heap.size w1 wr) (fun n _ => (RowKit.intOf n).toNat)
  case atStart => exact ⟨N - 1, Nat.le_refl _, by congr 1 <;> omega, Lib.hid rfl, Below.refl _ _⟩
  case round =>
    obtain ⟨t, ht, rfl, Hln, hb⟩ := hrel
    have hr := hw1.below hb
    have hsr := hb.size
    have Hb := Lib.hid hb
    clear hb
    by_cases hlt : 1 ≤ t
    · obtain ⟨q, rfl⟩ : ∃ q, t = q + 1 := ⟨t - 1, by omega⟩
      obtain ⟨bb, off, r, rfl, hbl2, hx, x0, x1, hws, hrl⟩ := hr.cell2 (show q < len by omega)
      have hws2 := hws.more hsr
      have hsn : lastN rs k (q + 1) = if hasKey r.ws k = true then q + 1 else lastN rs k q := by rw [lastN, wsOf_get hx]
      have Hsn := Lib.hid hsn
      clear hx hr hws hsn
      go_wp2_with fail
      refine (writes_any r.number r.A r.len r.cap r.ws k _ hws2 (by omega)).mono ?_
      rintro e w2 ⟨rfl, hb2⟩
      have Hb2 := Lib.hid (Hb.out.trans (hb2.mono hsr))
      clear hb2
      cases hc : hasKey r.ws k
      · have Hc := Lib.hid hc
        clear hc
        go_wp2_with fail
        exact ⟨⟨q, by omega, by first | rfl | go_num, Lib.hid (by rw [Hln.out, Hsn.out, if_neg (by rw [Hc.out]; simp)]), Hb2.out⟩, by simp [RowKit.intOf]⟩
      · have Hc := Lib.hid hc
        clear hc
        go_wp2_with fail
        go_ret2
        exact ⟨by rw [Hln.out, Hsn.out, if_pos Hc.out]; rfl, Hb1.out.trans (Hb2.out.mono hs1)⟩
    · obtain rfl : t = 0 := by omega
      clear hr
      go_wp2_with fail
      go_ret2
      exact ⟨by rw [Hln.out]; rfl, Hb1.out.trans (Hb.out.mono hs1)⟩
theorem rwriter_any (A : Option Addr) (len cap : Nat) (rs : List RTx) (i : Int) (k : ByteArray) (w : World) (hw : TxsAt w w.heap.size A len rs) (hl : len ≤ 4398046511104) :
    Calls Try.prog 28 #[.slice A len cap, .int .i64 i, .string k] w (WriterPost w rs i k) := by
  have hlen := hw.1.len
  unfold WriterPost
  by_cases he : logErr rs 1 = 0
  · by_cases ha : i < 1 ∨ (len : Int) + 1 < i ∨ keyB k = false
    · have h1 : writerErr rs i k = 1 := by
        unfold writerErr
        rw [if_neg (by simpa using he), if_neg (by
          simp only [Bool.and_eq_true, decide_eq_true_eq]
          rintro ⟨⟨h1, h2⟩, h3⟩
          rcases ha with ha | ha | ha
          · omega
          · omega
          · rw [h3] at ha; cases ha)]
      have h2 : writerN rs i k = 0 := by unfold writerN; rw [if_neg (by rw [h1]; decide)]
      rw [h1, h2]
      have He := Lib.hid he
      clear he h1 h2
      by_cases h1 : i < 1 <;> by_cases h3 : (len : Int) + 1 < i
      all_goals (cases hk : keyB k)
      all_goals first
        | (exfalso; simp [hk] at ha; omega)
        | (have Hk := Lib.hid hk
           clear hk ha
           have hkey : ∀ W, Calls Try.prog 51 #[.string k] W fun e w' => e = .returned (.bool _) ∧ W = w' := fun W => by have := key_any k W; rwa [Hk.out] at this
           go_enter Try.func28, Try.ntmps28
           go_wp2_with fail
           refine (ref07check_any A len cap rs _ hw hl).mono ?_
           rintro e w1 ⟨rfl, hb1⟩
           rw [He.out]
           have Hb1 := Lib.hid hb1
           clear hb1
           go_wp2_with (go_at_call 51; refine (hkey _).mono ?_; rintro e w' ⟨rfl, rfl⟩)
           go_ret2
           exact ⟨rfl, Hb1.out⟩)
    · have hk : keyB k = true := by
        cases h : keyB k
        · exact absurd (Or.inr (Or.inr h)) ha
        · rfl
      have hb : 1 ≤ i ∧ i ≤ (len : Int) + 1 := by omega
      have h1 : writerErr rs i k = 0 := by
        unfold writerErr
        rw [if_neg (by simpa using he), if_pos (by simp only [Bool.and_eq_true, decide_eq_true_eq]; exact ⟨⟨hb.1, by omega⟩, hk⟩)]
      have h2 : writerN rs i k = (lastN rs k (i - 1).toNat : Nat) := by unfold writerN; rw [if_pos h1]
      rw [h1, h2]
      obtain ⟨n, rfl⟩ : ∃ n : Nat, i = n := ⟨i.toNat, by omega⟩
      have := rwriter_good A len cap rs n k w hw hl he (by omega) (by omega) hk
      rwa [show ((n : Int) - 1).toNat = n - 1 from by omega]
  · have h1 : writerErr rs i k = logErr rs 1 := by unfold writerErr; rw [if_pos he]
    have h2 : writerN rs i k = 0 := by unfold writerN; rw [if_neg (by rw [h1]; exact he)]
    rw [h1, h2]
    have hne : (logErr rs 1 != 0) = true := by simpa using he
    clear h1 h2 he
    go_enter Try.func28, Try.ntmps28
    go_wp2_with fail
    refine (ref07check_any A len cap rs _ hw hl).mono ?_
    rintro e w1 ⟨rfl, hb1⟩
    have Hb1 := Lib.hid hb1
    clear hb1
    go_wp2_with fail
    go_ret2
    exact ⟨rfl, Hb1.out⟩
end Go.Proofs.Ytdcnaieieggclaa

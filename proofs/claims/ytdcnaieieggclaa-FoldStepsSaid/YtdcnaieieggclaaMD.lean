/- Lemmas and contracts of functions that statements of this seat stand on, many texts in one; each holds under the premises typed in its head. -/
import Derived.Test.YtdcnaieieggclaaMC
import Derived.Sort.Walk0
import Derived.Shelf.SlIter.Nil
import Derived.Shelf.SlIterI.Nil
import Derived.Shelf.SortM.Plain
import Derived.Shelf.SortM.SortNone
import Derived.Ground.GgzProg
import Derived.Ground.SlgmProg
import Derived.Test.YtdcnaieieggclaaRows
import Derived.Test.YtdcnaieieggclaaMA
import Derived.OpenShut
import Derived.ShutString
import Derived.ChangeOld
import Derived.DeepKeys4
import Derived.Laws.AppendOwnNone
import Derived.Deep.RegionHeld3
import Derived.Maps.RangeWalk
/- What point reads, scans and last writers answer: plain words; the order of keys as the code asks it. -/
namespace Go.Proofs.Ytdcnaieieggclaa
open Go.RowKit
set_option linter.unusedVariables false
set_option linter.unusedSimpArgs false

theorem less_eq (a b : ByteArray) : Op.bytesLess a.toList b.toList = ltB a b := by
  rw [Go.Proofs.bytesLess_eq, ByteArray.toList_eq, ByteArray.toList_eq]; rfl
def argB (rs : List RTx) (first : Int) : Bool := decide (0 ≤ first) && decide (first ≤ (rs.length : Int))
def scanErr (rs : List RTx) (first : Int) : Int := if logErr rs 1 ≠ 0 then logErr rs 1 else if argB rs first then 0 else 1
def scanL (rs : List RTx) (first : Int) (key fin : ByteArray) : List Ent := if scanErr rs first = 0 then (foldE rs first.toNat).filter (fun e => inB key fin e.key) else []
def getErr (rs : List RTx) (first : Int) (key : ByteArray) : Int := if scanErr rs first ≠ 0 then scanErr rs first else if keyB key then 0 else 1
def getV (rs : List RTx) (first : Int) (key : ByteArray) : Option ByteArray := if getErr rs first key = 0 then mget (foldM rs first.toNat) key else none
def writerErr (rs : List RTx) (number : Int) (key : ByteArray) : Int := if logErr rs 1 ≠ 0 then logErr rs 1 else if decide (1 ≤ number) && decide (number ≤ (rs.length : Int) + 1) && keyB key then 0 else 1
def writerN (rs : List RTx) (number : Int) (key : ByteArray) : Int := if writerErr rs number key = 0 then (lastN rs key (number - 1).toNat : Nat) else 0
theorem scanErr_zero {rs : List RTx} {first : Int} (h : scanErr rs first = 0) : logErr rs 1 = 0 ∧ 0 ≤ first ∧ first ≤ (rs.length : Int) := by
  unfold scanErr at h
  split at h
  · rename_i hc; exact absurd h hc
  · rename_i hc
    split at h
    · rename_i ha; simp only [argB, Bool.and_eq_true, decide_eq_true_eq] at ha; exact ⟨Classical.byContradiction hc, ha.1, ha.2⟩
    · cases h
theorem logErr_012 (rs : List RTx) (m : Int) : logErr rs m = 0 ∨ logErr rs m = 1 ∨ logErr rs m = 6 := by
  induction rs generalizing m with
  | nil => exact Or.inl rfl
  | cons r rest ih =>
    simp only [logErr]
    split
    · split
      · exact ih _
      · exact Or.inr (Or.inr rfl)
    · exact Or.inr (Or.inl rfl)
/-- How many entries a fold can have; how long its keys. -/
theorem len_stepM (m : KV) (x : Wr) : (stepM m x).length ≤ m.length + 1 := by
  unfold stepM; split
  · exact Nat.le_succ_of_le (sub_mdel _ _).length_le
  · exact length_mput_le _ _ _
theorem len_playM (m : KV) (ws : List Wr) : (playM m ws).length ≤ m.length + ws.length := by
  induction ws generalizing m with
  | nil => simp [playM]
  | cons x r ih => have h1 := ih (stepM m x); have h2 := len_stepM m x; rw [show playM m (x :: r) = playM (stepM m x) r from rfl, List.length_cons]; omega
theorem len_allW {rs : List RTx} (he : logErr rs 1 = 0) (n : Nat) : (allW rs n).length ≤ 32 * n := by
  induction n with
  | zero => simp [allW]
  | succ n ih =>
    cases hx : rs[n]? with
    | none =>
      have : allW rs (n + 1) = allW rs n := by unfold allW; rw [List.take_add_one, hx]; simp
      rw [this]; omega
    | some r =>
      have h1 := (logErr_ok he hx).1
      simp only [txB, Bool.and_eq_true, decide_eq_true_eq] at h1
      rw [allW_succ hx, List.length_append]; omega
theorem len_foldM {rs : List RTx} (he : logErr rs 1 = 0) {n : Nat} (hn : n ≤ rs.length) : (foldM rs n).length ≤ 2097152 := by
  have h1 := len_playM [] (allW rs n)
  have h2 := len_allW he n
  have h3 := logErr_le he
  simp only [List.length_nil] at h1
  unfold foldM; omega
theorem len_foldE (rs : List RTx) (n : Nat) : (foldE rs n).length = (foldM rs n).length := by rw [← ents_fold]; simp [entsOf, len_sortedK]
theorem len_foldE_le {rs : List RTx} (he : logErr rs 1 = 0) {n : Nat} (hn : n ≤ rs.length) : (foldE rs n).length ≤ 2097152 := by rw [len_foldE]; exact len_foldM he hn
theorem key_foldM {rs : List RTx} (he : logErr rs 1 = 0) {n : Nat} : ∀ p ∈ foldM rs n, p.1.size ≤ 64 := fun p hp => by
  have h1 := mget_of_mem (foldM_nodup rs n) (k := p.1) (v := p.2) hp
  obtain ⟨r, hr, x, hx, e⟩ := fold_written h1
  obtain ⟨i, hi⟩ := List.getElem?_of_mem hr
  have h2 := (logErr_ok he hi).1
  simp only [txB, Bool.and_eq_true, List.all_eq_true] at h2
  have h3 := h2.2 x hx
  simp only [wrB, keyB, Bool.and_eq_true, decide_eq_true_eq] at h3
  rw [← e]; exact h3.1.1.2
end Go.Proofs.Ytdcnaieieggclaa

namespace Go.Proofs.Ytdcnaieieggclaa
open Go.RowKit
set_option linter.unusedVariables false
set_option linter.unusedSimpArgs false

open Go.Maps
abbrev SM := OwnM Value.string Value.string
theorem zstr (w : World) : (zeroValue 9).run Try.prog w = .ok (.string ⟨#[]⟩) w := by kernel_rfl
theorem fmay_any (k : ByteArray) (w : World) : Calls Try.prog 50 #[.string k] w fun e w' => e = .returned (.bool (keyB k)) ∧ w = w' := by
  go_enter Try.func50, Try.ntmps50
  go_wp2
  all_goals go_ret
  all_goals exact ⟨ret_bool (by have nk := toList_nil k; simp only [keyB, List.isEmpty_iff]; grind), rfl⟩
theorem values_err (A : Option Addr) (len cap : Nat) (rs : List RTx) (i : Int) (w : World) (hw : TxsAt w w.heap.size A len rs) (hl : len ≤ 4398046511104) (he : logErr rs 1 ≠ 0) :
    Calls Try.prog 49 #[.slice A len cap, .int .i64 i] w fun e w' => e = .returned (.tuple #[.map none, .int .i64 (logErr rs 1)]) ∧ Below w.heap.size w w' := by
  have hne : (logErr rs 1 != 0) = true := by simpa using he
  go_enter Try.func49, Try.ntmps49
  go_wp2_with fail
  refine (foldcheck_any A len cap rs _ hw hl).mono ?_
  rintro e w1 ⟨rfl, hb1⟩
  go_wp2_with fail
  go_ret2
  exact ⟨rfl, hb1⟩
theorem values_arg (A : Option Addr) (len cap : Nat) (rs : List RTx) (i : Int) (w : World) (hw : TxsAt w w.heap.size A len rs) (hl : len ≤ 4398046511104) (he : logErr rs 1 = 0) (ha : i < 0 ∨ (len : Int) < i) :
    Calls Try.prog 49 #[.slice A len cap, .int .i64 i] w fun e w' => e = .returned (.tuple #[.map none, .int .i64 1]) ∧ Below w.heap.size w w' := by
  have He := Lib.hid he
  clear he
  by_cases h1 : i < 0 <;> by_cases h3 : (len : Int) < i
  all_goals first
    | (exfalso; omega)
    | (go_enter Try.func49, Try.ntmps49
       go_wp2_with fail
       refine (foldcheck_any A len cap rs _ hw hl).mono ?_
       rintro e w1 ⟨rfl, hb1⟩
       rw [He.out]
       go_wp2_with fail
       go_ret2
       exact ⟨rfl, hb1⟩)
set_option maxHeartbeats 2000000 in
set_option maxRecDepth 8000 in
theorem values_good (A : Option Addr) (len cap : Nat) (rs : List RTx) (n : Nat) (w : World) (hw : TxsAt w w.heap.size A len rs) (hl : len ≤ 4398046511104) (hc : len ≤ cap) (he : logErr rs 1 = 0) (hn : n ≤ len) :
    Calls Try.prog 49 #[.slice A len cap, .int .i64 n] w fun e w' => ∃ b, e = .returned (.tuple #[.map (some b), .int .i64 0]) ∧ w.heap.size ≤ b ∧ SM w' b (foldM rs n) ∧ Below w.heap.size w w' := by
  have He := Lib.hid he
  clear he
  have hmm := @run_makeMap Try.prog
  have hd2 : decide (len < n) = false := by rw [decide_eq_false_iff_not]; omega
  go_enter Try.func49, Try.ntmps49
  go_wp2_with fail
  refine (foldcheck_any A len cap rs _ hw hl).mono ?_
  rintro e w1 ⟨rfl, hb1⟩
  rw [He.out]
  have hs1 := hb1.size
  have Hb1 := Lib.hid hb1
  clear hb1
  go_wp2_with fail
  have hk0 : SM (w1.alloc (.map #[] 0)) w1.heap.size (foldM rs 0) := OwnM.made _ _ _
  go_loopw [30] (fun v wr => ∃ t : Nat, t ≤ n ∧ v = .int .i64 t ∧ SM wr w1.heap.size (foldM rs t) ∧ Below w1.heap.size w1 wr) (fun v _ => n - (RowKit.intOf v).toNat)
  case atStart => exact ⟨0, by omega, rfl, hk0, (Below.refl _ _).alloc (Nat.le_refl _) _⟩
  case round =>
    obtain ⟨t, ht, rfl, hm, hb⟩ := hrel
    have hz := hb.size
    have hlt0 := hm.lt
    have hbw : Below w.heap.size w wr := Hb1.out.trans (hb.mono hs1)
    have hr := hw.below hbw
    have Hm := Lib.hid hm
    have Hb := Lib.hid hb
    have Hbw := Lib.hid hbw
    clear hm hb hbw
    by_cases hlt : t < n
    · obtain ⟨bb, off, r, rfl, hbl2, hx, x0, x1, hws, hrl⟩ := hr.cell2 (show t < len by omega)
      have Hx := Lib.hid hx
      clear hx hr hws
      go_wp2_with fail
      go_loopw [37] (fun q wi => ∃ qn : Nat, qn ≤ r.len ∧ q = .int .i64 qn ∧ SM wi w1.heap.size (playM (foldM rs t) (r.ws.take qn)) ∧ Below w1.heap.size w1 wi) (fun q _ => r.len - (RowKit.intOf q).toNat)
      case atStart => exact ⟨0, by omega, rfl, Hm.out.alloc _, Hb.out.alloc (by omega) _⟩
      case round =>
        obtain ⟨qn, hq, rfl, hmi, hbi⟩ := hrel
        have hbiw : Below w.heap.size w wr := Hb1.out.trans (hbi.mono hs1)
        have hri : WsAt wr w.heap.size r.A r.len r.ws := ((hw.below hbiw).2 r (List.mem_of_getElem? Hx.out)).1
        have hzi := hbi.size
        have hlti := hmi.lt
        have Hmi := Lib.hid hmi
        have Hbi := Lib.hid hbi
        clear hmi hbi hbiw
        by_cases hq2 : qn < r.len
        · obtain ⟨b2, off2, x, hA2, hbl3, hx2, y0, y1, y2⟩ := WsAt.cell3 hri hq2
          have Hx2 := Lib.hid hx2
          clear hx2 hri
          rw [hA2]
          have hbox : ∀ {w' : World}, World.grownBy (wr.alloc (.cells #[.string x.key, .string x.val, .bool x.drop] 39)) w' (some w1.heap.size) → Below w1.heap.size w1 w' := fun hg' =>
            (Hbi.out.alloc (by omega) _).grown hg' (by simp; omega) (fun q hq => by injection hq; omega)
          cases hd : x.drop
          · have Hd := Lib.hid hd
            rw [hd] at y2
            rw [hd] at hbox
            clear hd
            go_wp2_with (at_mapUpdate; refine wpList_update_M (κ := Value.string) (ν := Value.string) (b := w1.heap.size) (m := playM (foldM rs t) (r.ws.take qn)) rfl _ _ _ rfl (Hmi.out.alloc _) kstr Try.underlying80 x.key x.val rfl rfl rfl ?_; intro w' hown' hg')
            exact ⟨⟨qn + 1, by omega, by go_num, by rw [playM_snoc Hx2.out]; simp only [stepM, Hd.out]; exact hown', hbox hg'⟩, by simp [RowKit.intOf]; omega⟩
          · have Hd := Lib.hid hd
            rw [hd] at y2
            rw [hd] at hbox
            clear hd
            go_wp2_with (at_delete; refine wpList_delete_M (t := 80) (κ := Value.string) (ν := Value.string) (b := w1.heap.size) (m := playM (foldM rs t) (r.ws.take qn)) rfl _ _ _ rfl (Hmi.out.alloc _) kstr Try.underlying80 x.key rfl rfl ?_; intro w' hown' hg')
            exact ⟨⟨qn + 1, by omega, by go_num, by rw [playM_snoc Hx2.out]; simp only [stepM, Hd.out]; exact hown', hbox hg'⟩, by simp [RowKit.intOf]; omega⟩
        · have hqr : qn = r.len := by omega
          have hfull : r.ws.take qn = r.ws := List.take_of_length_le (by rw [hri.len]; omega)
          have Hfull := Lib.hid hfull
          clear hfull hri
          go_wp2_with fail
          refine ⟨⟨t + 1, by omega, by go_num, ?_, Hbi.out⟩, by simp [RowKit.intOf]; omega⟩
          have h1 := Hmi.out
          rw [Hfull.out] at h1
          rw [foldM_succ Hx.out]
          exact h1
    · obtain rfl : t = n := by omega
      clear hr
      go_wp2_with fail
      go_ret2
      exact ⟨w1.heap.size, rfl, hs1, Hm.out, Hbw.out⟩
theorem values_any (A : Option Addr) (len cap : Nat) (rs : List RTx) (i : Int) (w : World) (hw : TxsAt w w.heap.size A len rs) (hl : len ≤ 4398046511104) (hc : len ≤ cap) :
    Calls Try.prog 49 #[.slice A len cap, .int .i64 i] w fun e w' => ∃ v, e = .returned (.tuple #[v, .int .i64 (scanErr rs i)]) ∧ (scanErr rs i = 0 → ∃ b, v = .map (some b) ∧ w.heap.size ≤ b ∧ SM w' b (foldM rs i.toNat)) ∧ (scanErr rs i ≠ 0 → v = .map none) ∧ Below w.heap.size w w' := by
  have hlen := hw.1.len
  by_cases he : logErr rs 1 = 0
  · by_cases ha : i < 0 ∨ (len : Int) < i
    · have h1 : scanErr rs i = 1 := by unfold scanErr; rw [if_neg (by simpa using he), if_neg (by simp only [argB, Bool.and_eq_true, decide_eq_true_eq]; omega)]
      rw [h1]
      refine (values_arg A len cap rs i w hw hl he ha).mono ?_
      rintro e w' ⟨rfl, hb⟩
      exact ⟨_, rfl, (fun h => by cases h), fun _ => rfl, hb⟩
    · have h1 : scanErr rs i = 0 := by unfold scanErr; rw [if_neg (by simpa using he), if_pos (by simp only [argB, Bool.and_eq_true, decide_eq_true_eq]; omega)]
      rw [h1]
      obtain ⟨n, rfl⟩ : ∃ n : Nat, i = n := ⟨i.toNat, by omega⟩
      refine (values_good A len cap rs n w hw hl hc he (by omega)).mono ?_
      rintro e w' ⟨b, rfl, h2, h3, hb⟩
      exact ⟨_, rfl, fun _ => ⟨b, rfl, h2, by simpa using h3⟩, fun h => absurd rfl h, hb⟩
  · have h1 : scanErr rs i = logErr rs 1 := by unfold scanErr; rw [if_pos he]
    rw [h1]
    refine (values_err A len cap rs i w hw hl he).mono ?_
    rintro e w' ⟨rfl, hb⟩
    exact ⟨_, rfl, fun h => absurd h he, fun _ => rfl, hb⟩
end Go.Proofs.Ytdcnaieieggclaa

/- The library's contracts on sorted keys, laid at this seat by the shelf's own tool (lay-plain.mjs). -/
namespace Go.Proofs.Ytdcnaieieggclaa
open Go.RowKit
set_option linter.unusedVariables false
set_option linter.unusedSimpArgs false

open Go.Shelf
def layKS_ren : Go.Shelf.Ren := ⟨fun | 7 => 55 | 10 => 75 | n => n, fun | 23 => 80 | 26 => 9 | 3 => 9 | 28 => 90 | 0 => 0 | 27 => 89 | 33 => 83 | 4 => 4 | n => n, fun | n => n⟩
theorem layKS : Go.Proofs.SlLaysZ.n7 Try.prog layKS_ren := {
  mixed := by kernel_rfl
  f7 := ⟨Try.f55.name, by decide, Try.func55.trans (congrArg some (by kernel_rfl))⟩
  f10 := ⟨Try.f75.name, by decide, Try.func75.trans (congrArg some (by kernel_rfl))⟩
  t0 := Try.underlying0
  a0 := Try.isAgg0
  z0 := Try.sizeOf0
  v0 := Try.zeroValue0
  t4 := Try.underlying4
  a4 := Try.isAgg4
  z4 := Try.sizeOf4
  v4 := Try.zeroValue4
  t23 := Try.underlying80
  a23 := Try.isAgg80
  z23 := Try.sizeOf80
  v23 := Try.zeroValue80
  t26 := Try.underlying9
  a26 := Try.isAgg9
  z26 := Try.sizeOf9
  v26 := Try.zeroValue9
  t27 := Try.underlying89
  a27 := Try.isAgg89
  z27 := Try.sizeOf89
  v27 := Try.zeroValue89
  t28 := Try.underlying90
  a28 := Try.isAgg90
  z28 := Try.sizeOf90
  v28 := Try.zeroValue90
  t33 := Try.underlying83
  a33 := Try.isAgg83
  z33 := Try.sizeOf83
  v33 := Try.zeroValue83 }
def layS_string_ren : Go.Shelf.Ren := ⟨fun | 6 => 54 | 8 => 73 | 9 => 74 | 11 => 83 | 13 => 80 | 12 => 84 | 23 => 95 | 24 => 96 | 14 => 98 | 15 => 99 | 16 => 100 | 17 => 101 | 18 => 102 | 19 => 103 | 20 => 104 | 21 => 105 | 22 => 106 | 25 => 113 | 26 => 108 | 27 => 109 | 28 => 114 | 29 => 115 | 30 => 116 | 31 => 118 | n => n, fun | 26 => 9 | 28 => 90 | 24 => 70 | 0 => 0 | 3 => 3 | 37 => 120 | 48 => 133 | 50 => 135 | 4 => 4 | 40 => 126 | 39 => 125 | 45 => 86 | 5 => 5 | 9 => 9 | 51 => 142 | 55 => 146 | 57 => 150 | 58 => 151 | 33 => 83 | n => n, fun | n => n⟩
theorem layS_string : Go.Proofs.SlLaysZ.n6 Try.prog layS_string_ren := {
  mixed := by kernel_rfl
  f6 := ⟨Try.f54.name, by decide, Try.func54.trans (congrArg some (by kernel_rfl))⟩
  f8 := ⟨Try.f73.name, by decide, Try.func73.trans (congrArg some (by kernel_rfl))⟩
  f11 := ⟨Try.f83.name, by decide, Try.func83.trans (congrArg some (by kernel_rfl))⟩
  t0 := Try.underlying0
  a0 := Try.isAgg0
  z0 := Try.sizeOf0
  v0 := Try.zeroValue0
  t24 := Try.underlying70
  a24 := Try.isAgg70
  z24 := Try.sizeOf70
  v24 := Try.zeroValue70
  t26 := Try.underlying9
  a26 := Try.isAgg9
  z26 := Try.sizeOf9
  v26 := Try.zeroValue9
  t28 := Try.underlying90
  a28 := Try.isAgg90
  z28 := Try.sizeOf90
  v28 := Try.zeroValue90
  i26 := by kernel_rfl }
def layT_string_ren : Go.Shelf.Ren := ⟨fun | 6 => 74 | 8 => 80 | 9 => 84 | 19 => 95 | 20 => 96 | 21 => 98 | 22 => 99 | 23 => 100 | 24 => 101 | 25 => 102 | 26 => 103 | 27 => 104 | 28 => 105 | 29 => 106 | 36 => 113 | 31 => 108 | 32 => 109 | 37 => 114 | 38 => 115 | 39 => 116 | 41 => 118 | n => n, fun | 27 => 70 | 29 => 9 | 3 => 3 | 32 => 120 | 26 => 70 | 0 => 0 | 44 => 133 | 46 => 135 | 4 => 4 | 36 => 126 | 35 => 125 | 41 => 86 | 5 => 5 | 9 => 9 | 53 => 142 | 57 => 146 | 63 => 150 | 64 => 151 | n => n, fun | n => n⟩
theorem layT_string : Go.Proofs.SlLaysM.n6 Try.prog layT_string_ren := {
  mixed := by kernel_rfl
  f6 := ⟨Try.f74.name, by decide, Try.func74.trans (congrArg some (by kernel_rfl))⟩
  f8 := Try.func80.trans (congrArg some (by kernel_rfl))
  f9 := ⟨Try.f84.name, by decide, Try.func84.trans (congrArg some (by kernel_rfl))⟩
  f19 := Try.func95.trans (congrArg some (by kernel_rfl))
  f20 := Try.func96.trans (congrArg some (by kernel_rfl))
  f21 := ⟨Try.f98.name, by decide, Try.func98.trans (congrArg some (by kernel_rfl))⟩
  f22 := ⟨Try.f99.name, by decide, Try.func99.trans (congrArg some (by kernel_rfl))⟩
  f23 := ⟨Try.f100.name, by decide, Try.func100.trans (congrArg some (by kernel_rfl))⟩
  f24 := ⟨Try.f101.name, by decide, Try.func101.trans (congrArg some (by kernel_rfl))⟩
  f25 := ⟨Try.f102.name, by decide, Try.func102.trans (congrArg some (by kernel_rfl))⟩
  f26 := ⟨Try.f103.name, by decide, Try.func103.trans (congrArg some (by kernel_rfl))⟩
  f27 := ⟨Try.f104.name, by decide, Try.func104.trans (congrArg some (by kernel_rfl))⟩
  f28 := ⟨Try.f105.name, by decide, Try.func105.trans (congrArg some (by kernel_rfl))⟩
  f29 := ⟨Try.f106.name, by decide, Try.func106.trans (congrArg some (by kernel_rfl))⟩
  f31 := Try.func108.trans (congrArg some (by kernel_rfl))
  f32 := Try.func109.trans (congrArg some (by kernel_rfl))
  f36 := ⟨Try.f113.name, by decide, Try.func113.trans (congrArg some (by kernel_rfl))⟩
  f37 := ⟨Try.f114.name, by decide, Try.func114.trans (congrArg some (by kernel_rfl))⟩
  f38 := ⟨Try.f115.name, by decide, Try.func115.trans (congrArg some (by kernel_rfl))⟩
  f39 := ⟨Try.f116.name, by decide, Try.func116.trans (congrArg some (by kernel_rfl))⟩
  f41 := ⟨Try.f118.name, by decide, Try.func118.trans (congrArg some (by kernel_rfl))⟩
  t0 := Try.underlying0
  a0 := Try.isAgg0
  z0 := Try.sizeOf0
  v0 := Try.zeroValue0
  t3 := Try.underlying3
  a3 := Try.isAgg3
  z3 := Try.sizeOf3
  v3 := Try.zeroValue3
  t4 := Try.underlying4
  a4 := Try.isAgg4
  z4 := Try.sizeOf4
  v4 := Try.zeroValue4
  t5 := Try.underlying5
  a5 := Try.isAgg5
  z5 := Try.sizeOf5
  v5 := Try.zeroValue5
  t9 := Try.underlying9
  a9 := Try.isAgg9
  z9 := Try.sizeOf9
  v9 := Try.zeroValue9
  t26 := Try.underlying70
  a26 := Try.isAgg70
  z26 := Try.sizeOf70
  v26 := Try.zeroValue70
  t27 := Try.underlying70
  a27 := Try.isAgg70
  z27 := Try.sizeOf70
  v27 := Try.zeroValue70
  t29 := Try.underlying9
  a29 := Try.isAgg9
  z29 := Try.sizeOf9
  v29 := Try.zeroValue9
  t32 := Try.underlying120
  a32 := Try.isAgg120
  z32 := Try.sizeOf120
  v32 := Try.zeroValue120
  t35 := Try.underlying125
  a35 := Try.isAgg125
  z35 := Try.sizeOf125
  v35 := Try.zeroValue125
  t36 := Try.underlying126
  a36 := Try.isAgg126
  z36 := Try.sizeOf126
  v36 := Try.zeroValue126
  t41 := Try.underlying86
  a41 := Try.isAgg86
  z41 := Try.sizeOf86
  v41 := Try.zeroValue86
  t44 := Try.underlying133
  a44 := Try.isAgg133
  z44 := Try.sizeOf133
  v44 := Try.zeroValue133
  t46 := Try.underlying135
  a46 := Try.isAgg135
  z46 := Try.sizeOf135
  v46 := Try.zeroValue135
  t53 := Try.underlying142
  a53 := Try.isAgg142
  z53 := Try.sizeOf142
  v53 := Try.zeroValue142
  t57 := Try.underlying146
  a57 := Try.isAgg146
  z57 := Try.sizeOf146
  v57 := Try.zeroValue146
  t63 := Try.underlying150
  a63 := Try.isAgg150
  z63 := Try.sizeOf150
  v63 := Try.zeroValue150
  t64 := Try.underlying151
  a64 := Try.isAgg151
  z64 := Try.sizeOf151
  v64 := Try.zeroValue151 }
def layKI_ren : Go.Shelf.Ren := ⟨fun | 7 => 65 | 10 => 78 | n => n, fun | 23 => 100 | 26 => 3 | 3 => 3 | 28 => 106 | 0 => 0 | 27 => 105 | 33 => 117 | 4 => 4 | n => n, fun | n => n⟩
theorem layKI : Go.Proofs.SlLaysZI.n7 Try.prog layKI_ren := {
  mixed := by kernel_rfl
  f7 := ⟨Try.f65.name, by decide, Try.func65.trans (congrArg some (by kernel_rfl))⟩
  f10 := ⟨Try.f78.name, by decide, Try.func78.trans (congrArg some (by kernel_rfl))⟩
  t0 := Try.underlying0
  a0 := Try.isAgg0
  z0 := Try.sizeOf0
  v0 := Try.zeroValue0
  t4 := Try.underlying4
  a4 := Try.isAgg4
  z4 := Try.sizeOf4
  v4 := Try.zeroValue4
  t23 := Try.underlying100
  a23 := Try.isAgg100
  z23 := Try.sizeOf100
  v23 := Try.zeroValue100
  t26 := Try.underlying3
  a26 := Try.isAgg3
  z26 := Try.sizeOf3
  v26 := Try.zeroValue3
  t27 := Try.underlying105
  a27 := Try.isAgg105
  z27 := Try.sizeOf105
  v27 := Try.zeroValue105
  t28 := Try.underlying106
  a28 := Try.isAgg106
  z28 := Try.sizeOf106
  v28 := Try.zeroValue106
  t33 := Try.underlying117
  a33 := Try.isAgg117
  z33 := Try.sizeOf117
  v33 := Try.zeroValue117 }
def layS_int_ren : Go.Shelf.Ren := ⟨fun | 6 => 64 | 8 => 77 | 9 => 66 | 11 => 85 | 13 => 80 | 12 => 79 | 23 => 95 | 24 => 96 | 14 => 86 | 15 => 87 | 16 => 88 | 17 => 89 | 18 => 90 | 19 => 91 | 20 => 92 | 21 => 93 | 22 => 94 | 25 => 107 | 26 => 108 | 27 => 109 | 28 => 110 | 29 => 111 | 30 => 112 | 31 => 117 | n => n, fun | 26 => 3 | 28 => 106 | 24 => 62 | 0 => 0 | 3 => 3 | 37 => 120 | 48 => 133 | 50 => 135 | 4 => 4 | 40 => 126 | 39 => 125 | 45 => 86 | 5 => 5 | 9 => 9 | 51 => 142 | 55 => 146 | 57 => 150 | 58 => 151 | 33 => 117 | n => n, fun | n => n⟩
theorem layS_int : Go.Proofs.SlLaysZI.n6 Try.prog layS_int_ren := {
  mixed := by kernel_rfl
  f6 := ⟨Try.f64.name, by decide, Try.func64.trans (congrArg some (by kernel_rfl))⟩
  f8 := ⟨Try.f77.name, by decide, Try.func77.trans (congrArg some (by kernel_rfl))⟩
  f11 := ⟨Try.f85.name, by decide, Try.func85.trans (congrArg some (by kernel_rfl))⟩
  t0 := Try.underlying0
  a0 := Try.isAgg0
  z0 := Try.sizeOf0
  v0 := Try.zeroValue0
  t24 := Try.underlying62
  a24 := Try.isAgg62
  z24 := Try.sizeOf62
  v24 := Try.zeroValue62
  t26 := Try.underlying3
  a26 := Try.isAgg3
  z26 := Try.sizeOf3
  v26 := Try.zeroValue3
  t28 := Try.underlying106
  a28 := Try.isAgg106
  z28 := Try.sizeOf106
  v28 := Try.zeroValue106
  i26 := by kernel_rfl }
def layT_int_ren : Go.Shelf.Ren := ⟨fun | 5 => 66 | 8 => 80 | 7 => 79 | 19 => 95 | 20 => 96 | 10 => 86 | 11 => 87 | 12 => 88 | 13 => 89 | 14 => 90 | 15 => 91 | 16 => 92 | 17 => 93 | 18 => 94 | 30 => 107 | 31 => 108 | 32 => 109 | 33 => 110 | 34 => 111 | 35 => 112 | 40 => 117 | n => n, fun | 23 => 62 | 25 => 3 | 3 => 3 | 32 => 120 | 22 => 62 | 0 => 0 | 44 => 133 | 46 => 135 | 4 => 4 | 36 => 126 | 35 => 125 | 41 => 86 | 5 => 5 | 9 => 9 | 53 => 142 | 57 => 146 | 63 => 150 | 64 => 151 | n => n, fun | n => n⟩
theorem layT_int : Go.Proofs.SlLaysM.n5 Try.prog layT_int_ren := {
  mixed := by kernel_rfl
  f5 := ⟨Try.f66.name, by decide, Try.func66.trans (congrArg some (by kernel_rfl))⟩
  f7 := ⟨Try.f79.name, by decide, Try.func79.trans (congrArg some (by kernel_rfl))⟩
  f8 := Try.func80.trans (congrArg some (by kernel_rfl))
  f10 := ⟨Try.f86.name, by decide, Try.func86.trans (congrArg some (by kernel_rfl))⟩
  f11 := ⟨Try.f87.name, by decide, Try.func87.trans (congrArg some (by kernel_rfl))⟩
  f12 := ⟨Try.f88.name, by decide, Try.func88.trans (congrArg some (by kernel_rfl))⟩
  f13 := ⟨Try.f89.name, by decide, Try.func89.trans (congrArg some (by kernel_rfl))⟩
  f14 := ⟨Try.f90.name, by decide, Try.func90.trans (congrArg some (by kernel_rfl))⟩
  f15 := ⟨Try.f91.name, by decide, Try.func91.trans (congrArg some (by kernel_rfl))⟩
  f16 := ⟨Try.f92.name, by decide, Try.func92.trans (congrArg some (by kernel_rfl))⟩
  f17 := ⟨Try.f93.name, by decide, Try.func93.trans (congrArg some (by kernel_rfl))⟩
  f18 := ⟨Try.f94.name, by decide, Try.func94.trans (congrArg some (by kernel_rfl))⟩
  f19 := Try.func95.trans (congrArg some (by kernel_rfl))
  f20 := Try.func96.trans (congrArg some (by kernel_rfl))
  f30 := ⟨Try.f107.name, by decide, Try.func107.trans (congrArg some (by kernel_rfl))⟩
  f31 := Try.func108.trans (congrArg some (by kernel_rfl))
  f32 := Try.func109.trans (congrArg some (by kernel_rfl))
  f33 := ⟨Try.f110.name, by decide, Try.func110.trans (congrArg some (by kernel_rfl))⟩
  f34 := ⟨Try.f111.name, by decide, Try.func111.trans (congrArg some (by kernel_rfl))⟩
  f35 := ⟨Try.f112.name, by decide, Try.func112.trans (congrArg some (by kernel_rfl))⟩
  f40 := ⟨Try.f117.name, by decide, Try.func117.trans (congrArg some (by kernel_rfl))⟩
  t0 := Try.underlying0
  a0 := Try.isAgg0
  z0 := Try.sizeOf0
  v0 := Try.zeroValue0
  t3 := Try.underlying3
  a3 := Try.isAgg3
  z3 := Try.sizeOf3
  v3 := Try.zeroValue3
  t4 := Try.underlying4
  a4 := Try.isAgg4
  z4 := Try.sizeOf4
  v4 := Try.zeroValue4
  t5 := Try.underlying5
  a5 := Try.isAgg5
  z5 := Try.sizeOf5
  v5 := Try.zeroValue5
  t9 := Try.underlying9
  a9 := Try.isAgg9
  z9 := Try.sizeOf9
  v9 := Try.zeroValue9
  t22 := Try.underlying62
  a22 := Try.isAgg62
  z22 := Try.sizeOf62
  v22 := Try.zeroValue62
  t23 := Try.underlying62
  a23 := Try.isAgg62
  z23 := Try.sizeOf62
  v23 := Try.zeroValue62
  t25 := Try.underlying3
  a25 := Try.isAgg3
  z25 := Try.sizeOf3
  v25 := Try.zeroValue3
  t32 := Try.underlying120
  a32 := Try.isAgg120
  z32 := Try.sizeOf120
  v32 := Try.zeroValue120
  t35 := Try.underlying125
  a35 := Try.isAgg125
  z35 := Try.sizeOf125
  v35 := Try.zeroValue125
  t36 := Try.underlying126
  a36 := Try.isAgg126
  z36 := Try.sizeOf126
  v36 := Try.zeroValue126
  t41 := Try.underlying86
  a41 := Try.isAgg86
  z41 := Try.sizeOf86
  v41 := Try.zeroValue86
  t44 := Try.underlying133
  a44 := Try.isAgg133
  z44 := Try.sizeOf133
  v44 := Try.zeroValue133
  t46 := Try.underlying135
  a46 := Try.isAgg135
  z46 := Try.sizeOf135
  v46 := Try.zeroValue135
  t53 := Try.underlying142
  a53 := Try.isAgg142
  z53 := Try.sizeOf142
  v53 := Try.zeroValue142
  t57 := Try.underlying146
  a57 := Try.isAgg146
  z57 := Try.sizeOf146
  v57 := Try.zeroValue146
  t63 := Try.underlying150
  a63 := Try.isAgg150
  z63 := Try.sizeOf150
  v63 := Try.zeroValue150
  t64 := Try.underlying151
  a64 := Try.isAgg151
  z64 := Try.sizeOf151
  v64 := Try.zeroValue151 }
end Go.Proofs.Ytdcnaieieggclaa

/- slices.Sorted(maps.Keys(m)) of a map that the walk keeps: the library's contracts, laid at this seat, in the words of this seat's maps. -/
namespace Go.Proofs.Ytdcnaieieggclaa
open Go.RowKit
set_option linter.unusedVariables false
set_option linter.unusedSimpArgs false

open Go.Maps Go.Sort Go.Shelf
theorem enc_str (l : List UInt8) : encStr l = Value.string ⟨l.toArray⟩ := rfl
theorem sortsS_ (m : Nat) : AnyZ.SortsIn Try.prog layS_string_ren Fence.wide m :=
  ⟨fun blk off cap ss W hH hblk hsz => callsIn_wide.2 (AnyM.slices_Sort_string layT_string blk off cap ss W hH hblk hsz),
   fun p cap W => callsIn_wide.2 (AnyM.slices_Sort_string_none layT_string p cap W)⟩
theorem keysS_any (mb : Option Nat) (W : World) : Calls Try.prog 55 #[.map mb] W fun e w' => e = .returned (.func (.func 75) #[] #[.pointer (some ⟨W.heap.size, 0, none⟩)]) ∧ w' = W.alloc (.cells #[.map mb] 80) :=
  (callsIn_wide (n := 5)).1 (AnyZ.keys_in layKS Fence.wide 5 trivial rfl mb W)
set_option maxHeartbeats 1000000 in
theorem sortedS_any {V : Type} {ν : V → Value} (b : Nat) (m : List (ByteArray × V)) (w : World) (hown : OwnM Value.string ν w b m) (hn : m.length ≤ 8796093022207) (hs : ∀ p ∈ m, p.1.size ≤ maxLen) :
    Calls Try.prog 54 #[.func (.func 75) #[] #[.pointer (some ⟨w.heap.size, 0, none⟩)]] (w.alloc (.cells #[.map (some b)] 80)) fun e w' => ∃ v, e = .returned v ∧
      w'.ownsRow w.heap.size 9 1 v m.length ((sortedK m).map Value.string) ∧ Below w.heap.size w w' := by
  obtain ⟨D, hD, hperm, hsize⟩ := ownM_strs (P := Try.prog) (kt := 9) Try.underlying9 hown (by simp only [maxLen]; omega) hs
  have hbl := hD.lt
  have hseq : SeqGives Fence.wide 2 Try.prog 75 #[.pointer (some ⟨w.heap.size, 0, none⟩)] encStr (fun ss => ss.Perm (strKeys D)) (Maps.size D) (w.alloc (.cells #[.map (some b)] 80)) :=
    AnyZ.keys_gives (ρ := layKS_ren) { layKS with } Fence.wide _ trivial rfl (by omega) w.heap.size b m.length D _ (by simp) (by simp) (by
      obtain ⟨es, clock, hb, Ft, hs, hD⟩ := hD
      exact ⟨es, clock, (Below.heap_alloc _ _ b hbl).trans hb, Ft, hs, hD⟩)
  have hc := AnyZ.sorted_in layS_string Fence.wide 5 trivial trivial trivial trivial rfl (by omega) (sortsS_ _) (enters_of Try.func74 (by kernel_rfl) rfl) 75 #[.pointer (some ⟨w.heap.size, 0, none⟩)] trivial (enters_of Try.func75 (by kernel_rfl) rfl) _ _ (by rw [hsize]; simp only [maxLen]; omega) (by rw [hsize]; omega) _ hseq
  refine ((callsIn_wide (n := 5)).1 hc).mono ?_
  rintro e w' ⟨v, ss, rfl, hS, hrow, -, hb⟩
  have hS2 : ss.Perm (m.map fun p => p.1.data.toList) := hS.trans hperm
  have hl : ss.length = m.length := by rw [hS2.length_eq, List.length_map]
  refine ⟨v, rfl, ?_, ((Below.refl _ w).alloc (Nat.le_refl _) _).trans (hb.mono (by simp))⟩
  rw [← sortedK_perm hS2, List.map_map, ← hl]
  exact ownsRow_base_a hrow (by simp)
/-! ### keys that are numbers -/
theorem sortsI_ (m : Nat) : AnyZI.SortsIn Try.prog layS_int_ren Fence.wide m :=
  ⟨fun blk off cap ss W hH hblk hsz => callsIn_wide.2 (AnyM.slices_Sort_int layT_int blk off cap ss W hH hblk hsz),
   fun p cap W => callsIn_wide.2 (AnyM.slices_Sort_int_none layT_int p cap W)⟩
def sortI (l : List Int) : List Int := l.mergeSort fun x y => decide (x ≤ y)
theorem keysI_any (mb : Option Nat) (W : World) : Calls Try.prog 65 #[.map mb] W fun e w' => e = .returned (.func (.func 78) #[] #[.pointer (some ⟨W.heap.size, 0, none⟩)]) ∧ w' = W.alloc (.cells #[.map mb] 100) :=
  (callsIn_wide (n := 5)).1 (AnyZI.keys_in layKI Fence.wide 5 trivial rfl mb W)
theorem sortI_perm {l l' : List Int} (h : l.Perm l') : sortI l = sortI l' := by
  have tr : ∀ a b c : Int, decide (a ≤ b) = true → decide (b ≤ c) = true → decide (a ≤ c) = true := fun a b c h1 h2 => by simp only [decide_eq_true_eq] at *; omega
  have to : ∀ a b : Int, (decide (a ≤ b) || decide (b ≤ a)) = true := fun a b => by simp only [Bool.or_eq_true, decide_eq_true_eq]; omega
  refine List.Perm.eq_of_pairwise (le := fun a b => decide (a ≤ b) = true) (fun a b _ _ h1 h2 => by simp only [decide_eq_true_eq] at *; omega) (List.pairwise_mergeSort tr to l) (List.pairwise_mergeSort tr to l') ?_
  exact (List.mergeSort_perm _ _).trans (h.trans (List.mergeSort_perm _ _).symm)
set_option maxHeartbeats 1000000 in
theorem sortedI_any {V : Type} {ν : V → Value} (b : Nat) (m : List (Int × V)) (w : World) (hown : OwnM (Value.int .i64) ν w b m) (hn : m.length ≤ 8796093022207) (hs : ∀ p ∈ m, (Lit.int .i64 p.1).wf = true) :
    Calls Try.prog 64 #[.func (.func 78) #[] #[.pointer (some ⟨w.heap.size, 0, none⟩)]] (w.alloc (.cells #[.map (some b)] 100)) fun e w' => ∃ v, e = .returned v ∧
      w'.ownsRow w.heap.size 3 1 v m.length ((sortI (m.map (·.1))).map (Value.int .i64)) ∧ Below w.heap.size w w' := by
  obtain ⟨D, hD, hperm, hsize⟩ := ownM_ints (P := Try.prog) (kt := 3) Try.underlying3 hown (by simp only [maxLen]; omega) hs
  have hbl := hD.lt
  have hseq : SeqGives Fence.wide 2 Try.prog 78 #[.pointer (some ⟨w.heap.size, 0, none⟩)] encZ (fun ss => ss.Perm (intKeys D)) (Maps.size D) (w.alloc (.cells #[.map (some b)] 100)) :=
    AnyZI.keys_gives (ρ := layKI_ren) { layKI with } Fence.wide _ trivial rfl (by omega) w.heap.size b m.length D _ (by simp) (by simp) (by
      obtain ⟨es, clock, hb, Ft, hs, hD⟩ := hD
      exact ⟨es, clock, (Below.heap_alloc _ _ b hbl).trans hb, Ft, hs, hD⟩)
  have hc := AnyZI.sorted_in layS_int Fence.wide 5 trivial trivial trivial trivial rfl (by omega) (sortsI_ _) (enters_of Try.func66 (by kernel_rfl) rfl) 78 #[.pointer (some ⟨w.heap.size, 0, none⟩)] trivial (enters_of Try.func78 (by kernel_rfl) rfl) _ _ (by rw [hsize]; simp only [maxLen]; omega) (by rw [hsize]; omega) _ hseq
  refine ((callsIn_wide (n := 5)).1 hc).mono ?_
  rintro e w' ⟨v, ss, rfl, hS, hrow, -, hb⟩
  have hS2 : ss.Perm (m.map fun p => p.1) := hS.trans hperm
  have hl : ss.length = m.length := by rw [hS2.length_eq, List.length_map]
  refine ⟨v, rfl, ?_, ((Below.refl _ w).alloc (Nat.le_refl _) _).trans (hb.mono (by simp))⟩
  rw [← sortI_perm hS2, ← hl]
  exact ownsRow_base_a hrow (by simp)
end Go.Proofs.Ytdcnaieieggclaa


namespace Go.Proofs.Ytdcnaieieggclaa
open Go.RowKit
set_option linter.unusedVariables false
set_option linter.unusedSimpArgs false

open Go.Maps
theorem fget_any (A : Option Addr) (len cap : Nat) (rs : List RTx) (i : Int) (k : ByteArray) (w : World) (hw : TxsAt w w.heap.size A len rs) (hl : len ≤ 4398046511104) (hc : len ≤ cap) :
    Calls Try.prog 23 #[.slice A len cap, .int .i64 i, .string k] w fun e w' => e = .returned (.tuple #[.string ((getV rs i k).getD ⟨#[]⟩), .bool (getV rs i k).isSome, .int .i64 (getErr rs i k)]) ∧ Below w.heap.size w w' := by
  have hv := values_any A len cap rs i w hw hl hc
  by_cases hs : scanErr rs i = 0
  · rw [hs] at hv
    cases hk : keyB k
    · have h1 : getErr rs i k = 1 := by unfold getErr; rw [if_neg (by simpa using hs), if_neg (by rw [hk]; simp)]
      have h2 : getV rs i k = none := by unfold getV; rw [if_neg (by rw [h1]; decide)]
      rw [h1, h2]
      have Hk := Lib.hid hk
      clear hs h1 h2 hk
      go_enter Try.func23, Try.ntmps23
      go_wp2_with fail
      refine hv.mono ?_
      rintro e w1 ⟨v, rfl, -, -, hb1⟩
      have Hb1 := Lib.hid hb1
      clear hb1 hv
      have hmay : ∀ W, Calls Try.prog 50 #[.string k] W fun e w' => e = .returned (.bool false) ∧ W = w' := fun W => by have := fmay_any k W; rwa [Hk.out] at this
      go_wp2_with (go_at_call 50; refine (hmay _).mono ?_; rintro e w' ⟨rfl, rfl⟩)
      go_ret3
      exact ⟨rfl, Hb1.out⟩
    · have h1 : getErr rs i k = 0 := by unfold getErr; rw [if_neg (by simpa using hs), if_pos hk]
      have h2 : getV rs i k = mget (foldM rs i.toNat) k := by unfold getV; rw [if_pos h1]
      rw [h1, h2]
      have Hk := Lib.hid hk
      clear hs h1 h2 hk
      go_enter Try.func23, Try.ntmps23
      go_wp2_with fail
      refine hv.mono ?_
      rintro e w1 ⟨v, rfl, hg, -, hb1⟩
      obtain ⟨b, rfl, hbb, hm⟩ := hg (by trivial)
      have Hb1 := Lib.hid hb1
      clear hb1 hv hg
      have hmay : ∀ W, Calls Try.prog 50 #[.string k] W fun e w' => e = .returned (.bool true) ∧ W = w' := fun W => by have := fmay_any k W; rwa [Hk.out] at this
      go_wp2_with (first | (go_at_call 50; refine (hmay _).mono ?_; rintro e w' ⟨rfl, rfl⟩) | (at_lookup; refine wpList_lookup_ok_M (κ := Value.string) (ν := Value.string) (b := b) (m := foldM rs i.toNat) rfl _ _ rfl hm kstr Try.underlying80 zstr k rfl rfl ?_))
      go_ret3
      refine ⟨?_, Hb1.out⟩
      cases mget (foldM rs i.toNat) k <;> rfl
  · have h1 : getErr rs i k = scanErr rs i := by unfold getErr; rw [if_pos hs]
    have h2 : getV rs i k = none := by unfold getV; rw [if_neg (by rw [h1]; exact hs)]
    rw [h1, h2]
    have hne : (scanErr rs i == 0) = false := by simpa using hs
    have hne2 : (scanErr rs i != 0) = true := by simpa using hs
    clear hs h1 h2
    go_enter Try.func23, Try.ntmps23
    go_wp2_with fail
    refine hv.mono ?_
    rintro e w1 ⟨v, rfl, -, -, hb1⟩
    have Hb1 := Lib.hid hb1
    clear hb1 hv
    go_wp2_with fail
    go_ret3
    exact ⟨rfl, Hb1.out⟩
/-! ### scans -/
def Scell (k : ByteArray) : List Value := [.string k]
theorem len_s (xs : List ByteArray) : ∀ x ∈ xs, (Scell x).length = 1 := fun _ _ => rfl
theorem flat_s (xs : List ByteArray) : xs.flatMap Scell = xs.map Value.string := by
  induction xs with
  | nil => rfl
  | cons x r ih => rw [List.flatMap_cons, ih]; rfl
theorem info_ent : (Try.prog.info? 57).map (fun i => (i.zero, i.size, i.bytes)) = some (some (.agg #[.string ⟨#[]⟩, .string ⟨#[]⟩]), 2, 32) := by kernel_rfl
def EntsOwn (w : World) (base : Nat) (v : Value) (xs : List Ent) : Prop := w.ownsRow base 57 2 v xs.length (xs.flatMap Ent.cells)
theorem EntsOwn.nil (w : World) (base : Nat) : EntsOwn w base (.slice none 0 0) [] := ⟨rfl, Or.inl ⟨rfl, rfl⟩⟩
end Go.Proofs.Ytdcnaieieggclaa

namespace Go.Proofs.Ytdcnaieieggclaa
open Go.RowKit
set_option linter.unusedVariables false
set_option linter.unusedSimpArgs false

open Go.Maps
def pickE (m : KV) (key fin : ByteArray) (ks : List ByteArray) : List Ent := (ks.filter (inB key fin)).map fun k => ⟨k, (mget m k).getD ⟨#[]⟩⟩
theorem pick_all (m : KV) (key fin : ByteArray) : pickE m key fin (sortedK m) = (entsOf m).filter (fun e => inB key fin e.key) := by
  unfold pickE entsOf; rw [List.filter_map]; rfl
theorem pick_snoc {m : KV} {key fin : ByteArray} {ks : List ByteArray} {j : Nat} {k : ByteArray} (h : ks[j]? = some k) :
    pickE m key fin (ks.take (j + 1)) = pickE m key fin (ks.take j) ++ if inB key fin k = true then [⟨k, (mget m k).getD ⟨#[]⟩⟩] else [] := by
  unfold pickE; rw [List.take_add_one, h]; simp only [Option.toList_some, List.filter_append, List.map_append]
  congr 1
  by_cases hk : inB key fin k = true
  · rw [if_pos hk]; simp [hk]
  · rw [if_neg hk]; simp [hk]
theorem pick_len (m : KV) (key fin : ByteArray) (ks : List ByteArray) : (pickE m key fin ks).length ≤ ks.length := by
  unfold pickE; rw [List.length_map]; exact List.length_filter_le _ _
theorem in_split (key fin k : ByteArray) :
    (inB key fin k = true ∧ Op.bytesLess k.toList key.toList = false ∧ ((fin.toList = [] ∧ fin.toList.isEmpty = true) ∨ (¬ fin.toList = [] ∧ fin.toList.isEmpty = false ∧ Op.bytesLess k.toList fin.toList = true))) ∨
    (inB key fin k = false ∧ (Op.bytesLess k.toList key.toList = true ∨ (Op.bytesLess k.toList key.toList = false ∧ ¬ fin.toList = [] ∧ fin.toList.isEmpty = false ∧ Op.bytesLess k.toList fin.toList = false))) := by
  rw [less_eq, less_eq]
  have h := toList_nil fin
  unfold inB
  cases h1 : ltB k key
  · by_cases h2 : fin.size = 0
    · left; simp [h2, h.2 h2]
    · have h3 : ¬ fin.toList = [] := fun e => h2 (h.1 e)
      have h4 : fin.toList.isEmpty = false := by rw [← Bool.not_eq_true, List.isEmpty_iff]; exact h3
      cases h5 : ltB k fin
      · right; simp [h2, h3, h4]
      · left; simp [h3, h4]
  · right; simp
theorem EntsOwn.more {w : World} {base base' : Nat} {v : Value} {xs : List Ent} (h : EntsOwn w base v xs) (hb : base' ≤ base) : EntsOwn w base' v xs := ownsRow_base_a h hb
set_option maxHeartbeats 2000000 in
set_option maxRecDepth 8000 in
theorem fscan_good (A : Option Addr) (len cap : Nat) (rs : List RTx) (i : Int) (key fin : ByteArray) (w : World) (hw : TxsAt w w.heap.size A len rs) (hl : len ≤ 4398046511104) (hc : len ≤ cap) (hs : scanErr rs i = 0) :
    Calls Try.prog 25 #[.slice A len cap, .int .i64 i, .string key, .string fin] w fun e w' => ∃ v, e = .returned (.tuple #[v, .int .i64 0]) ∧ EntsOwn w' w.heap.size v ((foldE rs i.toNat).filter fun e => inB key fin e.key) ∧ Below w.heap.size w w' := by
  have hv := values_any A len cap rs i w hw hl hc
  rw [hs] at hv
  have hz3 := scanErr_zero hs
  have hlen := hw.1.len
  obtain ⟨M, hM⟩ : ∃ M, M = foldM rs i.toNat := ⟨_, rfl⟩
  have hMl : M.length ≤ 2097152 := by rw [hM]; exact len_foldM hz3.1 (by omega)
  have hMk : ∀ p ∈ M, p.1.size ≤ maxLen := fun p hp => by have := key_foldM hz3.1 (n := i.toNat) p (hM ▸ hp); unfold maxLen; omega
  have hall : (foldE rs i.toNat).filter (fun e => inB key fin e.key) = pickE M key fin (sortedK M) := by rw [pick_all, hM, ents_fold]
  rw [hall]
  rw [← hM] at hv
  have hKl : (sortedK M).length = M.length := len_sortedK M
  obtain ⟨K, hK⟩ : ∃ K, K = sortedK M := ⟨_, rfl⟩
  rw [← hK] at hKl ⊢
  have hKl2 : K.length ≤ 2097152 := by omega
  have HKl := Lib.hid hKl
  have HK := Lib.hid hK
  have HMk := Lib.hid hMk
  have Hz := Lib.hid hz3
  obtain ⟨i0, hi, hz0, hz1, hz2⟩ := info_parts info_ent
  clear hs hlen hM hMk hall hKl hK hz3
  go_enter Try.func25, Try.ntmps25
  go_wp2_with fail
  refine hv.mono ?_
  rintro e w1 ⟨v, rfl, hg, -, hb1⟩
  obtain ⟨b, rfl, hbb, hm⟩ := hg (by trivial)
  have Hb1 := Lib.hid hb1
  have hs1 := hb1.size
  have hbl := hm.lt
  clear hb1 hv hg
  go_wp2_with fail
  refine (keysS_any (some b) w1).mono ?_
  rintro e w2 ⟨rfl, rfl⟩
  go_wp2_with fail
  refine (sortedS_any b M w1 hm (by omega) HMk.out).mono ?_
  rintro e w2 ⟨v, rfl, hown, hb2⟩
  have hown2 : w2.ownsRow w1.heap.size 9 1 v K.length (K.flatMap Scell) := by rw [flat_s, HKl.out, HK.out]; exact hown
  obtain ⟨Ak, capk, rfl, hrow, -, hcapk⟩ := rowAt_own (len_s _) hown2
  have hm2 := hm.below hb2 hbl
  have Hb2 := Lib.hid (Hb1.out.trans (hb2.mono hs1))
  have hs2 := hb2.size
  clear hb2 hown hown2 hm
  go_wp2_with fail
  go_loopw [12, 28] (fun v n wr => ∃ j : Nat, j ≤ K.length ∧ n = .int .i64 j ∧ EntsOwn wr w2.heap.size v (pickE M key fin (K.take j)) ∧ Below w2.heap.size w2 wr) (fun _ n _ => K.length - (RowKit.intOf n).toNat)
  case atStart => exact ⟨0, by omega, rfl, EntsOwn.nil _ _, Below.refl _ _⟩
  case round =>
    obtain ⟨j, hj, rfl, how, hb⟩ := hrel
    have hr := hrow.below hb
    have hmr := hm2.below hb (by omega)
    have hsr := hb.size
    have Hb := Lib.hid hb
    have How := Lib.hid how
    clear hb how
    by_cases hlt : j < K.length
    · obtain ⟨bk, offk, k, rfl, hblk, hx, hxc⟩ := hr.at_ hlt
      have x0 := hxc 0 _ rfl
      simp only [Nat.mul_one, Nat.add_zero] at x0
      have Hx := Lib.hid hx
      clear hx hxc hr
      have hgrow : ∀ {w' : World} {u : Value}, EntsOwn wr w2.heap.size u (pickE M key fin (K.take j)) → True := fun _ => trivial
      rcases in_split key fin k with ⟨hin, h1, ⟨h2, h3⟩ | ⟨h2, h3, h4⟩⟩ | ⟨hin, h1 | ⟨h1, h2, h3, h4⟩⟩
      · have Hin := Lib.hid hin
        clear hin hgrow
        have hmd : SM (wr.drew) b M := hmr
        have How2 : wr.ownsRow w2.heap.size 57 2 _ (pickE M key fin (K.take j)).length _ := How.out
        have hple := pick_len M key fin (K.take j)
        have hpl2 : (K.take j).length ≤ j := List.length_take_le _ _
        go_wp2_with (first | (at_lookup; refine wpList_lookup_M (κ := Value.string) (ν := Value.string) (b := b) (m := M) rfl _ _ rfl hmr kstr Try.underlying80 zstr k rfl rfl ?_) | (at_builtin; refine wpList_append_own _ rfl _ _ 43 rfl w2.heap.size 57 i0 _ 2 32 Try.underlying43 hi hz0 hz1 hz2 rfl (by decide) _ _ _ rfl (How2.alloc _) ⟨wr.heap.size, 0, none⟩ 1 1 (Ent.cells ⟨k, (mget M k).getD ⟨#[]⟩⟩) rfl rfl (cells_new _ _ _) (one_ent _) (by simp only [maxLen]; omega) (by omega) (by simp; omega) ?_; intro v' w' hown' hg' hn'))
        refine ⟨⟨j + 1, by omega, by go_num, ?_, Hb.out.trans (below_grown_new How2 hg' (by omega))⟩, by simp [RowKit.intOf]; omega⟩
        rw [pick_snoc Hx.out, if_pos Hin.out]
        unfold EntsOwn
        rw [List.length_append, List.flatMap_append]
        simpa using hown'
      · have Hin := Lib.hid hin
        clear hin hgrow
        have hmd : SM (wr.drew) b M := hmr
        have How2 : wr.ownsRow w2.heap.size 57 2 _ (pickE M key fin (K.take j)).length _ := How.out
        have hple := pick_len M key fin (K.take j)
        have hpl2 : (K.take j).length ≤ j := List.length_take_le _ _
        go_wp2_with (first | (at_lookup; refine wpList_lookup_M (κ := Value.string) (ν := Value.string) (b := b) (m := M) rfl _ _ rfl hmr kstr Try.underlying80 zstr k rfl rfl ?_) | (at_builtin; refine wpList_append_own _ rfl _ _ 43 rfl w2.heap.size 57 i0 _ 2 32 Try.underlying43 hi hz0 hz1 hz2 rfl (by decide) _ _ _ rfl (How2.alloc _) ⟨wr.heap.size, 0, none⟩ 1 1 (Ent.cells ⟨k, (mget M k).getD ⟨#[]⟩⟩) rfl rfl (cells_new _ _ _) (one_ent _) (by simp only [maxLen]; omega) (by omega) (by simp; omega) ?_; intro v' w' hown' hg' hn'))
        refine ⟨⟨j + 1, by omega, by go_num, ?_, Hb.out.trans (below_grown_new How2 hg' (by omega))⟩, by simp [RowKit.intOf]; omega⟩
        rw [pick_snoc Hx.out, if_pos Hin.out]
        unfold EntsOwn
        rw [List.length_append, List.flatMap_append]
        simpa using hown'
      · have Hin := Lib.hid hin
        clear hin hgrow
        go_wp2_with fail
        exact ⟨⟨j + 1, by omega, by go_num, by rw [pick_snoc Hx.out, if_neg (by rw [Hin.out]; simp), List.append_nil]; exact How.out, Hb.out⟩, by simp [RowKit.intOf]; omega⟩
      · have Hin := Lib.hid hin
        clear hin hgrow
        go_wp2_with fail
        exact ⟨⟨j + 1, by omega, by go_num, by rw [pick_snoc Hx.out, if_neg (by rw [Hin.out]; simp), List.append_nil]; exact How.out, Hb.out⟩, by simp [RowKit.intOf]; omega⟩
    · obtain rfl : j = K.length := by omega
      have hfin := How.out
      rw [List.take_of_length_le (Nat.le_refl _)] at hfin
      have Hfin := Lib.hid hfin
      clear hfin hr
      go_wp2_with fail
      go_ret2
      exact ⟨_, rfl, EntsOwn.more Hfin.out (by omega), Hb2.out.trans (Hb.out.mono (by omega))⟩
theorem fscan_err (A : Option Addr) (len cap : Nat) (rs : List RTx) (i : Int) (key fin : ByteArray) (w : World) (hw : TxsAt w w.heap.size A len rs) (hl : len ≤ 4398046511104) (hc : len ≤ cap) (hs : scanErr rs i ≠ 0) :
    Calls Try.prog 25 #[.slice A len cap, .int .i64 i, .string key, .string fin] w fun e w' => e = .returned (.tuple #[.slice none 0 0, .int .i64 (scanErr rs i)]) ∧ Below w.heap.size w w' := by
  have hv := values_any A len cap rs i w hw hl hc
  have hne : (scanErr rs i == 0) = false := by simpa using hs
  have hne2 : (scanErr rs i != 0) = true := by simpa using hs
  have Hv := Lib.hid hv
  clear hs hv
  go_enter Try.func25, Try.ntmps25
  go_wp2_with fail
  refine Hv.out.mono ?_
  rintro e w1 ⟨v, rfl, -, -, hb1⟩
  have Hb1 := Lib.hid hb1
  clear hb1
  go_wp2_with fail
  go_ret2
  exact ⟨rfl, Hb1.out⟩
def ScanPost (w : World) (rs : List RTx) (i : Int) (key fin : ByteArray) (e : Ending) (w' : World) : Prop := ∃ v, e = .returned (.tuple #[v, .int .i64 (scanErr rs i)]) ∧ EntsOwn w' w.heap.size v (scanL rs i key fin) ∧ Below w.heap.size w w'
theorem fscan_any (A : Option Addr) (len cap : Nat) (rs : List RTx) (i : Int) (key fin : ByteArray) (w : World) (hw : TxsAt w w.heap.size A len rs) (hl : len ≤ 4398046511104) (hc : len ≤ cap) :
    Calls Try.prog 25 #[.slice A len cap, .int .i64 i, .string key, .string fin] w (ScanPost w rs i key fin) := by
  by_cases hs : scanErr rs i = 0
  · refine (fscan_good A len cap rs i key fin w hw hl hc hs).mono ?_
    rintro e w' ⟨v, rfl, h1, h2⟩
    exact ⟨v, by rw [hs], by unfold scanL; rw [if_pos hs]; exact h1, h2⟩
  · refine (fscan_err A len cap rs i key fin w hw hl hc hs).mono ?_
    rintro e w' ⟨rfl, h2⟩
    exact ⟨_, rfl, by unfold scanL; rw [if_neg hs]; exact EntsOwn.nil _ _, h2⟩
theorem fstore_any (A : Option Addr) (len cap : Nat) (rs : List RTx) (i : Int) (w : World) (hw : TxsAt w w.heap.size A len rs) (hl : len ≤ 4398046511104) (hc : len ≤ cap) :
    Calls Try.prog 21 #[.slice A len cap, .int .i64 i] w (ScanPost w rs i ⟨#[]⟩ ⟨#[]⟩) := by
  have Hc := Lib.hid (fscan_any A len cap rs i ⟨#[]⟩ ⟨#[]⟩ w hw hl hc)
  go_enter Try.func21, Try.ntmps21
  go_wp2_with fail
  refine Hc.out.mono ?_
  rintro e w1 ⟨v, rfl, h1, hb1⟩
  have H1 := Lib.hid h1
  have Hb1 := Lib.hid hb1
  clear h1 hb1
  go_wp2_with fail
  go_ret2
  exact ⟨v, rfl, H1.out, Hb1.out⟩
end Go.Proofs.Ytdcnaieieggclaa

namespace Go.Proofs.Ytdcnaieieggclaa
open Go.RowKit
set_option linter.unusedVariables false
set_option linter.unusedSimpArgs false

open Go.ChangeShapes Go.WideShapes Go.ChangeAt Go.Deep Go.Joins
theorem own : ownKnob Try.prog.godebug = none := by kernel_rfl
theorem laidOut : laidOutB Try.prog = true := by kernel_rfl
end Go.Proofs.Ytdcnaieieggclaa

/- Maps whose keys are structs or arrays: how they are found. -/
namespace Go.Proofs.Ytdcnaieieggclaa
open Go.RowKit
set_option linter.unusedVariables false
set_option linter.unusedSimpArgs false

open Go.Maps
abbrev I64 := {n : Int // (Lit.int .i64 n).wf = true}
def i64 (n : Int) (h : -9223372036854775808 ≤ n ∧ n ≤ 9223372036854775807) : I64 := ⟨n, WalkArith.wf_i64 h⟩
theorem types_succ : ∃ m, Try.prog.types.size = m + 1 := Nat.exists_eq_succ_of_ne_zero (Nat.pos_iff_ne_zero.1 (of_decide_eq_true (by kernel_rfl)))
theorem key_place (s : ByteArray) (n : I64) (hs : s.size ≤ maxLen) : ∃ l, keyOf Try.prog 95 (.agg #[.string s, .int .i64 n.1]) = some l := by
  obtain ⟨m, hm⟩ := types_succ
  have h1 : Try.prog.keyType 95 = true := by kernel_rfl
  have hc : Try.prog.cellsOf 95 = 2 := by kernel_rfl
  have hc1 : Try.prog.cellsOf 9 = 1 := by kernel_rfl
  have hc2 : Try.prog.cellsOf 3 = 1 := by kernel_rfl
  have h2 : (Value.agg #[.string s, .int .i64 n.1]).formed Try.prog 95 = true := by simp [Value.formed, Try.underlying95, hc]
  unfold keyOf
  rw [Try.underlying95]
  simp only [h1, h2, Bool.and_self, if_true, hm]
  simp [Value.cells, Program.keyLits, Try.underlying95, Try.underlying9, Try.underlying3, hc, hc1, hc2, hs, n.2]
theorem law_place : Go.Maps.Keyed Try.prog 95 := Keyed.of_law (deep_law_laid laidOut (m := 2) (by omega) (of_decide_eq_true (by kernel_rfl)) (by kernel_rfl) (by rw [Try.underlying95]))
def placeK (s : ByteArray) (n : I64) : Value := .agg #[.string s, .int .i64 n.1]
theorem kplace (s : ByteArray) (hs : s.size ≤ maxLen) : Keying Try.prog 95 (placeK s) :=
  keying_keyed law_place (fun a => key_place s a hs) (fun a b h => by
    simp only [placeK, Value.agg.injEq] at h
    have := congrArg Array.toList h
    simp at this
    exact Subtype.ext this)
theorem key_pair (a b : I64) : ∃ l, keyOf Try.prog 108 (.agg #[.int .i64 a.1, .int .i64 b.1]) = some l := by
  obtain ⟨m, hm⟩ := types_succ
  have h1 : Try.prog.keyType 108 = true := by kernel_rfl
  have hc : Try.prog.cellsOf 108 = 2 := by kernel_rfl
  have hc2 : Try.prog.cellsOf 3 = 1 := by kernel_rfl
  have h2 : (Value.agg #[.int .i64 a.1, .int .i64 b.1]).formed Try.prog 108 = true := by simp [Value.formed, Try.underlying108, hc]
  unfold keyOf
  rw [Try.underlying108]
  simp only [h1, h2, Bool.and_self, if_true, hm]
  simp [Value.cells, Program.keyLits, Try.underlying108, Try.underlying3, hc, hc2, a.2, b.2, List.range, List.range.loop]
theorem law_pair : Go.Maps.Keyed Try.prog 108 := Keyed.of_law (deep_law_laid laidOut (m := 2) (by omega) (of_decide_eq_true (by kernel_rfl)) (by kernel_rfl) (by rw [Try.underlying108]))
def pairK (p : I64 × I64) : Value := .agg #[.int .i64 p.1.1, .int .i64 p.2.1]
theorem kpair : Keying Try.prog 108 pairK :=
  keying_keyed law_pair (fun a => key_pair a.1 a.2) (fun a b h => by
    simp only [pairK, Value.agg.injEq] at h
    have := congrArg Array.toList h
    simp at this
    exact Prod.ext (Subtype.ext this.1) (Subtype.ext this.2))
theorem kint : Keying Try.prog 3 (Value.int .i64) := keying_int Try.underlying3
theorem zint (w : World) : (zeroValue 3).run Try.prog w = .ok (.int .i64 0) w := by kernel_rfl
end Go.Proofs.Ytdcnaieieggclaa

/- fold.Writer: what it answers. -/

namespace Go.Proofs.Ytdcnaieieggclaa
open Go.RowKit
set_option linter.unusedVariables false
set_option linter.unusedSimpArgs false

open Go.Maps
/-- slices.IndexFunc over writes, of a closure with one captured value. -/
theorem indexw_wrt (c : Value) (p : Wr → Bool) (A : Option Addr) (len cap : Nat) (ws : List Wr) (w : World) (hw : WsAt w w.heap.size A len ws) (hl : len ≤ 4398046511104)
    (hcall : ∀ (x : Wr) (W : World), Below w.heap.size w W → Calls Try.prog 58 #[.agg #[.string x.key, .string x.val, .bool x.drop], c] W fun e w' => e = .returned (.bool (p x)) ∧ Below W.heap.size W w') :
    Calls Try.prog 69 #[.slice A len cap, .func (.func 58) #[] #[c]] w (IdxEnd w (ws.any p)) := by
  have hlen := Lib.hid hw.len
  have Hcall := Lib.hid hcall
  clear hcall
  go_enter Try.func69, Try.ntmps69
  go_wp2_with fail
  go_loopw [8] (fun i wr => ∃ k : Nat, k ≤ len ∧ i = .int .i64 k ∧ (ws.take k).any p = false ∧ Below w.heap.size w wr) (fun i _ => len - (RowKit.intOf i).toNat)
  case atStart => exact ⟨0, Nat.zero_le _, rfl, rfl, Below.refl _ _⟩
  case round =>
    obtain ⟨k, hk, rfl, hany, hb⟩ := hrel
    have Hany := Lib.hid hany
    clear hany
    have hr := hw.below hb
    have Hb := Lib.hid hb
    have hs := hb.size
    clear hb
    by_cases hlt : k < len
    · obtain ⟨b, off, x, rfl, hbl, hx, x0, x1, x2⟩ := WsAt.cell3 hr hlt
      have Hx := Lib.hid hx
      clear hx
      go_wp2_with fail
      refine (Hcall.out x _ Hb.out).mono ?_
      rintro e w' ⟨rfl, hb'⟩
      cases hp : p x
      · have Hp := Lib.hid hp
        clear hp
        go_wp2_with fail
        exact ⟨⟨k + 1, by omega, by go_num, by rw [any_take_succ Hx.out, Hany.out, Hp.out]; rfl, Hb.out.trans (hb'.mono (by omega))⟩, by simp [RowKit.intOf]; omega⟩
      · have Hp := Lib.hid hp
        clear hp
        go_wp2_with fail
        go_ret
        refine ⟨k, rfl, by omega, ?_, Hb.out.trans (hb'.mono (by omega))⟩
        rw [any_of (p := p) Hx.out Hp.out]
        simp
    · have hkl : k = len := by omega
      go_wp2
      go_ret
      have h2 := Hany.out
      have h3 := hlen.out
      rw [List.take_of_length_le (by omega)] at h2
      exact ⟨-1, rfl, by omega, by rw [h2]; simp, Hb.out⟩
theorem containsw_wrt (c : Value) (p : Wr → Bool) (A : Option Addr) (len cap : Nat) (ws : List Wr) (w : World) (hw : WsAt w w.heap.size A len ws) (hl : len ≤ 4398046511104)
    (hcall : ∀ (x : Wr) (W : World), Below w.heap.size w W → Calls Try.prog 58 #[.agg #[.string x.key, .string x.val, .bool x.drop], c] W fun e w' => e = .returned (.bool (p x)) ∧ Below W.heap.size W w') :
    Calls Try.prog 43 #[.slice A len cap, .func (.func 58) #[] #[c]] w fun e w' => e = .returned (.bool (ws.any p)) ∧ Below w.heap.size w w' := by
  have hfin : ∀ (b : Bool) (w' : World), b = ws.any p → Below w.heap.size w w' → (Ending.returned (.bool b) = .returned (.bool (ws.any p)) ∧ Below w.heap.size w w') := fun b w' h h' => ⟨by rw [h], h'⟩
  have Hf := Lib.hid hfin
  have Hcall := Lib.hid hcall
  clear hfin hcall
  go_enter Try.func43, Try.ntmps43
  go_wp2_with (go_at_call 69; refine (indexw_wrt c p _ _ _ ws _ hw hl Hcall.out).mono ?_; rintro e w' ⟨r, rfl, hr1, hr2, hb'⟩; have Hr2 := Lib.hid hr2; clear hr2)
  go_ret
  exact Hf.out _ _ (by have := Hr2.out; simpa using this) hb'

theorem wrt_any (k : ByteArray) (g : Nat) (x : Wr) (w : World) (hg : w.cell? ⟨g, 0, none⟩ = some (.string k)) (hl : g < w.heap.size) :
    Calls Try.prog 58 #[.agg #[.string x.key, .string x.val, .bool x.drop], .pointer (some ⟨g, 0, none⟩)] w fun e w' => e = .returned (.bool (keyIs k x)) ∧ Below w.heap.size w w' := by
  have hfin : ∀ (b : Bool) (w' : World), b = keyIs k x → Below w.heap.size w w' → (Ending.returned (.bool b) = .returned (.bool (keyIs k x)) ∧ Below w.heap.size w w') := fun b w' h h' => ⟨by rw [h], h'⟩
  have Hf := Lib.hid hfin
  clear hfin
  go_enter Try.func58, Try.ntmps58
  go_wp2_with fail
  go_ret
  exact Hf.out _ _ rfl ((Below.refl _ _).alloc (Nat.le_refl _) _)
/-- What fold.Writer's map holds behind n rounds. -/
def wM (rs : List RTx) (k : ByteArray) : Nat → List (I64 × Int)
  | 0 => []
  | n + 1 => if h : n < 9223372036854775807 then mput (wM rs k n) (i64 ((n : Int) + 1) (by omega)) (lastN rs k n) else []
theorem wM_succ (rs : List RTx) (k : ByteArray) {n : Nat} (h : n < 9223372036854775807) : wM rs k (n + 1) = mput (wM rs k n) (i64 ((n : Int) + 1) (by omega)) (lastN rs k n) := by rw [wM, dif_pos h]
theorem writer_err (A : Option Addr) (len cap : Nat) (rs : List RTx) (i : Int) (k : ByteArray) (w : World) (hw : TxsAt w w.heap.size A len rs) (hl : len ≤ 4398046511104) (he : logErr rs 1 ≠ 0) :
    Calls Try.prog 27 #[.slice A len cap, .int .i64 i, .string k] w fun e w' => e = .returned (.tuple #[.int .i64 0, .int .i64 (logErr rs 1)]) ∧ Below w.heap.size w w' := by
  have hne : (logErr rs 1 != 0) = true := by simpa using he
  have hw2 : ∀ o, TxsAt (w.alloc o) (w.alloc o).heap.size A len rs := fun o => (hw.below ((Below.refl _ _).alloc (Nat.le_refl _) _)).more (by simp)
  go_enter Try.func27, Try.ntmps27
  go_wp2_with fail
  refine (foldcheck_any A len cap rs _ (hw2 _) hl).mono ?_
  rintro e w1 ⟨rfl, hb1⟩
  go_wp2_with fail
  go_ret2
  exact ⟨rfl, below_box (hb1.mono (by simp))⟩
theorem writer_arg (A : Option Addr) (len cap : Nat) (rs : List RTx) (i : Int) (k : ByteArray) (w : World) (hw : TxsAt w w.heap.size A len rs) (hl : len ≤ 4398046511104) (he : logErr rs 1 = 0) (ha : i < 1 ∨ (len : Int) + 1 < i ∨ keyB k = false) :
    Calls Try.prog 27 #[.slice A len cap, .int .i64 i, .string k] w fun e w' => e = .returned (.tuple #[.int .i64 0, .int .i64 1]) ∧ Below w.heap.size w w' := by
  have He := Lib.hid he
  have hw2 : ∀ o, TxsAt (w.alloc o) (w.alloc o).heap.size A len rs := fun o => (hw.below ((Below.refl _ _).alloc (Nat.le_refl _) _)).more (by simp)
  have Hw2 := Lib.hid hw2
  clear he hw2
  by_cases h1 : i < 1 <;> by_cases h3 : (len : Int) + 1 < i
  all_goals (cases hk : keyB k)
  all_goals first
    | (exfalso; simp [hk] at ha; omega)
    | (have Hk := Lib.hid hk
       clear hk ha
       have hmay : ∀ W, Calls Try.prog 50 #[.string k] W fun e w' => e = .returned (.bool _) ∧ W = w' := fun W => by have := fmay_any k W; rwa [Hk.out] at this
       go_enter Try.func27, Try.ntmps27
       go_wp2_with fail
       refine (foldcheck_any A len cap rs _ (Hw2.out _) hl).mono ?_
       rintro e w1 ⟨rfl, hb1⟩
       rw [He.out]
       have c0 : w1.cell? ⟨w.heap.size, 0, none⟩ = some (.string k) := (hb1.cell (p := ⟨w.heap.size, 0, none⟩) (by simp)).trans (by simp [go_sem])
       have Hb1 := Lib.hid (below_box (hb1.mono (by simp)))
       clear hb1
       go_wp2_with (go_at_call 50; refine (hmay _).mono ?_; rintro e w' ⟨rfl, rfl⟩)
       go_ret2
       exact ⟨rfl, Hb1.out⟩)
set_option maxHeartbeats 2000000 in
set_option maxRecDepth 8000 in
theorem writer_good (A : Option Addr) (len cap : Nat) (rs : List RTx) (N : Nat) (k : ByteArray) (w : World) (hw : TxsAt w w.heap.size A len rs) (hl : len ≤ 4398046511104) (he : logErr rs 1 = 0) (hN1 : 1 ≤ N) (hN2 : N ≤ len + 1) (hk : keyB k = true) :
    Calls Try.prog 27 #[.slice A len cap, .int .i64 N, .string k] w fun e w' => e = .returned (.tuple #[.int .i64 (lastN rs k (N - 1) : Nat), .int .i64 0]) ∧ Below w.heap.size w w' := by
  have He := Lib.hid he
  have hw2 : ∀ o, TxsAt (w.alloc o) (w.alloc o).heap.size A len rs := fun o => (hw.below ((Below.refl _ _).alloc (Nat.le_refl _) _)).more (by simp)
  have Hw2 := Lib.hid hw2
  have hks : k.size ≤ maxLen := by simp only [keyB, Bool.and_eq_true, decide_eq_true_eq] at hk; unfold maxLen; omega
  have Hks := Lib.hid hks
  have hmay : ∀ W, Calls Try.prog 50 #[.string k] W fun e w' => e = .returned (.bool true) ∧ W = w' := fun W => by have := fmay_any k W; rwa [hk] at this
  have Hmay := Lib.hid hmay
  have hlen := Lib.hid hw.1.len
  clear he hw2 hk hks hmay
  have hmm := @run_makeMap Try.prog
  have hd1 : decide ((N : Int) < 1) = false := by rw [decide_eq_false_iff_not]; omega
  have hd3 : decide (((len : Int) + 1) < (N : Int)) = false := by rw [decide_eq_false_iff_not]; omega
  go_enter Try.func27, Try.ntmps27
  go_wp2_with fail
  refine (foldcheck_any A len cap rs _ (Hw2.out _) hl).mono ?_
  rintro e w1 ⟨rfl, hb1⟩
  rw [He.out]
  have c0 : w1.cell? ⟨w.heap.size, 0, none⟩ = some (.string k) := (hb1.cell (p := ⟨w.heap.size, 0, none⟩) (by simp)).trans (by simp [go_sem])
  have hs1 : w.heap.size < w1.heap.size := by have := hb1.size; simp at this; omega
  have Hb1 := Lib.hid (below_box (hb1.mono (by simp)))
  clear hb1
  go_wp2_with (go_at_call 50; refine (Hmay.out _).mono ?_; rintro e w' ⟨rfl, rfl⟩)
  go_loopw [10, 11] (fun v n wr => ∃ t : Nat, t ≤ N ∧ n = .int .i64 ((t : Int) + 1) ∧ v = .int .i64 (lastN rs k t : Nat) ∧ OwnM (placeK k) (Value.int .i64) wr w1.heap.size (wM rs k t) ∧ Below w1.heap.size w1 wr) (fun _ n _ => N + 1 - (RowKit.intOf n).toNat)
  case atStart => exact ⟨0, by omega, rfl, rfl, OwnM.made _ _ _, (Below.refl _ _).alloc (Nat.le_refl _) _⟩
  case round =>
    obtain ⟨t, ht, rfl, rfl, hm, hb⟩ := hrel
    have hz := hb.size
    have hlt0 := hm.lt
    have hbw : Below w.heap.size w wr := Hb1.out.trans (hb.mono (by omega))
    have hr := hw.below hbw
    have c1 := (hb.cell (p := ⟨w.heap.size, 0, none⟩) hs1).trans c0
    have hle := lastN_le rs k t
    have Hm := Lib.hid hm
    have Hb := Lib.hid hb
    have Hbw := Lib.hid hbw
    clear hm hb hbw
    by_cases hlt : t < N
    · have hbn : ∀ {w' : World}, World.grownBy wr w' (some w1.heap.size) → Below w1.heap.size w1 w' ∧ w'.cell? ⟨w.heap.size, 0, none⟩ = some (.string k) := fun hg' =>
        have h1 := Hb.out.grown hg' (by omega) (fun q hq => by injection hq; omega)
        ⟨h1, (h1.cell (p := ⟨w.heap.size, 0, none⟩) hs1).trans c0⟩
      by_cases hlt2 : t < len
      · obtain ⟨bb, off, r, rfl, hbl2, hx, x0, x1, hws, hrl⟩ := hr.cell2 hlt2
        have Hx := Lib.hid hx
        clear hx hr
        have hwsr : wsOf rs t = r.ws := wsOf_get Hx.out
        have hln : lastN rs k (t + 1) = if hasKey r.ws k = true then t + 1 else lastN rs k t := by rw [lastN, hwsr]
        have Hln := Lib.hid hln
        have hcc : ∀ (w' : World), Below w1.heap.size w1 w' → ∀ p : Addr, p.block < w1.heap.size → w'.cell? p = wr.cell? p := fun w' h p hp => (h.cell hp).trans (Hb.out.cell hp).symm
        have Hcc := Lib.hid hcc
        clear hwsr hln hcc
        go_wp2_with (at_mapUpdate; refine wpList_update_M (κ := placeK k) (ν := Value.int .i64) (b := w1.heap.size) (m := wM rs k t) rfl _ _ _ rfl Hm.out (kplace k Hks.out) Try.underlying93 (i64 ((t : Int) + 1) (by omega)) (lastN rs k t : Nat) rfl rfl rfl ?_; intro w' hown' hg'; obtain ⟨hb', c2⟩ := hbn hg'; have x1' := (Hcc.out _ hb' ⟨bb, off + t * 2 + 1, none⟩ (by show bb < _; omega)).trans x1; have Hb' := Lib.hid hb'; clear hg' hb')
        have hwsw : WsAt w' w'.heap.size r.A r.len r.ws := by
          have h1 := (hw.below (Hb1.out.trans (Hb'.out.mono (by omega))))
          exact ((h1.2 r (List.mem_of_getElem? Hx.out)).1).more (by have := Hb'.out.size; omega)
        have hszw : w1.heap.size ≤ w'.heap.size := Hb'.out.size
        refine (containsw_wrt (.pointer (some ⟨w.heap.size, 0, none⟩)) (keyIs k) r.A r.len r.cap r.ws w' hwsw (by omega) (fun x W hW => wrt_any k w.heap.size x W ((hW.cell (p := ⟨w.heap.size, 0, none⟩) (by show w.heap.size < _; omega)).trans c2) (by have := hW.size; omega))).mono ?_
        rintro e w2 ⟨rfl, hb2⟩
        have hm2 := hown'.below hb2 hown'.lt
        rw [← wM_succ rs k (by omega)] at hm2
        have Hm2 := Lib.hid hm2
        have Hb2 := Lib.hid (Hb'.out.trans (hb2.mono hszw))
        clear hm2 hb2 hown' hwsw
        cases hc : r.ws.any (keyIs k)
        · have Hc := Lib.hid hc
          clear hc
          go_wp2_with fail
          exact ⟨⟨t + 1, by omega, by go_num, by rw [Hln.out, if_neg (by unfold hasKey; rw [Hc.out]; simp)], Hm2.out, Hb2.out⟩, by simp [RowKit.intOf]; omega⟩
        · have Hc := Lib.hid hc
          clear hc
          go_wp2_with fail
          exact ⟨⟨t + 1, by omega, by go_num, by rw [Hln.out, if_pos (by unfold hasKey; rw [Hc.out])]; go_num, Hm2.out, Hb2.out⟩, by simp [RowKit.intOf]; omega⟩
      · obtain rfl : t = len := by omega
        have hwsr : wsOf rs t = [] := by unfold wsOf; rw [List.getElem?_eq_none (by rw [hlen.out]; exact Nat.le_refl _)]; rfl
        have hln : lastN rs k (t + 1) = lastN rs k t := by rw [lastN, hwsr]; rfl
        have Hln := Lib.hid hln
        clear hwsr hln
        go_wp2_with (at_mapUpdate; refine wpList_update_M (κ := placeK k) (ν := Value.int .i64) (b := w1.heap.size) (m := wM rs k t) rfl _ _ _ rfl Hm.out (kplace k Hks.out) Try.underlying93 (i64 ((t : Int) + 1) (by omega)) (lastN rs k t : Nat) rfl rfl rfl ?_; intro w' hown' hg'; obtain ⟨hb', c2⟩ := hbn hg')
        exact ⟨⟨t + 1, by omega, by go_num, by rw [Hln.out], by rw [wM_succ rs k (by omega)]; exact hown', hb'⟩, by simp [RowKit.intOf]; omega⟩
    · obtain rfl : t = N := by omega
      clear hr
      have hget : mget (wM rs k t) (i64 (t : Int) (by omega)) = some ((lastN rs k (t - 1) : Nat) : Int) := by
        obtain ⟨q, rfl⟩ : ∃ q, t = q + 1 := ⟨t - 1, by omega⟩
        rw [wM_succ rs k (by omega), mget_mput, if_pos (Subtype.ext (by simp [i64]))]; rfl
      have Hget := Lib.hid hget
      clear hget
      go_wp2_with (at_lookup; refine wpList_lookup_M (κ := placeK k) (ν := Value.int .i64) (b := w1.heap.size) (m := wM rs k t) rfl _ _ rfl Hm.out (kplace k Hks.out) Try.underlying93 zint (i64 (t : Int) (by omega)) rfl rfl ?_; rw [Hget.out])
      go_ret2
      exact ⟨rfl, Hbw.out⟩
def WriterPost (w : World) (rs : List RTx) (i : Int) (k : ByteArray) (e : Ending) (w' : World) : Prop := e = .returned (.tuple #[.int .i64 (writerN rs i k), .int .i64 (writerErr rs i k)]) ∧ Below w.heap.size w w'
theorem fwriter_any (A : Option Addr) (len cap : Nat) (rs : List RTx) (i : Int) (k : ByteArray) (w : World) (hw : TxsAt w w.heap.size A len rs) (hl : len ≤ 4398046511104) :
    Calls Try.prog 27 #[.slice A len cap, .int .i64 i, .string k] w (WriterPost w rs i k) := by
  have hlen := hw.1.len
  unfold WriterPost
  by_cases he : logErr rs 1 = 0
  · by_cases ha : i < 1 ∨ (len : Int) + 1 < i ∨ keyB k = false
    · have h1 : writerErr rs i k = 1 := by
        unfold writerErr
        rw [if_neg (by simpa using he), if_neg (by
          simp only [Bool.and_eq_true, decide_eq_true_eq]
          rintro ⟨⟨h1, h2⟩, h3⟩
          rcases ha with ha | ha | ha
          · omega
          · omega
          · rw [h3] at ha; cases ha)]
      have h2 : writerN rs i k = 0 := by unfold writerN; rw [if_neg (by rw [h1]; decide)]
      rw [h1, h2]
      exact writer_arg A len cap rs i k w hw hl he ha
    · have hk : keyB k = true := by
        cases h : keyB k
        · exact absurd (Or.inr (Or.inr h)) ha
        · rfl
      have hb : 1 ≤ i ∧ i ≤ (len : Int) + 1 := by omega
      have h1 : writerErr rs i k = 0 := by
        unfold writerErr
        rw [if_neg (by simpa using he), if_pos (by simp only [Bool.and_eq_true, decide_eq_true_eq]; exact ⟨⟨hb.1, by omega⟩, hk⟩)]
      have h2 : writerN rs i k = (lastN rs k (i - 1).toNat : Nat) := by unfold writerN; rw [if_pos h1]
      rw [h1, h2]
      obtain ⟨n, rfl⟩ : ∃ n : Nat, i = n := ⟨i.toNat, by omega⟩
      have := writer_good A len cap rs n k w hw hl he (by omega) (by omega) hk
      rwa [show ((n : Int) - 1).toNat = n - 1 from by omega]
  · have h1 : writerErr rs i k = logErr rs 1 := by unfold writerErr; rw [if_pos he]
    have h2 : writerN rs i k = 0 := by unfold writerN; rw [if_neg (by rw [h1]; exact he)]
    rw [h1, h2]
    exact writer_err A len cap rs i k w hw hl he
end Go.Proofs.Ytdcnaieieggclaa

/- append of a slice that reads as a list, to a slice of the walk's own. Plain theorems over any program. -/
namespace Go.Proofs.Ytdcnaieieggclaa
open Go.RowKit
set_option linter.unusedVariables false
set_option linter.unusedSimpArgs false

theorem flat_idx {α : Type} {cells : α → List Value} {size : Nat} : ∀ (xs : List α) (hs : ∀ x ∈ xs, (cells x).length = size) (j : Nat) (u : Value), (xs.flatMap cells)[j]? = some u → ∃ i x r, xs[i]? = some x ∧ (cells x)[r]? = some u ∧ j = i * size + r
  | [], _, _, _, h => by simp at h
  | y :: r, hs, j, u, h => by
    have hy := hs y (by simp)
    rw [List.flatMap_cons] at h
    by_cases hj : j < size
    · rw [List.getElem?_append_left (by omega)] at h
      exact ⟨0, y, j, rfl, h, by omega⟩
    · rw [List.getElem?_append_right (by omega), hy] at h
      obtain ⟨i, x, q, h1, h2, h3⟩ := flat_idx r (fun z hz => hs z (by simp [hz])) _ u h
      exact ⟨i + 1, x, q, by simpa using h1, h2, by rw [Nat.add_mul]; omega⟩
theorem grownBy_refl (w : World) (row : Option Nat) : w.grownBy w row := ⟨rfl, rfl, rfl, Nat.le_refl _, fun _ _ _ => rfl⟩
theorem below_grown_own {w w' : World} {v : Value} {base n size : Nat} {e : TypeId} {xs : List Value} (h : w.ownsRow base e size v n xs) (hg : w.grownBy w' v.ownBlock) (hb : base ≤ w.heap.size) : Below base w w' :=
  (Below.refl _ _).grown hg hb (fun k hk => (h.lt k hk).1)
theorem wpList_append_row {α : Type} {cells : α → List Value} {P : Program} {w : World} {ops : Array Oper} {rest : List Oper} {o : Oper} {a : Act} {Q : Exit → Act → World → Prop} (hgd : o.guard = none) (s x : Operand) (t : TypeId)
    (ho : o.op = .call { callee := .builtin .append, args := #[s, x], argTypes := #[t, t] })
    (base : Nat) (e : TypeId) (i : TypeInfo) (z : Value) (size bytes : Nat) (ht : P.underlying t = some (.slice e)) (hi : P.info? e = some i) (hz : i.zero = some z)
    (hsize : i.size = size) (hby : i.bytes = bytes) (hzs : z.cells.size = size) (hsz : 0 < size)
    (v : Value) (n : Nat) (xs : List Value) (hs : a.eval s = v) (hown : w.ownsRow base e size v n xs)
    (Ax : Option Addr) (m c B : Nat) (ys : List α) (hx : a.eval x = .slice Ax m c) (hrow : RowAt cells size w B Ax m ys) (hnil : Ax = none → c = 0) (hys : ∀ y ∈ ys, (cells y).length = size) (h1 : ∀ y, ∀ u ∈ cells y, u.oneCell' = true)
    (h63 : n + m ≤ maxLen) (hbytes : (n + m) * bytes ≤ 140737488355328) (hbase : base ≤ w.heap.size)
    (h : ∀ v' w', w'.ownsRow base e size v' (n + m) (xs ++ ys.flatMap cells) → w.grownBy w' v.ownBlock → wpList P ops Q rest (a.put o.dst v') w') : wpList P ops Q (o :: rest) a w := by
  cases Ax with
  | none =>
    have hm : m = 0 := by
      rcases Nat.eq_zero_or_pos m with h0 | h0
      · exact h0
      · obtain ⟨b, off, hh, -⟩ := hrow.2 h0; cases hh
    subst hm
    have hc := hnil rfl
    subst hc
    have hy : ys = [] := List.eq_nil_of_length_eq_zero hrow.1
    subst hy
    exact wpList_append_own_none hgd s x t ho base e i size ht hi v n xs hs hown hx (h v w (by simpa using hown) (grownBy_refl _ _))
  | some ad =>
    refine wpList_append_own w hgd s x t ho base e i z size bytes ht hi hz hsize hby hzs hsz v n xs hs hown ad m c (ys.flatMap cells) hx (by rw [flat_len ys hys, hrow.1]) (fun j u hu => ?_) (fun u hu => ?_) h63 hbytes hbase (fun v' w' h2 h3 _ => h v' w' h2 h3)
    · obtain ⟨q, y, r, hq, hr, hj⟩ := flat_idx ys hys j u hu
      have hm : 0 < m := by
        have := (List.getElem?_eq_some_iff.1 hq).1
        have := hrow.1
        omega
      obtain ⟨b, off, he, -, hc⟩ := hrow.2 hm
      injection he with he
      subst he
      rw [Addr.add_lit, hj, ← Nat.add_assoc]
      exact hc q y hq r u hr
    · obtain ⟨y, -, hu2⟩ := List.mem_flatMap.1 hu
      exact h1 y u hu2
end Go.Proofs.Ytdcnaieieggclaa

/- The reference's folds: places among entries. -/

namespace Go.Proofs.Ytdcnaieieggclaa
open Go.RowKit
set_option linter.unusedVariables false
set_option linter.unusedSimpArgs false

open Go.Maps
def PlacePost (w : World) (st : List Ent) (k : ByteArray) (e : Ending) (w' : World) : Prop := ∃ (p : Nat) (hit : Bool), e = .returned (.tuple #[.int .i64 p, .bool hit]) ∧ PlaceOf st k p hit ∧ Below w.heap.size w w'
theorem ent_cell2 {w : World} {B n i : Nat} {A : Option Addr} {st : List Ent} (h : EntsAt w B A n st) (hi : i < n) :
    ∃ b off x, A = some ⟨b, off, none⟩ ∧ b < B ∧ st[i]? = some x ∧ w.cell? ⟨b, off + i * 2, none⟩ = some (.string x.key) ∧ w.cell? ⟨b, off + i * 2 + 1, none⟩ = some (.string x.val) := by
  obtain ⟨b, off, x, e, hb, hx, hc⟩ := h.at_ hi
  exact ⟨b, off, x, e, hb, hx, hc 0 _ rfl, hc 1 _ rfl⟩
theorem rises_mono {st : List Ent} {k : ByteArray} (hr : RisesE st) {i j : Nat} {x y : Ent} (hi : st[i]? = some x) (hj : st[j]? = some y) (hij : i ≤ j) (h : ltB y.key k = true) : ltB x.key k = true := by
  rcases Nat.lt_or_eq_of_le hij with h1 | h1
  · exact ltB_trans (rises_lt hr hi hj h1) h
  · subst h1; rw [hi] at hj; injection hj with e; rw [e]; exact h
set_option maxHeartbeats 1000000 in
theorem rplace_any (A : Option Addr) (len cap : Nat) (st : List Ent) (k : ByteArray) (w : World) (hw : EntsAt w w.heap.size A len st) (hl : len ≤ 4398046511104) (hr : RisesE st) :
    Calls Try.prog 53 #[.slice A len cap, .string k] w (PlacePost w st k) := by
  have hlen := Lib.hid hw.len
  have Hr := Lib.hid hr
  clear hr
  go_enter Try.func53, Try.ntmps53
  go_wp2_with fail
  go_loop [6, 7] (fun a b => ∃ lo hi : Nat, lo ≤ hi ∧ hi ≤ len ∧ a = .int .i64 lo ∧ b = .int .i64 hi ∧ Hid (∀ (i : Nat) (x : Ent), st[i]? = some x → i < lo → ltB x.key k = true) ∧ Hid (∀ (i : Nat) (x : Ent), st[i]? = some x → hi ≤ i → ltB x.key k = false)) (fun a b => (RowKit.intOf b).toNat - (RowKit.intOf a).toNat)
  case atStart => exact ⟨0, len, by omega, Nat.le_refl _, rfl, rfl, Lib.hid (fun i x _ h => by omega), Lib.hid (fun i x h1 h2 => by have := (List.getElem?_eq_some_iff.1 h1).1; have := hlen.out; omega)⟩
  case round =>
    obtain ⟨lo, hi, h1, h2, rfl, rfl, Hlo, Hhi⟩ := hrel
    by_cases hlt : lo < hi
    · obtain ⟨b, off, x, rfl, hbl, hx, x0, x1⟩ := ent_cell2 hw (show (lo + hi) / 2 < len by omega)
      have Hx := Lib.hid hx
      clear hx
      cases hc : ltB x.key k
      · have hc2 : Op.bytesLess x.key.toList k.toList = false := by rw [less_eq, hc]
        have Hc := Lib.hid hc
        clear hc
        go_wp2_with fail
        refine ⟨⟨lo, (lo + hi) / 2, by omega, by omega, rfl, by congr 1, Hlo, Lib.hid (fun i y hy hi2 => ?_)⟩, by simp [RowKit.intOf]; omega⟩
        cases hcy : ltB y.key k
        · rfl
        · rw [rises_mono Hr.out Hx.out hy hi2 hcy] at Hc
          exact absurd Hc.out (by simp)
      · have hc2 : Op.bytesLess x.key.toList k.toList = true := by rw [less_eq, hc]
        have Hc := Lib.hid hc
        clear hc
        go_wp2_with fail
        exact ⟨⟨(lo + hi) / 2 + 1, hi, by omega, by omega, by congr 1, rfl, Lib.hid (fun i y hy hi2 => rises_mono Hr.out hy Hx.out (by omega) Hc.out), Hhi⟩, by simp [RowKit.intOf]; omega⟩
    · obtain rfl : lo = hi := by omega
      by_cases hll : lo < len
      · obtain ⟨b, off, x, rfl, hbl, hx, x0, x1⟩ := ent_cell2 hw hll
        have hpl : PlaceOf st k lo (x.key.toList == k.toList) := ⟨by have := hlen.out; omega, fun i y hy => ⟨fun hi => Hlo.out i y hy hi, fun h => Classical.byContradiction fun hc => by rw [Hhi.out i y hy (by omega)] at h; cases h⟩, by rw [hx]; rfl⟩
        have Hpl := Lib.hid hpl
        clear hx hpl
        go_wp2_with fail
        go_quiet (fail)
        go_wp2_with fail
        go_ret2
        exact ⟨lo, _, rfl, Hpl.out, below_drewN (Below.refl _ _) _⟩
      · have hpl : PlaceOf st k lo false := ⟨by have := hlen.out; omega, fun i y hy => ⟨fun hi => Hlo.out i y hy hi, fun h => Classical.byContradiction fun hc => by rw [Hhi.out i y hy (by omega)] at h; cases h⟩, by rw [List.getElem?_eq_none (by have := hlen.out; omega)]; rfl⟩
        have Hpl := Lib.hid hpl
        have hdl : decide (lo < len) = false := by rw [decide_eq_false_iff_not]; exact hll
        clear hpl
        go_wp2_with fail
        go_quiet (fail)
        go_wp2_with fail
        go_ret2
        exact ⟨lo, _, rfl, Hpl.out, below_drewN (Below.refl _ _) _⟩
def WritePost (w : World) (st : List Ent) (e : Ending) (w' : World) : Prop := ∃ v, e = .returned v ∧ EntsOwn w' w.heap.size v st ∧ Below w.heap.size w w'
set_option maxHeartbeats 2000000 in
set_option maxRecDepth 8000 in
theorem rwrite_any (A : Option Addr) (len cap : Nat) (st : List Ent) (x : Wr) (w : World) (hw : EntsAt w w.heap.size A len st) (hl : len ≤ 2199023255552) (hc : len ≤ cap) (hn : A = none → cap = 0) (hr : RisesE st) :
    Calls Try.prog 72 #[.slice A len cap, .agg #[.string x.key, .string x.val, .bool x.drop]] w (WritePost w (stepE st x)) := by
  have hlen := Lib.hid hw.len
  have Hr := Lib.hid hr
  have Hn := Lib.hid hn
  have hw2 : ∀ o, EntsAt (w.alloc o) (w.alloc o).heap.size A len st := fun o => (hw.below ((Below.refl _ _).alloc (Nat.le_refl _) _)).more (by simp)
  have Hw2 := Lib.hid hw2
  have hnil : ∀ (X : World) (B : Nat), X.ownsRow B 57 2 (.slice none 0 0) 0 [] := fun X B => ⟨rfl, Or.inl ⟨rfl, rfl⟩⟩
  have Hnil := Lib.hid hnil
  obtain ⟨i0, hi, hz0, hz1, hz2⟩ := info_parts info_ent
  obtain ⟨xk, xv, xd⟩ := x
  clear hr hw2 hn hnil
  cases xd
  · go_enter Try.func72, Try.ntmps72
    go_wp2_with fail
    refine (rplace_any A len cap st xk _ (Hw2.out _) (by omega) Hr.out).mono ?_
    rintro e w1 ⟨p, hit, rfl, hp, hb1⟩
    have hpl : p ≤ len := by have := hp.1; have := hlen.out; omega
    have hph : hit = true → p + 1 ≤ len := fun h => by
      have h2 := hp.2.2
      rw [h] at h2
      cases hg : st[p]? with
      | none => rw [hg] at h2; cases h2
      | some y => have := (List.getElem?_eq_some_iff.1 hg).1; have := hlen.out; omega
    have c0 : w1.cell? ⟨w.heap.size, 0, none⟩ = some (.string xk) := cell_box (hb1.mono (by simp)) 0 rfl
    have c1 : w1.cell? ⟨w.heap.size, 1, none⟩ = some (.string xv) := cell_box (hb1.mono (by simp)) 1 rfl
    have c2 : w1.cell? ⟨w.heap.size, 2, none⟩ = some (.bool false) := cell_box (hb1.mono (by simp)) 2 rfl
    have hs1 : w.heap.size < w1.heap.size := size_box (hb1.mono (by simp))
    have hbw1 := below_box (hb1.mono (by simp))
    have hrow := hw.below hbw1
    have hsrc := hrow.take_ hpl
    have Hbw1 := Lib.hid hbw1
    have Hp := Lib.hid hp
    have Hsrc := Lib.hid hsrc
    have Hph := Lib.hid hph
    clear hp hb1 hbw1 hsrc hrow hph
    cases hit
    · have hq : p ≤ len := by omega
      have hfin := Hp.out.write (x := ⟨xk, xv, false⟩) Hr.out
      have Hfin := Lib.hid hfin
      have hnn : (if cap = p then A else A.map (·.add (p * 2))) = none → cap - p = 0 := fun h => by
        split at h
        · omega
        · cases A with
          | none => have := Hn.out rfl; omega
          | some a => cases h
      have Hnn := Lib.hid hnn
      clear hfin hnn
      go_wp2_with (first | (at_builtin; refine wpList_append_row (cells := Ent.cells) rfl (.tmp 15) (.tmp 18) 43 rfl w1.heap.size 57 i0 _ 2 32 Try.underlying43 hi hz0 hz1 hz2 rfl (by decide) (.slice none 0 0) 0 [] rfl (Hnil.out _ _) A p cap w.heap.size (st.take p) rfl Hsrc.out Hn.out (len_ent _) one_ent (by simp only [maxLen]; omega) (by omega) (by omega) ?_; intro v1 w2 hown1 hg1; have hb2 := below_grown_own (Hnil.out w1 w1.heap.size) hg1 (Nat.le_refl _); have hs2 := hb2.size; have d0 := (hb2.cell (p := ⟨w.heap.size, 0, none⟩) hs1).trans c0; have d1 := (hb2.cell (p := ⟨w.heap.size, 1, none⟩) hs1).trans c1; have d2 := (hb2.cell (p := ⟨w.heap.size, 2, none⟩) hs1).trans c2; have Hb2 := Lib.hid hb2; have Hown1 := Lib.hid hown1; clear hb2 hown1 hg1) | (at_builtin; refine wpList_append_own _ rfl (.tmp 23) (.tmp 29) 43 rfl w1.heap.size 57 i0 _ 2 32 Try.underlying43 hi hz0 hz1 hz2 rfl (by decide) v1 (0 + p) ([] ++ (st.take p).flatMap Ent.cells) rfl (Hown1.out.alloc _) ⟨w2.heap.size, 0, none⟩ 1 1 (Ent.cells ⟨xk, xv⟩) rfl rfl (cells_new _ _ _) (one_ent _) (by simp only [maxLen]; omega) (by omega) (by simp; omega) ?_; intro v2 w3 hown2 hg2 _; have hb3 := Hb2.out.trans (below_grown_new Hown1.out hg2 (by omega)); have hs3 := hb3.size; have Hb3 := Lib.hid hb3; have Hown2 := Lib.hid hown2; clear hb3 hown2 hg2) | (at_builtin; refine wpList_append_row (cells := Ent.cells) rfl (.tmp 34) (.tmp 37) 43 rfl w1.heap.size 57 i0 _ 2 32 Try.underlying43 hi hz0 hz1 hz2 rfl (by decide) v2 (0 + p + 1) ([] ++ (st.take p).flatMap Ent.cells ++ Ent.cells ⟨xk, xv⟩) rfl Hown2.out _ (len - p) _ w.heap.size (st.drop (p)) rfl ((hw.below (Hbw1.out.trans (Hb3.out.mono (by omega)))).cut (by omega) hc) (Hnn.out) (len_ent _) one_ent (by simp only [maxLen]; omega) (by omega) (by omega) ?_; intro v4 w4 hown4 hg4; have hb4 := Hb3.out.trans (below_grown_own Hown2.out hg4 (by omega)); have Hb4 := Lib.hid hb4; have Hown4 := Lib.hid hown4; clear hb4 hown4 hg4))
      all_goals
        go_ret
        refine ⟨v4, rfl, ?_, Hbw1.out.trans (Hb4.out.mono (by omega))⟩
        rw [← Hfin.out]
        have h4 := ownsRow_base_a Hown4.out (show w.heap.size ≤ w1.heap.size by omega)
        have hl : ((st.take p ++ [(⟨xk, xv⟩ : Ent)] ++ st.drop p).length : Nat) = 0 + p + 1 + (len - p) := by simp only [List.length_append, List.length_take, List.length_drop, List.length_cons, List.length_nil, hlen.out]; omega
        unfold EntsOwn
        simp only [if_true, Nat.add_zero, Bool.false_eq_true, if_false]
        rw [hl]
        simp only [List.append_nil, List.flatMap_append, List.flatMap_cons, List.flatMap_nil, List.nil_append, Nat.zero_add] at h4 ⊢
        exact h4
    · have hq : (p + 1) ≤ len := Hph.out rfl
      have hfin := Hp.out.write (x := ⟨xk, xv, false⟩) Hr.out
      have Hfin := Lib.hid hfin
      have hnn : (if cap = (p + 1) then A else A.map (·.add ((p + 1) * 2))) = none → cap - (p + 1) = 0 := fun h => by
        split at h
        · omega
        · cases A with
          | none => have := Hn.out rfl; omega
          | some a => cases h
      have Hnn := Lib.hid hnn
      clear hfin hnn
      go_wp2_with (first | (at_builtin; refine wpList_append_row (cells := Ent.cells) rfl (.tmp 15) (.tmp 18) 43 rfl w1.heap.size 57 i0 _ 2 32 Try.underlying43 hi hz0 hz1 hz2 rfl (by decide) (.slice none 0 0) 0 [] rfl (Hnil.out _ _) A p cap w.heap.size (st.take p) rfl Hsrc.out Hn.out (len_ent _) one_ent (by simp only [maxLen]; omega) (by omega) (by omega) ?_; intro v1 w2 hown1 hg1; have hb2 := below_grown_own (Hnil.out w1 w1.heap.size) hg1 (Nat.le_refl _); have hs2 := hb2.size; have d0 := (hb2.cell (p := ⟨w.heap.size, 0, none⟩) hs1).trans c0; have d1 := (hb2.cell (p := ⟨w.heap.size, 1, none⟩) hs1).trans c1; have d2 := (hb2.cell (p := ⟨w.heap.size, 2, none⟩) hs1).trans c2; have Hb2 := Lib.hid hb2; have Hown1 := Lib.hid hown1; clear hb2 hown1 hg1) | (at_builtin; refine wpList_append_own _ rfl (.tmp 23) (.tmp 29) 43 rfl w1.heap.size 57 i0 _ 2 32 Try.underlying43 hi hz0 hz1 hz2 rfl (by decide) v1 (0 + p) ([] ++ (st.take p).flatMap Ent.cells) rfl (Hown1.out.alloc _) ⟨w2.heap.size, 0, none⟩ 1 1 (Ent.cells ⟨xk, xv⟩) rfl rfl (cells_new _ _ _) (one_ent _) (by simp only [maxLen]; omega) (by omega) (by simp; omega) ?_; intro v2 w3 hown2 hg2 _; have hb3 := Hb2.out.trans (below_grown_new Hown1.out hg2 (by omega)); have hs3 := hb3.size; have Hb3 := Lib.hid hb3; have Hown2 := Lib.hid hown2; clear hb3 hown2 hg2) | (at_builtin; refine wpList_append_row (cells := Ent.cells) rfl (.tmp 34) (.tmp 37) 43 rfl w1.heap.size 57 i0 _ 2 32 Try.underlying43 hi hz0 hz1 hz2 rfl (by decide) v2 (0 + p + 1) ([] ++ (st.take p).flatMap Ent.cells ++ Ent.cells ⟨xk, xv⟩) rfl Hown2.out _ (len - (p + 1)) _ w.heap.size (st.drop ((p + 1))) rfl ((hw.below (Hbw1.out.trans (Hb3.out.mono (by omega)))).cut (by omega) hc) (Hnn.out) (len_ent _) one_ent (by simp only [maxLen]; omega) (by omega) (by omega) ?_; intro v4 w4 hown4 hg4; have hb4 := Hb3.out.trans (below_grown_own Hown2.out hg4 (by omega)); have Hb4 := Lib.hid hb4; have Hown4 := Lib.hid hown4; clear hb4 hown4 hg4))
      all_goals
        go_ret
        refine ⟨v4, rfl, ?_, Hbw1.out.trans (Hb4.out.mono (by omega))⟩
        rw [← Hfin.out]
        have h4 := ownsRow_base_a Hown4.out (show w.heap.size ≤ w1.heap.size by omega)
        have hl : ((st.take p ++ [(⟨xk, xv⟩ : Ent)] ++ st.drop (p + 1)).length : Nat) = 0 + p + 1 + (len - (p + 1)) := by simp only [List.length_append, List.length_take, List.length_drop, List.length_cons, List.length_nil, hlen.out]; omega
        unfold EntsOwn
        simp only [if_true, Nat.add_zero, Bool.false_eq_true, if_false]
        rw [hl]
        simp only [List.append_nil, List.flatMap_append, List.flatMap_cons, List.flatMap_nil, List.nil_append, Nat.zero_add] at h4 ⊢
        exact h4
  · go_enter Try.func72, Try.ntmps72
    go_wp2_with fail
    refine (rplace_any A len cap st xk _ (Hw2.out _) (by omega) Hr.out).mono ?_
    rintro e w1 ⟨p, hit, rfl, hp, hb1⟩
    have hpl : p ≤ len := by have := hp.1; have := hlen.out; omega
    have hph : hit = true → p + 1 ≤ len := fun h => by
      have h2 := hp.2.2
      rw [h] at h2
      cases hg : st[p]? with
      | none => rw [hg] at h2; cases h2
      | some y => have := (List.getElem?_eq_some_iff.1 hg).1; have := hlen.out; omega
    have c0 : w1.cell? ⟨w.heap.size, 0, none⟩ = some (.string xk) := cell_box (hb1.mono (by simp)) 0 rfl
    have c1 : w1.cell? ⟨w.heap.size, 1, none⟩ = some (.string xv) := cell_box (hb1.mono (by simp)) 1 rfl
    have c2 : w1.cell? ⟨w.heap.size, 2, none⟩ = some (.bool true) := cell_box (hb1.mono (by simp)) 2 rfl
    have hs1 : w.heap.size < w1.heap.size := size_box (hb1.mono (by simp))
    have hbw1 := below_box (hb1.mono (by simp))
    have hrow := hw.below hbw1
    have hsrc := hrow.take_ hpl
    have Hbw1 := Lib.hid hbw1
    have Hp := Lib.hid hp
    have Hsrc := Lib.hid hsrc
    have Hph := Lib.hid hph
    clear hp hb1 hbw1 hsrc hrow hph
    cases hit
    · have hq : p ≤ len := by omega
      have hfin := Hp.out.write (x := ⟨xk, xv, true⟩) Hr.out
      have Hfin := Lib.hid hfin
      have hnn : (if cap = p then A else A.map (·.add (p * 2))) = none → cap - p = 0 := fun h => by
        split at h
        · omega
        · cases A with
          | none => have := Hn.out rfl; omega
          | some a => cases h
      have Hnn := Lib.hid hnn
      clear hfin hnn
      go_wp2_with (first | (at_builtin; refine wpList_append_row (cells := Ent.cells) rfl (.tmp 15) (.tmp 18) 43 rfl w1.heap.size 57 i0 _ 2 32 Try.underlying43 hi hz0 hz1 hz2 rfl (by decide) (.slice none 0 0) 0 [] rfl (Hnil.out _ _) A p cap w.heap.size (st.take p) rfl Hsrc.out Hn.out (len_ent _) one_ent (by simp only [maxLen]; omega) (by omega) (by omega) ?_; intro v1 w2 hown1 hg1; have hb2 := below_grown_own (Hnil.out w1 w1.heap.size) hg1 (Nat.le_refl _); have hs2 := hb2.size; have d0 := (hb2.cell (p := ⟨w.heap.size, 0, none⟩) hs1).trans c0; have d1 := (hb2.cell (p := ⟨w.heap.size, 1, none⟩) hs1).trans c1; have d2 := (hb2.cell (p := ⟨w.heap.size, 2, none⟩) hs1).trans c2; have Hb2 := Lib.hid hb2; have Hown1 := Lib.hid hown1; clear hb2 hown1 hg1) | (at_builtin; refine wpList_append_row (cells := Ent.cells) rfl (.tmp 34) (.tmp 37) 43 rfl w1.heap.size 57 i0 _ 2 32 Try.underlying43 hi hz0 hz1 hz2 rfl (by decide) v1 (0 + p) ([] ++ (st.take p).flatMap Ent.cells) rfl Hown1.out _ (len - p) _ w.heap.size (st.drop (p)) rfl ((hw.below (Hbw1.out.trans (Hb2.out.mono (by omega)))).cut (by omega) hc) (Hnn.out) (len_ent _) one_ent (by simp only [maxLen]; omega) (by omega) (by omega) ?_; intro v4 w4 hown4 hg4; have hb4 := Hb2.out.trans (below_grown_own Hown1.out hg4 (by omega)); have Hb4 := Lib.hid hb4; have Hown4 := Lib.hid hown4; clear hb4 hown4 hg4))
      all_goals
        go_ret
        refine ⟨v4, rfl, ?_, Hbw1.out.trans (Hb4.out.mono (by omega))⟩
        rw [← Hfin.out]
        have h4 := ownsRow_base_a Hown4.out (show w.heap.size ≤ w1.heap.size by omega)
        have hl : ((st.take p ++ ([] : List Ent) ++ st.drop p).length : Nat) = 0 + p + (len - p) := by simp only [List.length_append, List.length_take, List.length_drop, List.length_cons, List.length_nil, hlen.out]; omega
        unfold EntsOwn
        simp only [if_true, Nat.add_zero, Bool.false_eq_true, if_false]
        rw [hl]
        simp only [List.append_nil, List.flatMap_append, List.flatMap_cons, List.flatMap_nil, List.nil_append, Nat.zero_add] at h4 ⊢
        exact h4
    · have hq : (p + 1) ≤ len := Hph.out rfl
      have hfin := Hp.out.write (x := ⟨xk, xv, true⟩) Hr.out
      have Hfin := Lib.hid hfin
      have hnn : (if cap = (p + 1) then A else A.map (·.add ((p + 1) * 2))) = none → cap - (p + 1) = 0 := fun h => by
        split at h
        · omega
        · cases A with
          | none => have := Hn.out rfl; omega
          | some a => cases h
      have Hnn := Lib.hid hnn
      clear hfin hnn
      go_wp2_with (first | (at_builtin; refine wpList_append_row (cells := Ent.cells) rfl (.tmp 15) (.tmp 18) 43 rfl w1.heap.size 57 i0 _ 2 32 Try.underlying43 hi hz0 hz1 hz2 rfl (by decide) (.slice none 0 0) 0 [] rfl (Hnil.out _ _) A p cap w.heap.size (st.take p) rfl Hsrc.out Hn.out (len_ent _) one_ent (by simp only [maxLen]; omega) (by omega) (by omega) ?_; intro v1 w2 hown1 hg1; have hb2 := below_grown_own (Hnil.out w1 w1.heap.size) hg1 (Nat.le_refl _); have hs2 := hb2.size; have d0 := (hb2.cell (p := ⟨w.heap.size, 0, none⟩) hs1).trans c0; have d1 := (hb2.cell (p := ⟨w.heap.size, 1, none⟩) hs1).trans c1; have d2 := (hb2.cell (p := ⟨w.heap.size, 2, none⟩) hs1).trans c2; have Hb2 := Lib.hid hb2; have Hown1 := Lib.hid hown1; clear hb2 hown1 hg1) | (at_builtin; refine wpList_append_row (cells := Ent.cells) rfl (.tmp 34) (.tmp 37) 43 rfl w1.heap.size 57 i0 _ 2 32 Try.underlying43 hi hz0 hz1 hz2 rfl (by decide) v1 (0 + p) ([] ++ (st.take p).flatMap Ent.cells) rfl Hown1.out _ (len - (p + 1)) _ w.heap.size (st.drop ((p + 1))) rfl ((hw.below (Hbw1.out.trans (Hb2.out.mono (by omega)))).cut (by omega) hc) (Hnn.out) (len_ent _) one_ent (by simp only [maxLen]; omega) (by omega) (by omega) ?_; intro v4 w4 hown4 hg4; have hb4 := Hb2.out.trans (below_grown_own Hown1.out hg4 (by omega)); have Hb4 := Lib.hid hb4; have Hown4 := Lib.hid hown4; clear hb4 hown4 hg4))
      all_goals
        go_ret
        refine ⟨v4, rfl, ?_, Hbw1.out.trans (Hb4.out.mono (by omega))⟩
        rw [← Hfin.out]
        have h4 := ownsRow_base_a Hown4.out (show w.heap.size ≤ w1.heap.size by omega)
        have hl : ((st.take p ++ ([] : List Ent) ++ st.drop (p + 1)).length : Nat) = 0 + p + (len - (p + 1)) := by simp only [List.length_append, List.length_take, List.length_drop, List.length_cons, List.length_nil, hlen.out]; omega
        unfold EntsOwn
        simp only [if_true, Nat.add_zero, Bool.false_eq_true, if_false]
        rw [hl]
        simp only [List.append_nil, List.flatMap_append, List.flatMap_cons, List.flatMap_nil, List.nil_append, Nat.zero_add] at h4 ⊢
        exact h4
end Go.Proofs.Ytdcnaieieggclaa

/- The reference's folds, reads, scans and last writers. -/

namespace Go.Proofs.Ytdcnaieieggclaa
open Go.RowKit
set_option linter.unusedVariables false
set_option linter.unusedSimpArgs false

open Go.Maps
theorem filter_two {α : Type} (p q : α → Bool) (h : ∀ x, p x = true → q x = true → False) (l : List α) : (l.filter p).length + (l.filter q).length ≤ l.length := by
  induction l with
  | nil => simp
  | cons x r ih =>
    cases hp : p x <;> cases hq : q x
    · simp [hp, hq]; omega
    · simp [hp, hq]; omega
    · simp [hp, hq]; omega
    · exact absurd hq (fun hq => h x hp hq)
theorem len_stepE (st : List Ent) (x : Wr) : (stepE st x).length ≤ st.length + 1 := by
  have := filter_two (fun e : Ent => ltB e.key x.key) (fun e => ltB x.key e.key) (fun e h1 h2 => by rw [ltB_asymm h1] at h2; cases h2) st
  unfold stepE
  rw [List.length_append, List.length_append]
  split <;> simp <;> omega
theorem len_playE (st : List Ent) (ws : List Wr) : (playE st ws).length ≤ st.length + ws.length := by
  induction ws generalizing st with
  | nil => simp [playE]
  | cons x r ih => have h1 := ih (stepE st x); have h2 := len_stepE st x; rw [show playE st (x :: r) = playE (stepE st x) r from rfl, List.length_cons]; omega
theorem rises_play {st : List Ent} (h : RisesE st) (ws : List Wr) : RisesE (playE st ws) := by
  induction ws generalizing st with
  | nil => exact h
  | cons x r ih => exact ih (rises_step h x)
theorem EntsOwn.row {w : World} {base : Nat} {v : Value} {xs : List Ent} (h : EntsOwn w base v xs) : ∃ A cap, v = .slice A xs.length cap ∧ EntsAt w w.heap.size A xs.length xs ∧ (A = none → cap = 0) ∧ xs.length ≤ cap := by
  obtain ⟨A, cap, h1, h2, h3, h4⟩ := rowAt_own (len_ent _) h
  exact ⟨A, cap, h1, h2, fun e => (h3 e).2, h4⟩
theorem EntsOwn.below {w w' : World} {base : Nat} {v : Value} {xs : List Ent} (h : EntsOwn w base v xs) (hb : Below w.heap.size w w') : EntsOwn w' base v xs := ownsRow_below h hb
set_option maxHeartbeats 2000000 in
set_option maxRecDepth 8000 in
theorem rfold_any (A : Option Addr) (len cap : Nat) (rs : List RTx) (n : Nat) (w : World) (hw : TxsAt w w.heap.size A len rs) (hl : len ≤ 4398046511104) (he : logErr rs 1 = 0) (hn : n ≤ len) :
    Calls Try.prog 52 #[.slice A len cap, .int .i64 n] w (WritePost w (foldE rs n)) := by
  have hlen := Lib.hid hw.1.len
  have He := Lib.hid he
  clear he
  go_enter Try.func52, Try.ntmps52
  go_wp2_with fail
  go_loopw [5, 6] (fun v i wr => ∃ t : Nat, t ≤ n ∧ i = .int .i64 t ∧ EntsOwn wr w.heap.size v (foldE rs t) ∧ Below w.heap.size w wr) (fun _ i _ => n - (RowKit.intOf i).toNat)
  case atStart => exact ⟨0, by omega, rfl, EntsOwn.nil _ _, Below.refl _ _⟩
  case round =>
    obtain ⟨t, ht, rfl, how, hb⟩ := hrel
    have hr := hw.below hb
    have How := Lib.hid how
    have Hb := Lib.hid hb
    clear how hb
    by_cases hlt : t < n
    · obtain ⟨bb, off, r, rfl, hbl2, hx, x0, x1, hws, hrl⟩ := hr.cell2 (show t < len by omega)
      have hr32 : r.ws.length ≤ 32 ∧ r.ws.length = r.len := by
        have h1 := (logErr_ok He.out hx).1
        simp only [txB, Bool.and_eq_true, decide_eq_true_eq] at h1
        exact ⟨h1.1.2, hws.len⟩
      have hfl : (foldE rs t).length ≤ 2097152 := len_foldE_le He.out (by have := hlen.out; omega)
      have Hr32 := Lib.hid hr32
      have Hx := Lib.hid hx
      clear hx hr hws hr32
      go_wp2_with fail
      go_loopw [5, 7] (fun v q wi => ∃ qn : Nat, qn ≤ r.len ∧ q = .int .i64 qn ∧ EntsOwn wi w.heap.size v (playE (foldE rs t) (r.ws.take qn)) ∧ Below w.heap.size w wi) (fun _ q _ => r.len - (RowKit.intOf q).toNat)
      case atStart => exact ⟨0, by omega, rfl, How.out, Hb.out⟩
      case round =>
        obtain ⟨qn, hq, rfl, hoi, hbi⟩ := hrel
        have hri := hw.below hbi
        have hrx := (hri.2 r (List.mem_of_getElem? Hx.out)).1
        have z1 := (hbi.cell (p := ⟨bb, off + t * 2 + 1, none⟩) hbl2).trans (((Hb.out.cell (p := ⟨bb, off + t * 2 + 1, none⟩) hbl2).symm).trans x1)
        have hpl := len_playE (foldE rs t) (r.ws.take qn)
        have htk : (r.ws.take qn).length ≤ 32 := Nat.le_trans (List.length_take_le _ _) (by have := Hr32.out; omega)
        have hsi := hbi.size
        have Hbi := Lib.hid hbi
        clear hbi
        by_cases hq2 : qn < r.len
        · obtain ⟨b2, off2, x, hA2, hbl3, hx2, y0, y1, y2⟩ := WsAt.cell3 hrx hq2
          have Hx2 := Lib.hid hx2
          obtain ⟨Ao, co, rfl, hrow, hnil, hcap⟩ := hoi.row
          have Hnil := Lib.hid hnil
          have hris := rises_play (agree_fold rs t).1 (r.ws.take qn)
          have Hris := Lib.hid hris
          clear hx2 hrx hoi hri hnil hris
          rw [hA2] at z1
          have y0' := y0
          go_wp2_with fail
          refine (rwrite_any Ao _ co _ x _ hrow (by omega) hcap Hnil.out Hris.out).mono ?_
          rintro e w1 ⟨v, rfl, hv, hb1⟩
          have hv2 := hv.more hsi
          have Hv2 := Lib.hid hv2
          have Hb1 := Lib.hid (Hbi.out.trans (hb1.mono hsi))
          clear hv hv2 hb1
          go_wp2_with fail
          exact ⟨⟨qn + 1, by omega, by go_num, by rw [playE_snoc Hx2.out]; exact Hv2.out, Hb1.out⟩, by simp [RowKit.intOf]; omega⟩
        · have hfull : r.ws.take qn = r.ws := List.take_of_length_le (by have := Hr32.out; omega)
          rw [hfull, ← foldE_succ Hx.out] at hoi
          have Hoi := Lib.hid hoi
          clear hoi hri hrx hfull
          go_wp2_with fail
          exact ⟨⟨t + 1, by omega, by go_num, Hoi.out, Hbi.out⟩, by simp [RowKit.intOf]; omega⟩
    · obtain rfl : t = n := by omega
      clear hr
      go_wp2_with fail
      go_ret
      exact ⟨_, rfl, How.out, Hb.out⟩
end Go.Proofs.Ytdcnaieieggclaa

/- The reference's Store, Scan, Get and Writer. -/

namespace Go.Proofs.Ytdcnaieieggclaa
open Go.RowKit
set_option linter.unusedVariables false
set_option linter.unusedSimpArgs false

open Go.Maps
theorem rstore_any (A : Option Addr) (len cap : Nat) (rs : List RTx) (i : Int) (w : World) (hw : TxsAt w w.heap.size A len rs) (hl : len ≤ 4398046511104) :
    Calls Try.prog 56 #[.slice A len cap, .int .i64 i] w (ScanPost w rs i ⟨#[]⟩ ⟨#[]⟩) := by
  have hlen := hw.1.len
  have hall : ∀ n, (foldE rs n).filter (fun e => inB ⟨#[]⟩ ⟨#[]⟩ e.key) = foldE rs n := fun n => cut_all rfl rfl
  unfold ScanPost scanL
  by_cases he : logErr rs 1 = 0
  · by_cases ha : i < 0 ∨ (len : Int) < i
    · have h1 : scanErr rs i = 1 := by unfold scanErr; rw [if_neg (by simpa using he), if_neg (by simp only [argB, Bool.and_eq_true, decide_eq_true_eq]; omega)]
      rw [h1, if_neg (by decide)]
      have He := Lib.hid he
      clear he h1 hall
      by_cases h1 : i < 0 <;> by_cases h3 : (len : Int) < i
      all_goals first
        | (exfalso; omega)
        | (go_enter Try.func56, Try.ntmps56
           go_wp2_with fail
           refine (ref07check_any A len cap rs _ hw hl).mono ?_
           rintro e w1 ⟨rfl, hb1⟩
           rw [He.out]
           have Hb1 := Lib.hid hb1
           clear hb1
           go_wp2_with fail
           go_ret2
           exact ⟨_, rfl, EntsOwn.nil _ _, Hb1.out⟩)
    · have h1 : scanErr rs i = 0 := by unfold scanErr; rw [if_neg (by simpa using he), if_pos (by simp only [argB, Bool.and_eq_true, decide_eq_true_eq]; omega)]
      rw [h1, if_pos rfl, hall]
      obtain ⟨n, rfl⟩ : ∃ n : Nat, i = n := ⟨i.toNat, by omega⟩
      rw [show ((n : Int)).toNat = n from by omega]
      have He := Lib.hid he
      have hd : decide (len < n) = false := by rw [decide_eq_false_iff_not]; omega
      clear he h1 hall
      go_enter Try.func56, Try.ntmps56
      go_wp2_with fail
      refine (ref07check_any A len cap rs _ hw hl).mono ?_
      rintro e w1 ⟨rfl, hb1⟩
      rw [He.out]
      have hw1 := (hw.below hb1).more hb1.size
      have Hb1 := Lib.hid hb1
      clear hb1
      go_wp2_with fail
      refine (rfold_any A len cap rs n _ hw1 hl He.out (by omega)).mono ?_
      rintro e w2 ⟨v, rfl, hv, hb2⟩
      have Hv := Lib.hid (hv.more Hb1.out.size)
      have Hb2 := Lib.hid (Hb1.out.trans (hb2.mono Hb1.out.size))
      clear hv hb2
      go_wp2_with fail
      go_ret2
      exact ⟨_, rfl, Hv.out, Hb2.out⟩
  · have h1 : scanErr rs i = logErr rs 1 := by unfold scanErr; rw [if_pos he]
    rw [h1, if_neg he]
    have hne : (logErr rs 1 != 0) = true := by simpa using he
    clear h1 hall he
    go_enter Try.func56, Try.ntmps56
    go_wp2_with fail
    refine (ref07check_any A len cap rs _ hw hl).mono ?_
    rintro e w1 ⟨rfl, hb1⟩
    have Hb1 := Lib.hid hb1
    clear hb1
    go_wp2_with fail
    go_ret2
    exact ⟨_, rfl, EntsOwn.nil _ _, Hb1.out⟩
theorem rin_any (k key fin : ByteArray) (w : World) : Calls Try.prog 76 #[.string k, .string key, .string fin] w fun e w' => e = .returned (.bool (inB key fin k)) ∧ w = w' := by
  have hfin : ∀ (b : Bool) (w' : World), b = inB key fin k → w = w' → (Ending.returned (.bool b) = .returned (.bool (inB key fin k)) ∧ w = w') := fun b w' h h' => ⟨by rw [h], h'⟩
  have Hf := Lib.hid hfin
  clear hfin
  cases h1 : ltB k key
  · by_cases h2 : fin.size = 0
    · have h4 : Op.bytesLess k.toList key.toList = false := by rw [less_eq, h1]
      have Hin := Lib.hid (show true = inB key fin k by simp [inB, h1, h2])
      have H1 := Lib.hid h1
      clear h1
      go_enter Try.func76, Try.ntmps76
      go_wp2_with fail
      go_ret
      exact Hf.out _ _ Hin.out rfl
    · have h4 : Op.bytesLess k.toList key.toList = false := by rw [less_eq, h1]
      have Hin := Lib.hid (show ltB k fin = inB key fin k by simp [inB, h1, h2])
      have hls := less_eq k fin
      have Hls := Lib.hid hls
      have H1 := Lib.hid h1
      have h5 : ((fin.size : Int) == 0) = false := by rw [beq_eq_false_iff_ne]; omega
      clear h1 hls
      go_enter Try.func76, Try.ntmps76
      go_wp2_with fail
      go_ret
      exact Hf.out _ _ (by rw [Hls.out]; exact Hin.out) rfl
  · have h4 : Op.bytesLess k.toList key.toList = true := by rw [less_eq, h1]
    have Hin := Lib.hid (show false = inB key fin k by simp [inB, h1])
    have H1 := Lib.hid h1
    clear h1
    go_enter Try.func76, Try.ntmps76
    go_wp2_with fail
    go_ret
    exact Hf.out _ _ Hin.out rfl
set_option maxHeartbeats 1000000 in
set_option maxRecDepth 8000 in
theorem rstretch_any (A : Option Addr) (len cap : Nat) (st : List Ent) (key fin : ByteArray) (w : World) (hw : EntsAt w w.heap.size A len st) (hl : len ≤ 2199023255552) :
    Calls Try.prog 57 #[.slice A len cap, .string key, .string fin] w (WritePost w (st.filter fun e => inB key fin e.key)) := by
  have hlen := Lib.hid hw.len
  obtain ⟨i0, hi, hz0, hz1, hz2⟩ := info_parts info_ent
  go_enter Try.func57, Try.ntmps57
  go_wp2_with fail
  go_loopw [7, 8] (fun v n wr => ∃ j : Nat, j ≤ len ∧ n = .int .i64 j ∧ EntsOwn wr w.heap.size v ((st.take j).filter fun e => inB key fin e.key) ∧ Below w.heap.size w wr) (fun _ n _ => len - (RowKit.intOf n).toNat)
  case atStart => exact ⟨0, by omega, rfl, EntsOwn.nil _ _, Below.refl _ _⟩
  case round =>
    obtain ⟨j, hj, rfl, how, hb⟩ := hrel
    have hr := hw.below hb
    have hsr := hb.size
    have Hb := Lib.hid hb
    have How := Lib.hid how
    clear hb how
    by_cases hlt : j < len
    · obtain ⟨bk, offk, x, rfl, hblk, hx, x0, x1⟩ := ent_cell2 hr hlt
      have hsn : (st.take (j + 1)).filter (fun e => inB key fin e.key) = (st.take j).filter (fun e => inB key fin e.key) ++ if inB key fin x.key = true then [x] else [] := by
        rw [List.take_add_one, hx, List.filter_append]
        congr 1
        simp only [Option.toList_some, List.filter_cons, List.filter_nil]
      have Hsn := Lib.hid hsn
      clear hx hr hsn
      cases hin : inB key fin x.key
      · have Hin := Lib.hid hin
        clear hin
        have hc : ∀ W, Calls Try.prog 76 #[.string x.key, .string key, .string fin] W fun e w' => e = .returned (.bool false) ∧ W = w' := fun W => by have := rin_any x.key key fin W; rwa [Hin.out] at this
        go_wp2_with (go_at_call 76; refine (hc _).mono ?_; rintro e w' ⟨rfl, rfl⟩)
        exact ⟨⟨j + 1, by omega, by go_num, by rw [Hsn.out, if_neg (by rw [Hin.out]; simp), List.append_nil]; exact How.out, Hb.out⟩, by simp [RowKit.intOf]; omega⟩
      · have Hin := Lib.hid hin
        clear hin
        have hc : ∀ W, Calls Try.prog 76 #[.string x.key, .string key, .string fin] W fun e w' => e = .returned (.bool true) ∧ W = w' := fun W => by have := rin_any x.key key fin W; rwa [Hin.out] at this
        have How2 : wr.ownsRow w.heap.size 57 2 _ ((st.take j).filter fun e => inB key fin e.key).length _ := How.out
        have hple : ((st.take j).filter fun e => inB key fin e.key).length ≤ j := Nat.le_trans (List.length_filter_le _ _) (List.length_take_le _ _)
        go_wp2_with (first | (go_at_call 76; refine (hc _).mono ?_; rintro e w' ⟨rfl, rfl⟩) | (at_builtin; refine wpList_append_own _ rfl _ _ 43 rfl w.heap.size 57 i0 _ 2 32 Try.underlying43 hi hz0 hz1 hz2 rfl (by decide) _ _ _ rfl (How2.alloc _) ⟨wr.heap.size, 0, none⟩ 1 1 (Ent.cells x) rfl rfl (cells_new _ _ _) (one_ent _) (by simp only [maxLen]; omega) (by omega) (by simp; omega) ?_; intro v' w' hown' hg' hn'))
        refine ⟨⟨j + 1, by omega, by go_num, ?_, Hb.out.trans (below_grown_new How2 hg' (by omega))⟩, by simp [RowKit.intOf]; omega⟩
        rw [Hsn.out, if_pos Hin.out]
        unfold EntsOwn
        rw [List.length_append, List.flatMap_append]
        simpa using hown'
    · obtain rfl : j = len := by omega
      have hfin := How.out
      rw [List.take_of_length_le (by rw [hlen.out]; exact Nat.le_refl _)] at hfin
      have Hfin := Lib.hid hfin
      clear hfin hr
      go_wp2_with fail
      go_ret
      exact ⟨_, rfl, Hfin.out, Hb.out⟩
theorem rscan_any (A : Option Addr) (len cap : Nat) (rs : List RTx) (i : Int) (key fin : ByteArray) (w : World) (hw : TxsAt w w.heap.size A len rs) (hl : len ≤ 4398046511104) :
    Calls Try.prog 26 #[.slice A len cap, .int .i64 i, .string key, .string fin] w (ScanPost w rs i key fin) := by
  have hall : ∀ n, (foldE rs n).filter (fun e => inB ⟨#[]⟩ ⟨#[]⟩ e.key) = foldE rs n := fun n => cut_all rfl rfl
  have hsc : (scanL rs i ⟨#[]⟩ ⟨#[]⟩).filter (fun e => inB key fin e.key) = scanL rs i key fin := by
    unfold scanL; split
    · rw [hall]
    · rfl
  have hle : (scanL rs i ⟨#[]⟩ ⟨#[]⟩).length ≤ 2097152 := by
    unfold scanL; split
    · rename_i h
      have h3 := scanErr_zero h
      rw [hall]; exact len_foldE_le h3.1 (by omega)
    · simp
  have Hsc := Lib.hid hsc
  clear hall hsc
  go_enter Try.func26, Try.ntmps26
  go_wp2_with fail
  refine (rstore_any A len cap rs i _ hw hl).mono ?_
  rintro e w1 ⟨v, rfl, hv, hb1⟩
  obtain ⟨Ao, co, rfl, hrow, hnil, hcap⟩ := hv.row
  have hs1 := hb1.size
  have Hb1 := Lib.hid hb1
  clear hv hb1 hnil
  go_wp2_with fail
  refine (rstretch_any Ao _ co _ key fin _ hrow (by omega)).mono ?_
  rintro e w2 ⟨v, rfl, hv2, hb2⟩
  rw [Hsc.out] at hv2
  have Hv2 := Lib.hid (hv2.more hs1)
  have Hb2 := Lib.hid (Hb1.out.trans (hb2.mono hs1))
  clear hv2 hb2
  go_wp2_with fail
  go_ret2
  exact ⟨_, rfl, Hv2.out, Hb2.out⟩
end Go.Proofs.Ytdcnaieieggclaa

/- The reference's Get and Writer; lists of entries that are the same. -/

namespace Go.Proofs.Ytdcnaieieggclaa
open Go.RowKit
set_option linter.unusedVariables false
set_option linter.unusedSimpArgs false

open Go.Maps
set_option maxHeartbeats 1000000 in
/-- Two rows of one list are the same. -/
theorem sameE_any (A1 : Option Addr) (len cap1 : Nat) (A2 : Option Addr) (cap2 : Nat) (xs : List Ent) (w : World) (h1 : RowAt Ent.cells 2 w w.heap.size A1 len xs) (h2 : RowAt Ent.cells 2 w w.heap.size A2 len xs) (hl : len ≤ 4398046511104) :
    Calls Try.prog 22 #[.slice A1 len cap1, .slice A2 len cap2] w fun e w' => e = .returned (.bool true) ∧ Below w.heap.size w w' := by
  have hb0 := beq_self_eq_true (len : Int)
  go_enter Try.func22, Try.ntmps22
  go_wp2_with fail
  go_loopw [5] (fun i wr => ∃ k : Nat, k ≤ len ∧ i = .int .i64 k ∧ Below w.heap.size w wr) (fun i _ => len - (RowKit.intOf i).toNat)
  case atStart => exact ⟨0, Nat.zero_le _, rfl, Below.refl _ _⟩
  case round =>
    obtain ⟨k, hk, rfl, hb⟩ := hrel
    have hr := h1.below hb
    have ht := h2.below hb
    have Hb := Lib.hid hb
    have hs := hb.size
    clear hb
    by_cases hlt : k < len
    · obtain ⟨b, off, x, rfl, hbl, hx, hxc⟩ := hr.at_ hlt
      have x0 := hxc 0 _ rfl
      have x1 := hxc 1 _ rfl
      simp only [Nat.add_zero] at x0
      obtain ⟨b', off', y, rfl, hbl', hy, hyc⟩ := ht.at_ hlt
      have y0 := hyc 0 _ rfl
      have y1 := hyc 1 _ rfl
      simp only [Nat.add_zero] at y0
      obtain rfl : y = x := by rw [hx] at hy; exact (Option.some.inj hy).symm
      clear hx hy hxc hyc hr ht
      go_wp2_with fail
      go_quiet (fail)
      go_wp2_with fail
      exact ⟨⟨k + 1, by omega, by go_num, below_drewN Hb.out _⟩, by simp [RowKit.intOf]; omega⟩
    · obtain rfl : k = len := by omega
      go_wp2_with fail
      go_ret
      exact ⟨rfl, Hb.out⟩
def GetPost (w : World) (rs : List RTx) (i : Int) (k : ByteArray) (e : Ending) (w' : World) : Prop := e = .returned (.tuple #[.string ((getV rs i k).getD ⟨#[]⟩), .bool (getV rs i k).isSome, .int .i64 (getErr rs i k)]) ∧ Below w.heap.size w w'
set_option maxHeartbeats 1000000 in
theorem rget_good (A : Option Addr) (len cap : Nat) (rs : List RTx) (n : Nat) (k : ByteArray) (w : World) (hw : TxsAt w w.heap.size A len rs) (hl : len ≤ 4398046511104) (he : logErr rs 1 = 0) (hn : n ≤ len) (hk : keyB k = true) :
    Calls Try.prog 24 #[.slice A len cap, .int .i64 n, .string k] w fun e w' => e = .returned (.tuple #[.string ((mget (foldM rs n) k).getD ⟨#[]⟩), .bool (mget (foldM rs n) k).isSome, .int .i64 0]) ∧ Below w.heap.size w w' := by
  have hlen := Lib.hid hw.1.len
  have He := Lib.hid he
  have hfl : (foldE rs n).length ≤ 2097152 := len_foldE_le he (by have := hlen.out; omega)
  have hkey : ∀ W, Calls Try.prog 51 #[.string k] W fun e w' => e = .returned (.bool true) ∧ W = w' := fun W => by have := key_any k W; rwa [hk] at this
  have Hkey := Lib.hid hkey
  have hd : decide (len < n) = false := by rw [decide_eq_false_iff_not]; omega
  clear he hk hkey
  go_enter Try.func24, Try.ntmps24
  go_wp2_with fail
  refine (ref07check_any A len cap rs _ hw hl).mono ?_
  rintro e w1 ⟨rfl, hb1⟩
  rw [He.out]
  have hs1 := hb1.size
  have hw1 := (hw.below hb1).more hs1
  have Hb1 := Lib.hid hb1
  clear hb1
  go_wp2_with (go_at_call 51; refine (Hkey.out _).mono ?_; rintro e w' ⟨rfl, rfl⟩)
  refine (rfold_any A len cap rs n _ hw1 hl He.out hn).mono ?_
  rintro e w2 ⟨v, rfl, hv, hb2⟩
  obtain ⟨Ao, co, rfl, hrow, hnil, hcap⟩ := hv.row
  have hs2 := hb2.size
  have Hb2 := Lib.hid (Hb1.out.trans (hb2.mono hs1))
  clear hv hnil hb2
  go_wp2_with fail
  refine (rplace_any Ao _ co (foldE rs n) k _ hrow (by omega) (agree_fold rs n).1).mono ?_
  rintro e w3 ⟨p, hit, rfl, hp, hb3⟩
  have hrow3 := hrow.below hb3
  have Hb3 := Lib.hid (Hb2.out.trans (hb3.mono Hb2.out.size))
  have hg := hp.get (agree_fold rs n)
  rcases hg with ⟨rfl, x, hx, hm⟩ | ⟨rfl, hm⟩
  · have hpl := (List.getElem?_eq_some_iff.1 hx).1
    obtain ⟨bb, off, y, rfl, hbl, hy, y0, y1⟩ := ent_cell2 hrow3 hpl
    obtain rfl : y = x := by rw [hx] at hy; exact (Option.some.inj hy).symm
    have Hm := Lib.hid hm
    clear hm hx hy hp hb3 hrow3 hrow
    go_wp2_with fail
    go_ret3
    exact ⟨by rw [Hm.out]; rfl, Hb3.out⟩
  · have Hm := Lib.hid hm
    clear hm hp hb3 hrow3 hrow
    go_wp2_with fail
    go_ret3
    exact ⟨by rw [Hm.out]; rfl, Hb3.out⟩
theorem rget_any (A : Option Addr) (len cap : Nat) (rs : List RTx) (i : Int) (k : ByteArray) (w : World) (hw : TxsAt w w.heap.size A len rs) (hl : len ≤ 4398046511104) :
    Calls Try.prog 24 #[.slice A len cap, .int .i64 i, .string k] w (GetPost w rs i k) := by
  have hlen := hw.1.len
  unfold GetPost
  by_cases he : logErr rs 1 = 0
  · by_cases ha : i < 0 ∨ (len : Int) < i ∨ keyB k = false
    · have h1 : getErr rs i k = 1 := by
        by_cases hb : i < 0 ∨ (len : Int) < i
        · have hs : scanErr rs i = 1 := by unfold scanErr; rw [if_neg (by simpa using he), if_neg (by simp only [argB, Bool.and_eq_true, decide_eq_true_eq]; omega)]
          unfold getErr; rw [if_pos (by rw [hs]; decide), hs]
        · have hs : scanErr rs i = 0 := by unfold scanErr; rw [if_neg (by simpa using he), if_pos (by simp only [argB, Bool.and_eq_true, decide_eq_true_eq]; omega)]
          have hk : keyB k = false := by
            rcases ha with ha | ha | ha
            · omega
            · omega
            · exact ha
          unfold getErr; rw [if_neg (by rw [hs]; decide), hk]; rfl
      have h2 : getV rs i k = none := by unfold getV; rw [if_neg (by rw [h1]; decide)]
      rw [h1, h2]
      have He := Lib.hid he
      clear he h1 h2
      by_cases h1 : i < 0 <;> by_cases h3 : (len : Int) < i
      all_goals (cases hk : keyB k)
      all_goals first
        | (exfalso; simp [hk] at ha; omega)
        | (have Hk := Lib.hid hk
           clear hk ha
           have hkey : ∀ W, Calls Try.prog 51 #[.string k] W fun e w' => e = .returned (.bool _) ∧ W = w' := fun W => by have := key_any k W; rwa [Hk.out] at this
           go_enter Try.func24, Try.ntmps24
           go_wp2_with fail
           refine (ref07check_any A len cap rs _ hw hl).mono ?_
           rintro e w1 ⟨rfl, hb1⟩
           rw [He.out]
           have Hb1 := Lib.hid hb1
           clear hb1
           go_wp2_with (go_at_call 51; refine (hkey _).mono ?_; rintro e w' ⟨rfl, rfl⟩)
           go_ret3
           exact ⟨rfl, Hb1.out⟩)
    · have hk : keyB k = true := by
        cases h : keyB k
        · exact absurd (Or.inr (Or.inr h)) ha
        · rfl
      have hs : scanErr rs i = 0 := by unfold scanErr; rw [if_neg (by simpa using he), if_pos (by simp only [argB, Bool.and_eq_true, decide_eq_true_eq]; omega)]
      have h1 : getErr rs i k = 0 := by unfold getErr; rw [if_neg (by simpa using hs), if_pos hk]
      have h2 : getV rs i k = mget (foldM rs i.toNat) k := by unfold getV; rw [if_pos h1]
      rw [h1, h2]
      obtain ⟨n, rfl⟩ : ∃ n : Nat, i = n := ⟨i.toNat, by omega⟩
      rw [show ((n : Int)).toNat = n from by omega]
      exact rget_good A len cap rs n k w hw hl he (by omega) hk
  · have hs : scanErr rs i = logErr rs 1 := by unfold scanErr; rw [if_pos he]
    have h1 : getErr rs i k = logErr rs 1 := by unfold getErr; rw [if_pos (by rw [hs]; exact he), hs]
    have h2 : getV rs i k = none := by unfold getV; rw [if_neg (by rw [h1]; exact he)]
    rw [h1, h2]
    have hne : (logErr rs 1 != 0) = true := by simpa using he
    clear h1 h2 hs he
    go_enter Try.func24, Try.ntmps24
    go_wp2_with fail
    refine (ref07check_any A len cap rs _ hw hl).mono ?_
    rintro e w1 ⟨rfl, hb1⟩
    have Hb1 := Lib.hid hb1
    clear hb1
    go_wp2_with fail
    go_ret3
    exact ⟨rfl, Hb1.out⟩
set_option maxHeartbeats 1000000 in
theorem rwriter_good (A : Option Addr) (len cap : Nat) (rs : List RTx) (N : Nat) (k : ByteArray) (w : World) (hw : TxsAt w w.heap.size A len rs) (hl : len ≤ 4398046511104) (he : logErr rs 1 = 0) (hN1 : 1 ≤ N) (hN2 : N ≤ len + 1) (hk : keyB k = true) :
    Calls Try.prog 28 #[.slice A len cap, .int .i64 N, .string k] w fun e w' => e = .returned (.tuple #[.int .i64 (lastN rs k (N - 1) : Nat), .int .i64 0]) ∧ Below w.heap.size w w' := by
  have He := Lib.hid he
  have hkey : ∀ W, Calls Try.prog 51 #[.string k] W fun e w' => e = .returned (.bool true) ∧ W = w' := fun W => by have := key_any k W; rwa [hk] at this
  have Hkey := Lib.hid hkey
  have hd1 : decide ((N : Int) < 1) = false := by rw [decide_eq_false_iff_not]; omega
  have hd3 : decide (((len : Int) + 1) < (N : Int)) = false := by rw [decide_eq_false_iff_not]; omega
  clear he hk hkey
  go_enter Try.func28, Try.ntmps28
  go_wp2_with fail
  refine (ref07check_any A len cap rs _ hw hl).mono ?_
  rintro e w1 ⟨rfl, hb1⟩
  rw [He.out]
  have hs1 := hb1.size
  have hw1 := (hw.below hb1).more hs1
  have Hb1 := Lib.hid hb1
  clear hb1
  go_wp2_with (go_at_call 51; refine (Hkey.out _).mono ?_; rintro e w' ⟨rfl, rfl⟩)
  go_loopw [9] (fun n wr => ∃ t : Nat, t ≤ N - 1 ∧ n = .int .i64 t ∧ Hid (lastN rs k (N - 1) = lastN rs k t) ∧ Below w1.heap.size w1 wr) (fun n _ => (RowKit.intOf n).toNat)
  case atStart => exact ⟨N - 1, Nat.le_refl _, by congr 1 <;> omega, Lib.hid rfl, Below.refl _ _⟩
  case round =>
    obtain ⟨t, ht, rfl, Hln, hb⟩ := hrel
    have hr := hw1.below hb
    have hsr := hb.size
    have Hb := Lib.hid hb
    clear hb
    by_cases hlt : 1 ≤ t
    · obtain ⟨q, rfl⟩ : ∃ q, t = q + 1 := ⟨t - 1, by omega⟩
      obtain ⟨bb, off, r, rfl, hbl2, hx, x0, x1, hws, hrl⟩ := hr.cell2 (show q < len by omega)
      have hws2 := hws.more hsr
      have hsn : lastN rs k (q + 1) = if hasKey r.ws k = true then q + 1 else lastN rs k q := by rw [lastN, wsOf_get hx]
      have Hsn := Lib.hid hsn
      clear hx hr hws hsn
      go_wp2_with fail
      refine (writes_any r.number r.A r.len r.cap r.ws k _ hws2 (by omega)).mono ?_
      rintro e w2 ⟨rfl, hb2⟩
      have Hb2 := Lib.hid (Hb.out.trans (hb2.mono hsr))
      clear hb2
      cases hc : hasKey r.ws k
      · have Hc := Lib.hid hc
        clear hc
        go_wp2_with fail
        exact ⟨⟨q, by omega, by first | rfl | go_num, Lib.hid (by rw [Hln.out, Hsn.out, if_neg (by rw [Hc.out]; simp)]), Hb2.out⟩, by simp [RowKit.intOf]⟩
      · have Hc := Lib.hid hc
        clear hc
        go_wp2_with fail
        go_ret2
        exact ⟨by rw [Hln.out, Hsn.out, if_pos Hc.out]; rfl, Hb1.out.trans (Hb2.out.mono hs1)⟩
    · obtain rfl : t = 0 := by omega
      clear hr
      go_wp2_with fail
      go_ret2
      exact ⟨by rw [Hln.out]; rfl, Hb1.out.trans (Hb.out.mono hs1)⟩
theorem rwriter_any (A : Option Addr) (len cap : Nat) (rs : List RTx) (i : Int) (k : ByteArray) (w : World) (hw : TxsAt w w.heap.size A len rs) (hl : len ≤ 4398046511104) :
    Calls Try.prog 28 #[.slice A len cap, .int .i64 i, .string k] w (WriterPost w rs i k) := by
  have hlen := hw.1.len
  unfold WriterPost
  by_cases he : logErr rs 1 = 0
  · by_cases ha : i < 1 ∨ (len : Int) + 1 < i ∨ keyB k = false
    · have h1 : writerErr rs i k = 1 := by
        unfold writerErr
        rw [if_neg (by simpa using he), if_neg (by
          simp only [Bool.and_eq_true, decide_eq_true_eq]
          rintro ⟨⟨h1, h2⟩, h3⟩
          rcases ha with ha | ha | ha
          · omega
          · omega
          · rw [h3] at ha; cases ha)]
      have h2 : writerN rs i k = 0 := by unfold writerN; rw [if_neg (by rw [h1]; decide)]
      rw [h1, h2]
      have He := Lib.hid he
      clear he h1 h2
      by_cases h1 : i < 1 <;> by_cases h3 : (len : Int) + 1 < i
      all_goals (cases hk : keyB k)
      all_goals first
        | (exfalso; simp [hk] at ha; omega)
        | (have Hk := Lib.hid hk
           clear hk ha
           have hkey : ∀ W, Calls Try.prog 51 #[.string k] W fun e w' => e = .returned (.bool _) ∧ W = w' := fun W => by have := key_any k W; rwa [Hk.out] at this
           go_enter Try.func28, Try.ntmps28
           go_wp2_with fail
           refine (ref07check_any A len cap rs _ hw hl).mono ?_
           rintro e w1 ⟨rfl, hb1⟩
           rw [He.out]
           have Hb1 := Lib.hid hb1
           clear hb1
           go_wp2_with (go_at_call 51; refine (hkey _).mono ?_; rintro e w' ⟨rfl, rfl⟩)
           go_ret2
           exact ⟨rfl, Hb1.out⟩)
    · have hk : keyB k = true := by
        cases h : keyB k
        · exact absurd (Or.inr (Or.inr h)) ha
        · rfl
      have hb : 1 ≤ i ∧ i ≤ (len : Int) + 1 := by omega
      have h1 : writerErr rs i k = 0 := by
        unfold writerErr
        rw [if_neg (by simpa using he), if_pos (by simp only [Bool.and_eq_true, decide_eq_true_eq]; exact ⟨⟨hb.1, by omega⟩, hk⟩)]
      have h2 : writerN rs i k = (lastN rs k (i - 1).toNat : Nat) := by unfold writerN; rw [if_pos h1]
      rw [h1, h2]
      obtain ⟨n, rfl⟩ : ∃ n : Nat, i = n := ⟨i.toNat, by omega⟩
      have := rwriter_good A len cap rs n k w hw hl he (by omega) (by omega) hk
      rwa [show ((n : Int) - 1).toNat = n - 1 from by omega]
  · have h1 : writerErr rs i k = logErr rs 1 := by unfold writerErr; rw [if_pos he]
    have h2 : writerN rs i k = 0 := by unfold writerN; rw [if_neg (by rw [h1]; exact he)]
    rw [h1, h2]
    have hne : (logErr rs 1 != 0) = true := by simpa using he
    clear h1 h2 he
    go_enter Try.func28, Try.ntmps28
    go_wp2_with fail
    refine (ref07check_any A len cap rs _ hw hl).mono ?_
    rintro e w1 ⟨rfl, hb1⟩
    have Hb1 := Lib.hid hb1
    clear hb1
    go_wp2_with fail
    go_ret2
    exact ⟨rfl, Hb1.out⟩
end Go.Proofs.Ytdcnaieieggclaa

/- FoldReads: the walk of its law. -/
namespace Go.Proofs.Ytdcnaieieggclaa
open Go.RowKit
set_option linter.unusedVariables false
set_option linter.unusedSimpArgs false

open Go.Maps
theorem scanErr_congr {rs rs' : List RTx} (h : rs'.map (fun r => (r.number, r.ws)) = rs.map (fun r => (r.number, r.ws))) (i : Int) : scanErr rs' i = scanErr rs i := by
  have hl : rs'.length = rs.length := by simpa using congrArg List.length h
  unfold scanErr argB; rw [logErr_congr h, hl]
theorem allW_congr {rs rs' : List RTx} (h : rs'.map (fun r => (r.number, r.ws)) = rs.map (fun r => (r.number, r.ws))) (n : Nat) : allW rs' n = allW rs n := by
  have h2 : rs'.map RTx.ws = rs.map RTx.ws := by
    have := congrArg (List.map Prod.snd) h
    simpa [List.map_map, Function.comp_def] using this
  unfold allW
  rw [List.flatMap_def, List.flatMap_def, List.map_take, List.map_take, h2]
theorem scanL_congr {rs rs' : List RTx} (h : rs'.map (fun r => (r.number, r.ws)) = rs.map (fun r => (r.number, r.ws))) (i : Int) (key fin : ByteArray) : scanL rs' i key fin = scanL rs i key fin := by
  unfold scanL foldE; rw [scanErr_congr h, allW_congr h]
theorem getErr_congr {rs rs' : List RTx} (h : rs'.map (fun r => (r.number, r.ws)) = rs.map (fun r => (r.number, r.ws))) (i : Int) (k : ByteArray) : getErr rs' i k = getErr rs i k := by
  unfold getErr; rw [scanErr_congr h]
theorem getV_congr {rs rs' : List RTx} (h : rs'.map (fun r => (r.number, r.ws)) = rs.map (fun r => (r.number, r.ws))) (i : Int) (k : ByteArray) : getV rs' i k = getV rs i k := by
  unfold getV foldM; rw [getErr_congr h, allW_congr h]
theorem lastN_congr {rs rs' : List RTx} (h : rs'.map (fun r => (r.number, r.ws)) = rs.map (fun r => (r.number, r.ws))) (k : ByteArray) : ∀ n, lastN rs' k n = lastN rs k n
  | 0 => rfl
  | n + 1 => by rw [lastN, lastN, wsOf_congr h, lastN_congr h k n]
theorem writerErr_congr {rs rs' : List RTx} (h : rs'.map (fun r => (r.number, r.ws)) = rs.map (fun r => (r.number, r.ws))) (i : Int) (k : ByteArray) : writerErr rs' i k = writerErr rs i k := by
  have hl : rs'.length = rs.length := by simpa using congrArg List.length h
  unfold writerErr; rw [logErr_congr h, hl]
theorem writerN_congr {rs rs' : List RTx} (h : rs'.map (fun r => (r.number, r.ws)) = rs.map (fun r => (r.number, r.ws))) (i : Int) (k : ByteArray) : writerN rs' i k = writerN rs i k := by
  unfold writerN; rw [writerErr_congr h, lastN_congr h]
def TrueB (w : World) (e : Ending) (w' : World) : Prop := e = .returned (.bool true) ∧ Below w.heap.size w w'
set_option maxHeartbeats 4000000 in
set_option maxRecDepth 100000 in
theorem lawreads_any (A : Option Addr) (len cap : Nat) (rs : List RTx) (a b : Int) (key fin : ByteArray) (w : World) (hw : TxsAt w w.heap.size A len rs) (hl : len * 32 ≤ 140737488351232) (hc : len ≤ cap)
    (hs : ∀ r ∈ rs, ∀ x ∈ r.ws, x.key.size ≤ 140737488351232 ∧ x.val.size ≤ 140737488351232) (hk1 : key.size ≤ 140737488351232) (hk2 : fin.size ≤ 140737488351232) :
    Calls Try.prog 6 #[.slice A len cap, .agg #[.int .i64 a, .int .i64 b, .string key, .string fin]] w (TrueB w) := by
  have hlen := Lib.hid hw.1.len
  obtain ⟨W1, hW1⟩ : ∃ W1 : World, W1 = w.alloc (.cells #[.int .i64 a, .int .i64 b, .string key, .string fin] 49) := ⟨_, rfl⟩
  have hz : W1.heap.size = w.heap.size + 1 := by rw [hW1]; simp
  have hB : Below w.heap.size w W1 := by rw [hW1]; exact (Below.refl _ _).alloc (Nat.le_refl _) _
  have hKw : ∀ X : World, Below W1.heap.size W1 X → X.cell? ⟨w.heap.size, 0, none⟩ = some (.int .i64 a) ∧ X.cell? ⟨w.heap.size, 1, none⟩ = some (.int .i64 b) ∧ X.cell? ⟨w.heap.size, 2, none⟩ = some (.string key) ∧ X.cell? ⟨w.heap.size, 3, none⟩ = some (.string fin) := fun X h =>
    have hh : w.heap.size < W1.heap.size := by omega
    ⟨(h.cell (p := ⟨w.heap.size, 0, none⟩) hh).trans (by rw [hW1]; simp [go_sem]), (h.cell (p := ⟨w.heap.size, 1, none⟩) hh).trans (by rw [hW1]; simp [go_sem]), (h.cell (p := ⟨w.heap.size, 2, none⟩) hh).trans (by rw [hW1]; simp [go_sem]), (h.cell (p := ⟨w.heap.size, 3, none⟩) hh).trans (by rw [hW1]; simp [go_sem])⟩
  have HKw := Lib.hid hKw
  have hwW := (hw.below hB).more hB.size
  have hwWd : TxsAt W1.drew W1.drew.heap.size A len rs := hwW
  have HwWd := Lib.hid hwWd
  have Hk23 := Lib.hid (fun (X : World) (h : Below W1.heap.size W1 X) => (hKw X h).2.2)
  have Hz := Lib.hid hz
  have HB := Lib.hid hB
  have Hs := Lib.hid hs
  obtain ⟨k0, k1, k2, k3⟩ := hKw W1 (Below.refl _ _)
  clear hz hB hKw hwWd hs
  go_enter Try.func6, Try.ntmps6
  go_wp2_with fail
  rw [← hW1]
  have HW1 := Lib.hid hW1
  clear hW1
  go_region_held3 (fun w' => w'.cell? ⟨w.heap.size, 2, none⟩ = some (.string key) ∧ w'.cell? ⟨w.heap.size, 3, none⟩ = some (.string fin))
    (first | (refine Hk23.out _ ?_; (first | exact bel_drew (Below.refl _ _) | exact Hb1.out | exact bel_alloc Hb1.out _ | exact Hb2.out)))
    (first
      | (go_at_call 13; refine (txsize_any A len cap rs _ HwWd.out (by omega) Hs.out).mono ?_; rintro e w1 ⟨q, rfl, q0, q1, hb1⟩; have hbx : Below W1.heap.size W1 w1 := (Below.refl _ _).drew.trans hb1; have hs1 := hbx.size; obtain ⟨g0, g1, g2, g3⟩ := HKw.out _ hbx; have Hb1 := Lib.hid hbx; clear hb1 hbx)
      | (go_at_call 12; refine (beyond_any (some ⟨w1.heap.size, 0, none⟩) 3 3 [q, (key.size : Int), (fin.size : Int)] _ (by exact rowAt_block [q, (key.size : Int), (fin.size : Int)] (len_int _) (blk_new _ _) (by simp) (fun j u hu => by simpa [Icell] using hu)) (by omega) (fun x hx => by simp at hx; omega)).mono ?_; rintro e w2 ⟨bb, rfl, hb2⟩; have hbx2 : Below W1.heap.size W1 w2 := (bel_alloc Hb1.out _).trans (hb2.mono (by simp; omega)); obtain ⟨e0, e1, e2, e3⟩ := HKw.out _ hbx2; have Hb2 := Lib.hid hbx2; clear hb2 hbx2))
  have hs2 := Hb2.out.size
  have hw2 : TxsAt w2 w2.heap.size A len rs := (hw.below (HB.out.trans (Hb2.out.mono (by have := Hz.out; omega)))).more (by have := Hz.out; omega)
  cases bb
  case true =>
    clear hw2
    go_wp2_with fail
    go_ret
    exact ⟨rfl, HB.out.trans (Hb2.out.mono (by have := Hz.out; omega))⟩
  case false =>
    go_wp2_with fail
    refine (twins_any A len cap rs _ hw2 hl).mono ?_
    rintro e w3 ⟨rs', hl', rfl, hblk, htw, hb3⟩
    have hs3 := hb3.size
    have htx3 := txs_of_twin hl' hlen.out hblk htw (fun r hr => (hw.2 r hr).2)
    have hsame := tw_same htw (by rw [hl', hlen.out])
    have hlt3 : w2.heap.size < w3.heap.size := blk_lt hblk
    have h13 : Below W1.heap.size W1 w3 := Hb2.out.trans (hb3.mono hs2)
    have h03 : Below w.heap.size w w3 := HB.out.trans (h13.mono (by have := Hz.out; omega))
    have hT : ∀ X : World, Below w3.heap.size w3 X → TxsAt X X.heap.size (some ⟨w2.heap.size, 0, none⟩) len rs' ∧ TxsAt X X.heap.size A len rs ∧ X.cell? ⟨w.heap.size, 0, none⟩ = some (.int .i64 a) ∧ X.cell? ⟨w.heap.size, 1, none⟩ = some (.int .i64 b) ∧ X.cell? ⟨w.heap.size, 2, none⟩ = some (.string key) ∧ X.cell? ⟨w.heap.size, 3, none⟩ = some (.string fin) ∧ w3.heap.size ≤ X.heap.size := fun X h => by
      have h1 : Below W1.heap.size W1 X := h13.trans (h.mono (by have := h13.size; omega))
      have h0 : Below w.heap.size w X := h03.trans (h.mono h03.size)
      obtain ⟨c0, c1, c2, c3⟩ := HKw.out X h1
      exact ⟨(htx3.below h).more h.size, (hw.below h0).more h0.size, c0, c1, c2, c3, h.size⟩
    have hL : ∀ X : World, Below w3.heap.size w3 X → X.heap[w2.heap.size]? = some (.cells ((rs' ++ [spT]).flatMap RTx.cells).toArray 37 (0, 0)) ∧ TwAll X w2.heap.size rs rs' ∧ Below w.heap.size w X := fun X h =>
      ⟨(h.block _ hlt3).trans hblk, htw.keep h.size (fun q _ hq => h.block q hq), h03.trans (h.mono h03.size)⟩
    have hg1 : getV rs' a key = getV rs a key := getV_congr hsame a key
    have hg2 : getErr rs' a key = getErr rs a key := getErr_congr hsame a key
    have hg3 : scanErr rs' a = scanErr rs a := scanErr_congr hsame a
    have hg4 : scanL rs' a key fin = scanL rs a key fin := scanL_congr hsame a key fin
    have hg5 : writerN rs' b key = writerN rs b key := writerN_congr hsame b key
    have hg6 : writerErr rs' b key = writerErr rs b key := writerErr_congr hsame b key
    have hsl : (scanL rs a key fin).length ≤ 2097152 := by
      unfold scanL; split
      · rename_i h
        have h3 := scanErr_zero h
        exact Nat.le_trans (List.length_filter_le _ _) (len_foldE_le h3.1 (by omega))
      · simp
    have hcg1 : ∀ X : World, TxsAt X X.heap.size (some ⟨w2.heap.size, 0, none⟩) len rs' → Calls Try.prog 23 #[.slice (some ⟨w2.heap.size, 0, none⟩) len (len + 1), .int .i64 a, .string key] X (GetPost X rs a key) := fun X h => by
      unfold GetPost; rw [← hg1, ← hg2]; exact fget_any _ len (len + 1) rs' a key X h (by omega) (by omega)
    have hcg2 : ∀ X : World, TxsAt X X.heap.size (some ⟨w2.heap.size, 0, none⟩) len rs' → Calls Try.prog 25 #[.slice (some ⟨w2.heap.size, 0, none⟩) len (len + 1), .int .i64 a, .string key, .string fin] X (ScanPost X rs a key fin) := fun X h => by
      unfold ScanPost; rw [← hg3, ← hg4]; exact fscan_any _ len (len + 1) rs' a key fin X h (by omega) (by omega)
    have hcg3 : ∀ X : World, TxsAt X X.heap.size (some ⟨w2.heap.size, 0, none⟩) len rs' → Calls Try.prog 27 #[.slice (some ⟨w2.heap.size, 0, none⟩) len (len + 1), .int .i64 b, .string key] X (WriterPost X rs b key) := fun X h => by
      unfold WriterPost; rw [← hg5, ← hg6]; exact fwriter_any _ len (len + 1) rs' b key X h (by omega)
    have hcr1 : ∀ X : World, TxsAt X X.heap.size A len rs → Calls Try.prog 24 #[.slice A len cap, .int .i64 a, .string key] X (GetPost X rs a key) := fun X h => rget_any A len cap rs a key X h (by omega)
    have hcr2 : ∀ X : World, TxsAt X X.heap.size A len rs → Calls Try.prog 26 #[.slice A len cap, .int .i64 a, .string key, .string fin] X (ScanPost X rs a key fin) := fun X h => rscan_any A len cap rs a key fin X h (by omega)
    have hcr3 : ∀ X : World, TxsAt X X.heap.size A len rs → Calls Try.prog 28 #[.slice A len cap, .int .i64 b, .string key] X (WriterPost X rs b key) := fun X h => rwriter_any A len cap rs b key X h (by omega)
    unfold GetPost at hcg1 hcr1
    unfold ScanPost at hcg2 hcr2
    unfold WriterPost at hcg3 hcr3
    generalize (getV rs a key).getD ⟨#[]⟩ = gs at hcg1 hcr1
    generalize (getV rs a key).isSome = gb at hcg1 hcr1
    generalize getErr rs a key = ge at hcg1 hcr1
    generalize scanErr rs a = se at hcg2 hcr2
    generalize scanL rs a key fin = sl at hcg2 hcr2 hsl
    generalize writerN rs b key = wn at hcg3 hcr3
    generalize writerErr rs b key = we at hcg3 hcr3
    have HT := Lib.hid hT
    have HL := Lib.hid hL
    have G1 := Lib.hid hcg1
    have G2 := Lib.hid hcg2
    have G3 := Lib.hid hcg3
    have R1 := Lib.hid hcr1
    have R2 := Lib.hid hcr2
    have R3 := Lib.hid hcr3
    have Hl' := Lib.hid hl'
    obtain ⟨t3, u3, c0, c1, c2, c3, -⟩ := hT w3 (Below.refl _ _)
    clear hT hL hcg1 hcg2 hcg3 hcr1 hcr2 hcr3 hl' hblk htw hsame h13 h03 hg1 hg2 hg3 hg4 hg5 hg6 hb3 htx3 k0 k1 k2 k3 hw2
    go_wp2_with fail
    refine (G1.out _ t3).mono ?_
    rintro e w4 ⟨rfl, hb4⟩
    obtain ⟨t4, u4, d0, d1, d2, d3, hs4⟩ := HT.out _ hb4
    have Hb4 := Lib.hid hb4
    clear hb4 t3 u3 c0 c1 c2 c3
    go_wp2_with fail
    refine (R1.out _ u4).mono ?_
    rintro e w5 ⟨rfl, hb5⟩
    have hb35 := Hb4.out.trans (hb5.mono hs4)
    obtain ⟨t5, u5, c0, c1, c2, c3, hs5⟩ := HT.out _ hb35
    have Hb5 := Lib.hid hb35
    clear hb5 hb35 t4 u4 d0 d1 d2 d3
    go_wp2_with fail
    refine (G2.out _ t5).mono ?_
    rintro e w6 ⟨v1, rfl, ho1, hb6⟩
    obtain ⟨Ao, co, rfl, hrow1, -, -⟩ := ho1.row
    have hb36 := Hb5.out.trans (hb6.mono hs5)
    obtain ⟨t6, u6, d0, d1, d2, d3, hs6⟩ := HT.out _ hb36
    have Hb6 := Lib.hid hb36
    clear hb6 hb36 t5 u5 c0 c1 c2 c3 ho1
    go_wp2_with fail
    refine (R2.out _ u6).mono ?_
    rintro e w7 ⟨v2, rfl, ho2, hb7⟩
    obtain ⟨Ar, cr, rfl, hrow2, -, -⟩ := ho2.row
    have hrow1 := (hrow1.below hb7).more hb7.size
    have hb37 := Hb6.out.trans (hb7.mono hs6)
    obtain ⟨t7, u7, c0, c1, c2, c3, hs7⟩ := HT.out _ hb37
    have Hb7 := Lib.hid hb37
    clear hb7 hb37 t6 u6 d0 d1 d2 d3 ho2
    go_wp2_with fail
    refine (G3.out _ t7).mono ?_
    rintro e w8 ⟨rfl, hb8⟩
    have hrow1 := (hrow1.below hb8).more hb8.size
    have hrow2 := (hrow2.below hb8).more hb8.size
    have hb38 := Hb7.out.trans (hb8.mono hs7)
    obtain ⟨t8, u8, d0, d1, d2, d3, hs8⟩ := HT.out _ hb38
    have Hb8 := Lib.hid hb38
    clear hb8 hb38 t7 u7 c0 c1 c2 c3
    go_wp2_with fail
    refine (R3.out _ u8).mono ?_
    rintro e w9 ⟨rfl, hb9⟩
    have hrow1 := (hrow1.below hb9).more hb9.size
    have hrow2 := (hrow2.below hb9).more hb9.size
    have hb39 := Hb8.out.trans (hb9.mono hs8)
    obtain ⟨t9, u9, -, -, -, -, hs9⟩ := HT.out _ hb39
    have Hb9 := Lib.hid hb39
    clear hb9 hb39 t8 u8 d0 d1 d2 d3
    go_wp2_with fail
    refine (sameE_any Ao _ co Ar cr sl _ hrow1 hrow2 (by omega)).mono ?_
    rintro e w10 ⟨rfl, hb10⟩
    have hb310 := Hb9.out.trans (hb10.mono hs9)
    obtain ⟨t10, u10, -, -, -, -, hs10⟩ := HT.out _ hb310
    obtain ⟨l1, l2, l3⟩ := HL.out _ hb310
    have L1 := Lib.hid l1
    have L2 := Lib.hid l2
    have L3 := Lib.hid l3
    clear hb10 hb310 t9 u9 hrow1 hrow2 l1 l2 l3
    go_wp2_with fail
    refine (lefts_any w2.heap.size A len cap rs rs' _ Hl'.out L1.out L2.out u10 hl).mono ?_
    rintro e w11 ⟨rfl, hb11⟩
    have Hb11 := Lib.hid (L3.out.trans (hb11.mono L3.out.size))
    clear hb11 t10 u10
    go_wp2_with fail
    go_ret
    exact ⟨rfl, Hb11.out⟩
end Go.Proofs.Ytdcnaieieggclaa

/- Helpers of the statements of layer 7: a log of their own, last writes, whether a log may be. -/

namespace Go.Proofs.Ytdcnaieieggclaa
open Go.RowKit
set_option linter.unusedVariables false
set_option linter.unusedSimpArgs false

open Go.Maps
def wr_ (k v : ByteArray) (d : Bool) : Wr := ⟨k, v, d⟩
def logR : List RTx := [⟨1, none, 0, 0, [⟨⟨#[97]⟩, ⟨#[49]⟩, false⟩]⟩, ⟨2, none, 0, 0, [⟨⟨#[98]⟩, ⟨#[50]⟩, false⟩]⟩, ⟨3, none, 0, 0, [⟨⟨#[97]⟩, ⟨#[51]⟩, false⟩, ⟨⟨#[98]⟩, ⟨#[]⟩, true⟩]⟩]
theorem alloc4 (w : World) (o p q r : Obj) : ((((w.alloc o).alloc p).alloc q).alloc r).heap[w.heap.size]? = some o ∧ ((((w.alloc o).alloc p).alloc q).alloc r).heap[w.heap.size + 1]? = some p ∧ ((((w.alloc o).alloc p).alloc q).alloc r).heap[w.heap.size + 2]? = some q ∧ ((((w.alloc o).alloc p).alloc q).alloc r).heap[w.heap.size + 3]? = some r := by
  have h1 : (w.alloc o).heap.size = w.heap.size + 1 := by simp
  have h2 : ((w.alloc o).alloc p).heap.size = w.heap.size + 2 := by simp
  have h3 : (((w.alloc o).alloc p).alloc q).heap.size = w.heap.size + 3 := by simp
  refine ⟨?_, ?_, ?_, ?_⟩
  · rw [Below.heap_alloc _ _ _ (by omega), Below.heap_alloc _ _ _ (by omega), Below.heap_alloc _ _ _ (by omega)]; exact blk_new _ _
  · rw [Below.heap_alloc _ _ _ (by omega), Below.heap_alloc _ _ _ (by omega), ← h1]; exact blk_new _ _
  · rw [Below.heap_alloc _ _ _ (by omega), ← h2]; exact blk_new _ _
  · rw [← h3]; exact blk_new _ _
theorem row_blk {α : Type} {cells : α → List Value} {size : Nat} {w : World} {b B : Nat} {t : TypeId} {fr : Nat × Nat} (xs : List α) (hs : ∀ x ∈ xs, (cells x).length = size) (hb : b < B)
    (h : w.heap[b]? = some (.cells (xs.flatMap cells).toArray t fr)) : RowAt cells size w B (some ⟨b, 0, none⟩) xs.length xs := rowAt_block xs hs h hb (fun j u hu => by simpa using hu)
def LogPost (w : World) (e : Ending) (w' : World) : Prop := ∃ A rs, e = .returned (.slice A 3 3) ∧ TxsAt w' w'.heap.size A 3 rs ∧ rs.map (fun r => (r.number, r.ws)) = logR.map (fun r => (r.number, r.ws)) ∧ Below w.heap.size w w'
set_option maxHeartbeats 1000000 in
theorem log_any (w : World) : Calls Try.prog 48 #[] w (LogPost w) := by
  go_enter Try.func48, Try.ntmps48
  go_wp2_with fail
  go_ret
  refine ⟨_, [⟨1, some ⟨w.heap.size, 0, none⟩, 1, 1, [⟨⟨#[97]⟩, ⟨#[49]⟩, false⟩]⟩, ⟨2, some ⟨w.heap.size + 1, 0, none⟩, 1, 1, [⟨⟨#[98]⟩, ⟨#[50]⟩, false⟩]⟩, ⟨3, some ⟨w.heap.size + 2, 0, none⟩, 2, 2, [⟨⟨#[97]⟩, ⟨#[51]⟩, false⟩, ⟨⟨#[98]⟩, ⟨#[]⟩, true⟩]⟩], rfl, ⟨?_, ?_⟩, rfl, ?_⟩
  · refine row_blk (t := 37) (fr := (0, 0)) (b := w.heap.size + 3) [_, _, _] (len_tx _) (by simp) ?_
    exact (alloc4 _ _ _ _ _).2.2.2
  · intro r hr
    simp only [List.mem_cons, List.not_mem_nil, or_false] at hr
    rcases hr with rfl | rfl | rfl
    · refine ⟨row_blk (t := 39) (fr := (0, 0)) [_] (len_wr _) (by simp; omega) ?_, by simp⟩
      exact (alloc4 _ _ _ _ _).1
    · refine ⟨row_blk (t := 39) (fr := (0, 0)) [_] (len_wr _) (by simp) ?_, by simp⟩
      exact (alloc4 _ _ _ _ _).2.1
    · refine ⟨row_blk (t := 39) (fr := (0, 0)) [_, _] (len_wr _) (by simp) ?_, by simp⟩
      exact (alloc4 _ _ _ _ _).2.2.1
  · exact bel_alloc (bel_alloc (bel_alloc (bel_alloc (Below.refl _ _) _) _) _) _
theorem ans_log {rs : List RTx} (h : rs.map (fun r => (r.number, r.ws)) = logR.map (fun r => (r.number, r.ws))) :
    (scanErr rs 2 = 0 ∧ scanErr rs 3 = 0 ∧ scanErr rs 4 = 1) ∧ (scanL rs 2 ⟨#[]⟩ ⟨#[]⟩ = [⟨⟨#[97]⟩, ⟨#[49]⟩⟩, ⟨⟨#[98]⟩, ⟨#[50]⟩⟩] ∧ scanL rs 3 ⟨#[]⟩ ⟨#[]⟩ = [⟨⟨#[97]⟩, ⟨#[51]⟩⟩]) ∧ chainAns rs 1 2 = (false, 0) ∧ chainAns rs 1 3 = (true, 0) := by
  refine ⟨⟨?_, ?_, ?_⟩, ⟨?_, ?_⟩, ?_, ?_⟩
  · rw [scanErr_congr h]; decide +kernel
  · rw [scanErr_congr h]; decide +kernel
  · rw [scanErr_congr h]; decide +kernel
  · rw [scanL_congr h]; kernel_rfl
  · rw [scanL_congr h]; kernel_rfl
  · rw [chainAns_congr h]; decide +kernel
  · rw [chainAns_congr h]; decide +kernel
def AlivePost (w : World) (e : Ending) (w' : World) : Prop := e = .returned (.bool true) ∧ Below w.heap.size w w'
set_option maxHeartbeats 4000000 in
set_option maxRecDepth 100000 in
theorem alive_any (w : World) : Calls Try.prog 18 #[] w (AlivePost w) := by
  go_enter Try.func18, Try.ntmps18
  go_wp2_with fail
  refine (log_any _).mono ?_
  rintro e w1 ⟨A1, rs1, rfl, ht1, hm1, hb1⟩
  have hs1 := hb1.size
  obtain ⟨⟨h12, h13, h14⟩, ⟨l12, l13⟩, c12, c13⟩ := ans_log hm1
  have hc1 := fstore_any A1 3 3 rs1 2 w1 ht1 (by omega) (by omega)
  unfold ScanPost at hc1
  rw [h12, l12] at hc1
  have Hc1 := Lib.hid hc1
  have Hb1 := Lib.hid hb1
  clear ht1 hm1 hb1 h12 h13 h14 l12 l13 c12 c13 hc1
  go_wp2_with fail
  refine Hc1.out.mono ?_
  rintro e w2 ⟨v2, rfl, ho2, hb2⟩
  obtain ⟨A2, co2, rfl, hrow2, -, -⟩ := ho2.row
  have hs2 := hb2.size
  have Hb2 := Lib.hid (Hb1.out.trans (hb2.mono hs1))
  clear hb2 ho2 Hc1
  go_wp2_with fail
  refine (log_any _).mono ?_
  rintro e w3 ⟨A3, rs3, rfl, ht3, hm3, hb3⟩
  have hs3 := hb3.size
  have hrow2 := (hrow2.below hb3).more hs3
  obtain ⟨⟨h12, h13, h14⟩, ⟨l12, l13⟩, c12, c13⟩ := ans_log hm3
  have hc1 := fstore_any A3 3 3 rs3 3 w3 ht3 (by omega) (by omega)
  unfold ScanPost at hc1
  rw [h13, l13] at hc1
  have Hc1 := Lib.hid hc1
  have Hb3 := Lib.hid (Hb2.out.trans (hb3.mono (by omega)))
  clear ht3 hm3 hb3 h12 h13 h14 l12 l13 c12 c13 hc1
  go_wp2_with fail
  refine Hc1.out.mono ?_
  rintro e w4 ⟨v4, rfl, ho4, hb4⟩
  obtain ⟨A4, co4, rfl, hrow4, -, -⟩ := ho4.row
  have hs4 := hb4.size
  have hrow2 := (hrow2.below hb4).more hs4
  have Hb4 := Lib.hid (Hb3.out.trans (hb4.mono (by omega)))
  clear hb4 ho4 Hc1
  go_wp2_with fail
  refine (log_any _).mono ?_
  rintro e w5 ⟨A5, rs5, rfl, ht5, hm5, hb5⟩
  have hs5 := hb5.size
  have hrow2 := (hrow2.below hb5).more hs5
  have hrow4 := (hrow4.below hb5).more hs5
  obtain ⟨⟨h12, h13, h14⟩, ⟨l12, l13⟩, c12, c13⟩ := ans_log hm5
  have hc1 := chained_any A5 3 3 rs5 1 2 w5 ht5 (by omega)
  rw [c12] at hc1
  have Hc1 := Lib.hid hc1
  have Hb5 := Lib.hid (Hb4.out.trans (hb5.mono (by omega)))
  clear ht5 hm5 hb5 h12 h13 h14 l12 l13 c12 c13 hc1
  go_wp2_with fail
  refine Hc1.out.mono ?_
  rintro e w6 ⟨rfl, hb6⟩
  have hs6 := hb6.size
  have hrow2 := (hrow2.below hb6).more hs6
  have hrow4 := (hrow4.below hb6).more hs6
  have Hb6 := Lib.hid (Hb5.out.trans (hb6.mono (by omega)))
  clear hb6 Hc1
  go_wp2_with fail
  refine (log_any _).mono ?_
  rintro e w7 ⟨A7, rs7, rfl, ht7, hm7, hb7⟩
  have hs7 := hb7.size
  have hrow2 := (hrow2.below hb7).more hs7
  have hrow4 := (hrow4.below hb7).more hs7
  obtain ⟨⟨h12, h13, h14⟩, ⟨l12, l13⟩, c12, c13⟩ := ans_log hm7
  have hc1 := chained_any A7 3 3 rs7 1 3 w7 ht7 (by omega)
  rw [c13] at hc1
  have Hc1 := Lib.hid hc1
  have Hb7 := Lib.hid (Hb6.out.trans (hb7.mono (by omega)))
  clear ht7 hm7 hb7 h12 h13 h14 l12 l13 c12 c13 hc1
  go_wp2_with fail
  refine Hc1.out.mono ?_
  rintro e w8 ⟨rfl, hb8⟩
  have hs8 := hb8.size
  have hrow2 := (hrow2.below hb8).more hs8
  have hrow4 := (hrow4.below hb8).more hs8
  have Hb8 := Lib.hid (Hb7.out.trans (hb8.mono (by omega)))
  clear hb8 Hc1
  go_wp2_with fail
  refine (log_any _).mono ?_
  rintro e w9 ⟨A9, rs9, rfl, ht9, hm9, hb9⟩
  have hs9 := hb9.size
  have hrow2 := (hrow2.below hb9).more hs9
  have hrow4 := (hrow4.below hb9).more hs9
  obtain ⟨⟨h12, h13, h14⟩, ⟨l12, l13⟩, c12, c13⟩ := ans_log hm9
  have hc1 := fstore_any A9 3 3 rs9 4 w9 ht9 (by omega) (by omega)
  unfold ScanPost at hc1
  rw [h14] at hc1
  have Hc1 := Lib.hid hc1
  have Hb9 := Lib.hid (Hb8.out.trans (hb9.mono (by omega)))
  clear ht9 hm9 hb9 h12 h13 h14 l12 l13 c12 c13 hc1
  go_wp2_with fail
  refine Hc1.out.mono ?_
  rintro e w10 ⟨v10, rfl, ho10, hb10⟩
  have hs10 := hb10.size
  have hrow2 := (hrow2.below hb10).more hs10
  have hrow4 := (hrow4.below hb10).more hs10
  have Hb10 := Lib.hid (Hb9.out.trans (hb10.mono (by omega)))
  clear hb10 Hc1 ho10
  have hx2 : ∀ o, EntsAt (w10.alloc o) (w10.alloc o).heap.size A2 2 [⟨⟨#[97]⟩, ⟨#[49]⟩⟩, ⟨⟨#[98]⟩, ⟨#[50]⟩⟩] := fun o => (hrow2.below (bel_alloc (Below.refl _ _) o)).more (by simp)
  have Hx2 := Lib.hid hx2
  clear hx2 hrow2
  go_wp2_with fail
  refine (sameE_any A2 2 co2 (some ⟨w10.heap.size, 0, none⟩) 2 [⟨⟨#[97]⟩, ⟨#[49]⟩⟩, ⟨⟨#[98]⟩, ⟨#[50]⟩⟩] _ (Hx2.out _) (row_blk (t := 57) (fr := (0, 0)) [_, _] (len_ent _) (by simp) (blk_new _ _)) (by omega)).mono ?_
  rintro e w11 ⟨rfl, hb11⟩
  have hb10' := (bel_alloc (Below.refl w10.heap.size w10) _).trans (hb11.mono (by simp))
  have hs11 := hb10'.size
  have hrow4 := (hrow4.below hb10').more hs11
  have hx4 : ∀ o, EntsAt (w11.alloc o) (w11.alloc o).heap.size A4 1 [⟨⟨#[97]⟩, ⟨#[51]⟩⟩] := fun o => (hrow4.below (bel_alloc (Below.refl _ _) o)).more (by simp)
  have Hx4 := Lib.hid hx4
  have Hb11 := Lib.hid (Hb10.out.trans (hb10'.mono (by omega)))
  clear hx4 hrow4 hb11 hb10'
  go_wp2_with fail
  refine (sameE_any A4 1 co4 (some ⟨w11.heap.size, 0, none⟩) 1 [⟨⟨#[97]⟩, ⟨#[51]⟩⟩] _ (Hx4.out _) (row_blk (t := 57) (fr := (0, 0)) [_] (len_ent _) (by simp) (blk_new _ _)) (by omega)).mono ?_
  rintro e w12 ⟨rfl, hb12⟩
  have Hb12 := Lib.hid (Hb11.out.trans (((bel_alloc (Below.refl w11.heap.size w11) _).trans (hb12.mono (by simp))).mono (by omega)))
  clear hb12
  go_wp2_with fail
  go_ret
  exact ⟨rfl, Hb12.out⟩
set_option maxHeartbeats 1000000 in
theorem may_any (A : Option Addr) (len cap : Nat) (rs : List RTx) (w : World) (hw : TxsAt w w.heap.size A len rs) (hl : len ≤ 4398046511104) :
    Calls Try.prog 19 #[.slice A len cap] w fun e w' => e = .returned (.bool (decide (logErr rs 1 = 0))) ∧ Below w.heap.size w w' := by
  have hlen := Lib.hid hw.1.len
  have hfin : ∀ (x : Bool) (w' : World), decide (logErr rs 1 = 0) = x → Below w.heap.size w w' → (Ending.returned (.bool x) = .returned (.bool (decide (logErr rs 1 = 0))) ∧ Below w.heap.size w w') := fun x w' h h' => ⟨by rw [h], h'⟩
  have Hf := Lib.hid hfin
  clear hfin
  go_enter Try.func19, Try.ntmps19
  go_wp2_with fail
  go_loopw [3] (fun i wr => ∃ k : Nat, k ≤ len ∧ i = .int .i64 k ∧ Hid (logErr rs 1 = logErr (rs.drop k) ((k : Int) + 1)) ∧ Below w.heap.size w wr) (fun i _ => len - (RowKit.intOf i).toNat)
  case atStart => exact ⟨0, Nat.zero_le _, rfl, Lib.hid rfl, Below.refl _ _⟩
  case round =>
    obtain ⟨k, hk, rfl, Herr, hb⟩ := hrel
    have hr := hw.below hb
    have Hb := Lib.hid hb
    have hs := hb.size
    clear hb
    by_cases hlt : k < len
    · obtain ⟨b, off, r, rfl, hbl, hx, x0, x1, hws, hrl⟩ := hr.cell2 hlt
      have Hx := Lib.hid hx
      have hws2 := hws.more hs
      clear hx
      go_wp2_with fail
      refine (check_any r.number r.A r.len r.cap r.ws _ hws2 (by omega)).mono ?_
      rintro e w1 ⟨rfl, hb1⟩
      have y0 := (hb1.cell (p := ⟨b, off + k * 2, none⟩) (by show b < _; omega)).trans x0
      have Hb1 := Lib.hid (Hb.out.trans (hb1.mono hs))
      clear hb1 hws2 hr hws
      cases ht : txB r.number r.ws
      · have Ht := Lib.hid ht
        clear ht
        rw [show errOf false = 1 from rfl]
        go_wp2_with fail
        go_ret
        refine Hf.out _ _ ?_ Hb1.out
        rw [Herr.out, (logErr_drop Hx.out).2 (by simp [turnN, Ht.out])]; simp [turnN, Ht.out]
      · have Ht := Lib.hid ht
        clear ht
        rw [show errOf true = 0 from rfl]
        by_cases hn : r.number = (k : Int) + 1
        · have h0 : turnN r.number r.ws ((k : Int) + 1) = 0 := by unfold turnN; rw [if_pos Ht.out, if_pos hn]
          have h1 := (logErr_drop Hx.out).1 h0
          have H1 := Lib.hid h1
          have hnb : (r.number != (k : Int) + 1) = false := by simp [hn]
          clear hn h0 h1
          go_wp2_with fail
          exact ⟨⟨k + 1, by omega, by go_num, Lib.hid (by rw [Herr.out, H1.out]; simp), Hb1.out⟩, by simp [RowKit.intOf]; omega⟩
        · have h0 : turnN r.number r.ws ((k : Int) + 1) = 6 := by unfold turnN; rw [if_pos Ht.out, if_neg hn]
          have h1 := (logErr_drop Hx.out).2 (by rw [h0]; decide)
          rw [h0] at h1
          have H1 := Lib.hid h1
          have hnb : (r.number != (k : Int) + 1) = true := by simpa using hn
          clear hn h0 h1
          go_wp2_with fail
          go_ret
          exact Hf.out _ _ (by rw [Herr.out, H1.out]; rfl) Hb1.out
    · obtain rfl : k = len := by omega
      go_wp2_with fail
      go_ret
      refine Hf.out _ _ ?_ Hb.out
      rw [Herr.out, List.drop_of_length_le (by have := hlen.out; omega)]; rfl
/-- What last answers. -/
def lastV (o : Option Wr) : Value := .tuple #[.agg #[.string (o.map Wr.key |>.getD ⟨#[]⟩), .string (o.map Wr.val |>.getD ⟨#[]⟩), .bool (o.map Wr.drop |>.getD false)], .bool o.isSome]
theorem lastW_take {ws : List Wr} {k : ByteArray} {j : Nat} {x : Wr} (h : ws[j]? = some x) : lastW (ws.take (j + 1)) k = if x.key = k then some x else lastW (ws.take j) k := by
  rw [List.take_add_one, h]; exact lastW_snoc _ _ _
set_option maxHeartbeats 1000000 in
theorem last_any (n : Int) (A : Option Addr) (len cap : Nat) (ws : List Wr) (k : ByteArray) (w : World) (hw : WsAt w w.heap.size A len ws) (hl : len ≤ 4398046511104) :
    Calls Try.prog 20 #[.agg #[.int .i64 n, .slice A len cap], .string k] w fun e w' => e = .returned (lastV (lastW ws k)) ∧ Below w.heap.size w w' := by
  have hlen := Lib.hid hw.len
  obtain ⟨W1, hW1⟩ : ∃ W1 : World, W1 = (w.alloc (.cells #[.int .i64 n, .slice A len cap] 37)).alloc (.cells #[.string ⟨#[]⟩, .string ⟨#[]⟩, .bool false] 39) := ⟨_, rfl⟩
  have hz : W1.heap.size = w.heap.size + 2 := by rw [hW1]; simp
  have hB : Below w.heap.size w W1 := by rw [hW1]; exact bel_alloc (bel_alloc (Below.refl _ _) _) _
  have c1 : W1.cell? ⟨w.heap.size, 1, none⟩ = some (.slice A len cap) := by rw [hW1]; simp [go_sem]
  have hblk : W1.heap[w.heap.size + 1]? = some (.cells #[.string ⟨#[]⟩, .string ⟨#[]⟩, .bool false] 39 (0, 0)) := by rw [hW1]; exact blk_new2 _ _ _
  have d0 := blk_cell hblk 0
  have d1 := blk_cell hblk 1
  have d2 := blk_cell hblk 2
  have f0 := blk_frozen hblk 0
  have f1 := blk_frozen hblk 1
  have f2 := blk_frozen hblk 2
  simp only [List.getElem?_toArray, List.getElem?_cons_zero, List.getElem?_cons_succ] at d0 d1 d2
  have hw1 := (hw.below hB).more hB.size
  have Hblk := Lib.hid hblk
  have HB := Lib.hid hB
  clear hblk hB
  go_enter Try.func20, Try.ntmps20
  go_wp2_with fail
  rw [← hW1]
  have HW1 := Lib.hid hW1
  have Hz := Lib.hid hz
  have hb1 : w.heap.size + 1 < W1.heap.size := by omega
  clear hW1 hz
  go_loop [6] (fun i => ∃ t : Nat, t ≤ len ∧ i = .int .i64 ((t : Int) - 1) ∧ Hid (lastW ws k = lastW (ws.take t) k)) (fun i => (RowKit.intOf i + 1).toNat)
  case atStart => exact ⟨len, Nat.le_refl _, rfl, Lib.hid (by rw [List.take_of_length_le (by rw [hlen.out]; exact Nat.le_refl _)])⟩
  case round =>
    obtain ⟨t, ht, rfl, Hlw⟩ := hrel
    have hfin : ∀ (o : Option Wr) (v : Value) (X : World), lastW ws k = o → v = lastV o → Below w.heap.size w X → (Ending.returned v = .returned (lastV (lastW ws k)) ∧ Below w.heap.size w X) := fun o v X h h2 h3 => ⟨by rw [h, h2], h3⟩
    have Hf := Lib.hid hfin
    clear hfin
    have hst : ∀ (a b c : Value), Below w.heap.size w (((W1.setCell ⟨w.heap.size + 1, 0, none⟩ a).setCell ⟨w.heap.size + 1, 1, none⟩ b).setCell ⟨w.heap.size + 1, 2, none⟩ c) := fun a b c => bel_set (bel_set (bel_set HB.out (Nat.le_succ _) _) (Nat.le_succ _) _) (Nat.le_succ _) _
    have Hst := Lib.hid hst
    clear hst
    by_cases hlt : 1 ≤ t
    · obtain ⟨q, rfl⟩ : ∃ q, t = q + 1 := ⟨t - 1, by omega⟩
      obtain ⟨b, off, x, rfl, hbl, hx, x0, x1, x2⟩ := WsAt.cell3 hw1 (show q < len by omega)
      have hlt2 := lastW_take (k := k) hx
      have Hlt2 := Lib.hid hlt2
      clear hx hlt2
      by_cases hkk : x.key = k
      · have hk1 : (x.key.toList == k.toList) = true := by rw [toL_eq]; exact decide_eq_true hkk
        have Hkk := Lib.hid hkk
        clear hkk
        go_wp2_with fail
        refine bodyPost_ret (v := .tuple #[.agg #[.string x.key, .string x.val, .bool x.drop], .bool true]) (by simp [results, Try.results20, go_sem, d0, d1, d2]) rfl (Hf.out (some x) _ _ ?_ rfl (Hst.out _ _ _))
        rw [Hlw.out, Hlt2.out, if_pos Hkk.out]
      · have hk1 : (x.key.toList == k.toList) = false := by rw [toL_eq]; exact decide_eq_false hkk
        have Hkk := Lib.hid hkk
        clear hkk
        go_wp2_with fail
        exact ⟨⟨q, by omega, rfl, Lib.hid (by rw [Hlw.out, Hlt2.out, if_neg Hkk.out])⟩, by simp [RowKit.intOf]⟩
    · obtain rfl : t = 0 := by omega
      go_wp2_with fail
      refine bodyPost_ret (v := .tuple #[.agg #[.string ⟨#[]⟩, .string ⟨#[]⟩, .bool false], .bool false]) (by simp [results, Try.results20, go_sem, d0, d1, d2]) rfl (Hf.out none _ _ ?_ rfl (Hst.out _ _ _))
      rw [Hlw.out]; rfl
theorem row_s {w : World} {B n i : Nat} {A : Option Addr} {xs : List ByteArray} (h : RowAt Scell 1 w B A n xs) (hi : i < n) : ∃ b off x, A = some ⟨b, off, none⟩ ∧ b < B ∧ xs[i]? = some x ∧ w.cell? ⟨b, off + i, none⟩ = some (.string x) := by
  obtain ⟨b, off, x, e, hb, hx, hc⟩ := h.at_ hi
  exact ⟨b, off, x, e, hb, hx, by have := hc 0 _ rfl; simpa using this⟩
def memB (xs : List ByteArray) (k : ByteArray) : Bool := xs.any fun x => decide (x = k)
theorem memB_iff (xs : List ByteArray) (k : ByteArray) : memB xs k = true ↔ k ∈ xs := by
  unfold memB; rw [List.any_eq_true]
  constructor
  · rintro ⟨x, hx, h⟩; exact of_decide_eq_true h ▸ hx
  · intro h; exact ⟨k, h, decide_eq_true rfl⟩
theorem memB_no {xs : List ByteArray} {k : ByteArray} (h : k ∉ xs) : memB xs k = false := by rw [← Bool.not_eq_true, memB_iff]; exact h
theorem among_any (A : Option Addr) (len cap : Nat) (xs : List ByteArray) (k : ByteArray) (w : World) (hw : RowAt Scell 1 w w.heap.size A len xs) (hl : len ≤ 4398046511104) :
    Calls Try.prog 38 #[.slice A len cap, .string k] w fun e w' => e = .returned (.bool (memB xs k)) ∧ w = w' := by
  have hlen := Lib.hid hw.len
  have hfin : ∀ (x : Bool) (w' : World), memB xs k = x → w = w' → (Ending.returned (.bool x) = .returned (.bool (memB xs k)) ∧ w = w') := fun x w' h h' => ⟨by rw [h], h'⟩
  have Hf := Lib.hid hfin
  clear hfin
  go_enter Try.func38, Try.ntmps38
  go_wp2_with fail
  go_loop [5] (fun i => ∃ t : Nat, t ≤ len ∧ i = .int .i64 t ∧ Hid (k ∉ xs.take t)) (fun i => len - (RowKit.intOf i).toNat)
  case atStart => exact ⟨0, Nat.zero_le _, rfl, Lib.hid (by simp)⟩
  case round =>
    obtain ⟨t, ht, rfl, Hno⟩ := hrel
    by_cases hlt : t < len
    · obtain ⟨b, off, x, rfl, hbl, hx, x0⟩ := row_s hw hlt
      have Hx := Lib.hid hx
      clear hx
      by_cases hkk : x = k
      · have hk1 : (x.toList == k.toList) = true := by rw [toL_eq]; exact decide_eq_true hkk
        have Hkk := Lib.hid hkk
        clear hkk
        go_wp2_with fail
        go_ret
        exact Hf.out _ _ ((memB_iff _ _).2 (Hkk.out ▸ List.mem_of_getElem? Hx.out)) rfl
      · have hk1 : (x.toList == k.toList) = false := by rw [toL_eq]; exact decide_eq_false hkk
        have Hkk := Lib.hid hkk
        clear hkk
        go_wp2_with fail
        refine ⟨⟨t + 1, by omega, by go_num, Lib.hid ?_⟩, by simp [RowKit.intOf]; omega⟩
        rw [List.take_add_one, Hx.out]
        simp only [Option.toList_some, List.mem_append, List.mem_singleton, not_or]
        exact ⟨Hno.out, fun e => Hkk.out e.symm⟩
    · obtain rfl : t = len := by omega
      go_wp2_with fail
      go_ret
      refine Hf.out _ _ (memB_no ?_) rfl
      have := Hno.out
      rwa [List.take_of_length_le (by rw [hlen.out]; exact Nat.le_refl _)] at this
end Go.Proofs.Ytdcnaieieggclaa

/- The sizes that the statements count, told exactly. -/
namespace Go.Proofs.Ytdcnaieieggclaa
open Go.RowKit
set_option linter.unusedVariables false
set_option linter.unusedSimpArgs false

def wsz : Int → List Wr → Int
  | n, [] => n
  | n, x :: r => if n ≤ 1048576 then wsz (n + x.key.size + x.val.size) r else n
theorem wsz_drop {ws : List Wr} {j : Nat} {x : Wr} {q : Int} (h : ws[j]? = some x) : wsz q (ws.drop j) = if q ≤ 1048576 then wsz (q + x.key.size + x.val.size) (ws.drop (j + 1)) else q := by
  rw [drop_get h, wsz]
theorem wsizex_any (A : Option Addr) (len cap : Nat) (ws : List Wr) (w : World) (hw : WsAt w w.heap.size A len ws) (hl : len ≤ 4398046511104) (hs : ∀ x ∈ ws, x.key.size ≤ 140737488351232 ∧ x.val.size ≤ 140737488351232) :
    Calls Try.prog 67 #[.slice A len cap] w fun e w' => e = .returned (.int .i64 (wsz len ws)) ∧ (0 ≤ wsz len ws ∧ wsz len ws ≤ 1125899906842624) ∧ Below w.heap.size w w' := by
  have Hs := Lib.hid hs
  have hlen := Lib.hid hw.len
  have hfin : ∀ (q : Int) (w' : World), wsz len ws = q → 0 ≤ q → q ≤ 1125899906842624 → Below w.heap.size w w' → (Ending.returned (.int .i64 q) = .returned (.int .i64 (wsz len ws)) ∧ (0 ≤ wsz len ws ∧ wsz len ws ≤ 1125899906842624) ∧ Below w.heap.size w w') := fun q w' h h0 h1 h' => by subst h; exact ⟨rfl, ⟨h0, h1⟩, h'⟩
  have Hf := Lib.hid hfin
  clear hs hfin
  go_enter Try.func67, Try.ntmps67
  go_wp2_with fail
  go_loopw [3, 4] (fun n i wr => ∃ (j : Nat) (q : Int), j ≤ len ∧ i = .int .i64 j ∧ n = .int .i64 q ∧ 0 ≤ q ∧ q ≤ 1125899906842624 ∧ Hid (wsz len ws = wsz q (ws.drop j)) ∧ Below w.heap.size w wr) (fun _ i _ => len - (RowKit.intOf i).toNat)
  case atStart => exact ⟨0, len, by omega, rfl, rfl, by omega, by omega, Lib.hid rfl, Below.refl _ _⟩
  case round =>
    obtain ⟨j, q, hj, rfl, rfl, q0, q1, He, hb⟩ := hrel
    have hr := hw.below hb
    have Hb := Lib.hid hb
    clear hb
    by_cases hlt : j < len
    · obtain ⟨b, off, x, rfl, hbl, hx, x0, x1, x2⟩ := WsAt.cell3 hr hlt
      have hsz := Hs.out x (List.mem_of_getElem? hx)
      obtain ⟨z0, z1⟩ := hsz
      have hd := wsz_drop (q := q) hx
      have Hd := Lib.hid hd
      clear hx hr hd
      by_cases hq : q ≤ 1048576
      · go_wp2_with fail
        go_quiet (fail)
        go_wp2_with fail
        exact ⟨⟨j + 1, _, by omega, by go_num, rfl, by omega, by omega, Lib.hid (by rw [He.out, Hd.out, if_pos hq]), bel_drewN Hb.out _⟩, by simp [RowKit.intOf]; omega⟩
      · go_wp2_with fail
        go_ret
        exact Hf.out q _ (by rw [He.out, Hd.out, if_neg (by omega)]) q0 q1 Hb.out
    · go_wp2_with fail
      go_ret
      exact Hf.out q _ (by rw [He.out, List.drop_of_length_le (by have := hlen.out; omega)]; rfl) q0 q1 Hb.out
def tsz (ws : List Wr) : Int := 1 + wsz ws.length ws
theorem tsizex_any (n : Int) (A : Option Addr) (len cap : Nat) (ws : List Wr) (w : World) (hw : WsAt w w.heap.size A len ws) (hl : len ≤ 4398046511104) (hs : ∀ x ∈ ws, x.key.size ≤ 140737488351232 ∧ x.val.size ≤ 140737488351232) :
    Calls Try.prog 39 #[.agg #[.int .i64 n, .slice A len cap]] w fun e w' => e = .returned (.int .i64 (tsz ws)) ∧ (0 ≤ tsz ws ∧ tsz ws ≤ 1125899906842625) ∧ Below w.heap.size w w' := by
  have hw2 : ∀ o, WsAt (w.alloc o) (w.alloc o).heap.size A len ws := fun o => (hw.below ((Below.refl _ _).alloc (Nat.le_refl _) _)).more (by simp)
  have ht : tsz ws = 1 + wsz len ws := by unfold tsz; rw [hw.len]
  rw [ht]
  clear ht
  go_enter Try.func39, Try.ntmps39
  go_wp2_with fail
  refine (wsizex_any A len cap ws _ (hw2 _) hl hs).mono ?_
  rintro e w1 ⟨rfl, ⟨q0, q1⟩, hb1⟩
  have Hb1 := Lib.hid (((Below.refl _ _).alloc (Nat.le_refl _) _).trans (hb1.mono (by simp)))
  clear hb1
  go_wp2_with fail
  go_ret
  exact ⟨rfl, ⟨by omega, by omega⟩, Hb1.out⟩
def txsz : Int → List RTx → Int
  | n, [] => n
  | n, r :: l => if n ≤ 1048576 then txsz (n + tsz r.ws) l else n
theorem txsz_drop {rs : List RTx} {j : Nat} {r : RTx} {q : Int} (h : rs[j]? = some r) : txsz q (rs.drop j) = if q ≤ 1048576 then txsz (q + tsz r.ws) (rs.drop (j + 1)) else q := by
  rw [drop_get h, txsz]
theorem txsizex_any (A : Option Addr) (len cap : Nat) (rs : List RTx) (w : World) (hw : TxsAt w w.heap.size A len rs) (hl : len ≤ 4398046511104) (hs : ∀ r ∈ rs, ∀ x ∈ r.ws, x.key.size ≤ 140737488351232 ∧ x.val.size ≤ 140737488351232) :
    Calls Try.prog 13 #[.slice A len cap] w fun e w' => e = .returned (.int .i64 (txsz len rs)) ∧ (0 ≤ txsz len rs ∧ txsz len rs ≤ 2251799813685248) ∧ Below w.heap.size w w' := by
  have Hs := Lib.hid hs
  have hlen := Lib.hid hw.1.len
  have hfin : ∀ (q : Int) (w' : World), txsz len rs = q → 0 ≤ q → q ≤ 2251799813685248 → Below w.heap.size w w' → (Ending.returned (.int .i64 q) = .returned (.int .i64 (txsz len rs)) ∧ (0 ≤ txsz len rs ∧ txsz len rs ≤ 2251799813685248) ∧ Below w.heap.size w w') := fun q w' h h0 h1 h' => by subst h; exact ⟨rfl, ⟨h0, h1⟩, h'⟩
  have Hf := Lib.hid hfin
  clear hs hfin
  go_enter Try.func13, Try.ntmps13
  go_wp2_with fail
  go_loopw [3, 4] (fun n i wr => ∃ (j : Nat) (q : Int), j ≤ len ∧ i = .int .i64 j ∧ n = .int .i64 q ∧ 0 ≤ q ∧ q ≤ 2251799813685248 ∧ Hid (txsz len rs = txsz q (rs.drop j)) ∧ Below w.heap.size w wr) (fun _ i _ => len - (RowKit.intOf i).toNat)
  case atStart => exact ⟨0, len, by omega, rfl, rfl, by omega, by omega, Lib.hid rfl, Below.refl _ _⟩
  case round =>
    obtain ⟨j, q, hj, rfl, rfl, q0, q1, He, hb⟩ := hrel
    have hr := hw.below hb
    have hsz := hb.size
    have Hb := Lib.hid hb
    clear hb
    by_cases hlt : j < len
    · obtain ⟨b, off, r, rfl, hbl, hx, x0, x1, hws, hrl⟩ := hr.cell2 hlt
      have hws2 := hws.more hsz
      have hsr := Hs.out r (List.mem_of_getElem? hx)
      have Hsr := Lib.hid hsr
      have hd := txsz_drop (q := q) hx
      have Hd := Lib.hid hd
      clear hx hr hsr hd
      by_cases hq : q ≤ 1048576
      · go_wp2_with fail
        refine (tsizex_any r.number r.A r.len r.cap r.ws _ hws2 (by omega) Hsr.out).mono ?_
        rintro e w1 ⟨rfl, ⟨p0, p1⟩, hb1⟩
        have Hb1 := Lib.hid (Hb.out.trans (hb1.mono hsz))
        clear hb1
        go_wp2_with fail
        exact ⟨⟨j + 1, _, by omega, by go_num, rfl, by omega, by omega, Lib.hid (by rw [He.out, Hd.out, if_pos hq]), Hb1.out⟩, by simp [RowKit.intOf]; omega⟩
      · go_wp2_with fail
        go_ret
        exact Hf.out q _ (by rw [He.out, Hd.out, if_neg (by omega)]) q0 q1 Hb.out
    · go_wp2_with fail
      go_ret
      exact Hf.out q _ (by rw [He.out, List.drop_of_length_le (by have := hlen.out; omega)]; rfl) q0 q1 Hb.out
def beyB : Int → List Int → Bool
  | _, [] => false
  | n, x :: r => if 1048576 < n + x then true else beyB (n + x) r
theorem beyB_drop {l : List Int} {j : Nat} {x q : Int} (h : l[j]? = some x) : beyB q (l.drop j) = if 1048576 < q + x then true else beyB (q + x) (l.drop (j + 1)) := by
  rw [drop_get h, beyB]
theorem beyondx_any (A : Option Addr) (len cap : Nat) (l : List Int) (w : World) (hi : RowAt Icell 1 w w.heap.size A len l) (hl : len ≤ 1000) (hb : ∀ x ∈ l, 0 ≤ x ∧ x ≤ 2251799813685248) :
    Calls Try.prog 12 #[.slice A len cap] w fun e w' => e = .returned (.bool (beyB 0 l)) ∧ Below w.heap.size w w' := by
  have Hs := Lib.hid hb
  have hlen := Lib.hid hi.len
  have hfin : ∀ (q : Bool) (w' : World), beyB 0 l = q → Below w.heap.size w w' → (Ending.returned (.bool q) = .returned (.bool (beyB 0 l)) ∧ Below w.heap.size w w') := fun q w' h h' => by subst h; exact ⟨rfl, h'⟩
  have Hf := Lib.hid hfin
  clear hb hfin
  go_enter Try.func12, Try.ntmps12
  go_wp2_with fail
  go_loopw [3, 4] (fun n i wr => ∃ (j : Nat) (q : Int), j ≤ len ∧ i = .int .i64 j ∧ n = .int .i64 q ∧ 0 ≤ q ∧ q ≤ 1048576 ∧ Hid (beyB 0 l = beyB q (l.drop j)) ∧ Below w.heap.size w wr) (fun _ i _ => len - (RowKit.intOf i).toNat)
  case atStart => exact ⟨0, 0, by omega, rfl, rfl, by omega, by omega, Lib.hid rfl, Below.refl _ _⟩
  case round =>
    obtain ⟨j, q, hj, rfl, rfl, q0, q1, He, hb⟩ := hrel
    have hr := hi.below hb
    have Hb := Lib.hid hb
    clear hb
    by_cases hlt : j < len
    · obtain ⟨b, off, x, rfl, hbl, hx, hc⟩ := hr.at_ hlt
      have x0 := hc 0 _ rfl
      simp only [Nat.mul_one, Nat.add_zero] at x0
      obtain ⟨z0, z1⟩ := Hs.out x (List.mem_of_getElem? hx)
      have hd := beyB_drop (q := q) hx
      have Hd := Lib.hid hd
      clear hx hr hc hd
      by_cases hq : 1048576 < q + x
      · go_wp2_with fail
        go_ret
        exact Hf.out _ _ (by rw [He.out, Hd.out, if_pos hq]) Hb.out
      · go_wp2_with fail
        exact ⟨⟨j + 1, _, by omega, by go_num, rfl, by omega, by omega, Lib.hid (by rw [He.out, Hd.out, if_neg hq]), Hb.out⟩, by simp [RowKit.intOf]; omega⟩
    · go_wp2_with fail
      go_ret
      exact Hf.out _ _ (by rw [He.out, List.drop_of_length_le (by have := hlen.out; omega)]; rfl) Hb.out
end Go.Proofs.Ytdcnaieieggclaa

/- Ranging over a map that the walk keeps, in the words of XMap: what is still to come is a list. Plain theorems over any program. -/
namespace Go.Proofs.Ytdcnaieieggclaa
open Go.RowKit
set_option linter.unusedVariables false
set_option linter.unusedSimpArgs false

open Go.MapKept Go.ChangeMaps
set_option linter.unusedSectionVars false
section
variable {K V : Type} [DecidableEq K] {κ : K → Value} {ν : V → Value} {P : Program} {kt vt t : TypeId} {w w' : World} {b r : Nat} {m todo : List (K × V)}
def RngM (κ : K → Value) (ν : V → Value) (w : World) (b r : Nat) (m todo : List (K × V)) : Prop :=
  ∃ es clock since seen c0, w.heap[b]? = some (.map es clock) ∧ Stamped es clock ∧ es.toList.map (fun e => (e.key, e.val)) = m.map (fun p => (κ p.1, ν p.2)) ∧
    w.heap[r]? = some (.mapIter (some b) since seen c0) ∧ (∀ x ∈ es.toList, x.born < since) ∧ (es.toList.filter fun e => !seen.contains e.born).map (fun e => (e.key, e.val)) = todo.map (fun p => (κ p.1, ν p.2)) ∧ since ≤ c0 ∧ since ≤ clock
theorem RngM.own (h : RngM κ ν w b r m todo) : OwnM κ ν w b m := by
  obtain ⟨es, clock, _, _, _, h1, h2, h3, _⟩ := h; exact ⟨es, clock, h1, h2, h3⟩
theorem RngM.ne (h : RngM κ ν w b r m todo) : r ≠ b := by
  obtain ⟨es, clock, since, seen, c0, hb, _, _, hr, _⟩ := h
  intro e; rw [e, hb] at hr; cases hr
theorem RngM.lt (h : RngM κ ν w b r m todo) : r < w.heap.size := by
  obtain ⟨es, clock, since, seen, c0, _, _, _, hr, _⟩ := h; exact (Array.getElem?_eq_some_iff.1 hr).1
theorem RngM.of_block (h : RngM κ ν w b r m todo) (hb : w'.heap[b]? = w.heap[b]?) (hr : w'.heap[r]? = w.heap[r]?) : RngM κ ν w' b r m todo := by
  obtain ⟨es, clock, since, seen, c0, h1, h2, h3, h4, h5⟩ := h
  exact ⟨es, clock, since, seen, c0, hb.trans h1, h2, h3, hr.trans h4, h5⟩
theorem RngM.kept {row : Option Nat} (h : RngM κ ν w b r m todo) (hg : w.grownBy w' row) (hb : some b ≠ row) (hr : some r ≠ row) : RngM κ ν w' b r m todo :=
  h.of_block (hg.block b h.own.lt hb) (hg.block r h.lt hr)
theorem RngM.alloc (h : RngM κ ν w b r m todo) (o : Obj) : RngM κ ν (w.alloc o) b r m todo := h.of_block (Below.heap_alloc w o b h.own.lt) (Below.heap_alloc w o r h.lt)
theorem leftOf_list (es : Array MapEntry) (seen : Array Nat) : (leftOf es seen).toList = es.toList.filter fun e => !seen.contains e.born := by
  unfold leftOf; rw [← Array.toList_filter]
theorem RngM.left_eq (h : RngM κ ν w b r m todo) : w.rangeLeft b r = todo.length := by
  obtain ⟨es, clock, since, seen, c0, hb, _, _, hr, _, ht, _⟩ := h
  simp only [World.rangeLeft, hb, hr]
  rw [← Array.length_toList, leftOf_list]
  simpa using congrArg List.length ht
/-- 'range m'. -/
theorem OwnM.range (h : OwnM κ ν w b m) (ht : P.underlying t = some (.map kt vt)) :
    ∃ w', (Instr.range t (.map (some b))).run P w = .ok (.pointer (some ⟨w.heap.size, 0, none⟩)) w' ∧ RngM κ ν w' b w.heap.size m m ∧ w.grownBy w' none ∧ w'.heap.size = w.heap.size + 1 := by
  have hlt := h.lt
  obtain ⟨es, clock, hb, hs, he⟩ := h
  refine ⟨_, run_range_map w t kt vt b es clock ht hb, ⟨es, clock, clock, #[], clock, ((MapKept.heap_alloc w _).2 b hlt).trans hb, hs, he, (MapKept.heap_alloc w _).1, hs.1, ?_, Nat.le_refl _, Nat.le_refl _⟩, World.grownBy_alloc w _ none, by simp⟩
  rw [List.filter_eq_self.2 (fun x _ => by simp)]
  exact he
theorem rest_perm {todo : List (K × V)} {k : K} {v : V} (hn : (todo.map (·.1)).Nodup) (h : (k, v) ∈ todo) : todo.Perm ((k, v) :: todo.filter fun p => decide (p.1 ≠ k)) := by
  induction todo with
  | nil => cases h
  | cons x l ih =>
    simp only [List.map_cons, List.nodup_cons] at hn
    rcases List.mem_cons.1 h with h | h
    · subst h
      rw [List.filter_cons_of_neg (by simp), List.filter_eq_self.2]
      intro p hp
      simp only [decide_eq_true_eq]
      rintro rfl
      exact hn.1 (List.mem_map.2 ⟨p, hp, rfl⟩)
    · have hx : x.1 ≠ k := by rintro rfl; exact hn.1 (List.mem_map.2 ⟨_, h, rfl⟩)
      rw [List.filter_cons_of_pos (by simpa using hx)]
      exact ((ih hn.2 h).cons x).trans (List.Perm.swap _ _ _)
theorem RngM.sub (h : RngM κ ν w b r m todo) (hi : ∀ a b, κ a = κ b → a = b) : (todo.map (·.1)).Nodup := by
  obtain ⟨es, clock, since, seen, c0, hb, hs, he, hr, hold, ht, _⟩ := h
  have h1 := hs.2.2
  have h2 : (es.toList.filter fun e => !seen.contains e.born).map (·.key) = todo.map (fun p => κ p.1) := by
    have := congrArg (List.map (·.1)) ht
    simpa [Function.comp_def] using this
  have h3 : ((es.toList.filter fun e => !seen.contains e.born).map (·.key)).Nodup := h1.sublist (List.filter_sublist.map _)
  rw [h2, show (fun p : K × V => κ p.1) = κ ∘ (fun p => p.1) from rfl, ← List.map_map] at h3
  exact List.Pairwise.of_map κ (fun a b hab e => hab (by rw [e])) h3
/-- THE STEP. -/
theorem RngM.next (h : RngM κ ν w b r m todo) (hi : ∀ a b, κ a = κ b → a = b) (ty : TypeId) :
    (todo = [] ∧ (Instr.next (.pointer (some ⟨r, 0, none⟩)) false ty).run P w = .ok (.tuple #[.bool false]) w) ∨
    ∃ k v w', (k, v) ∈ todo ∧ (Instr.next (.pointer (some ⟨r, 0, none⟩)) false ty).run P w = .ok (.tuple #[.bool true, κ k, ν v]) w' ∧
      RngM κ ν w' b r m (todo.filter fun p => decide (p.1 ≠ k)) ∧ w.grownBy w' (some r) ∧ w'.heap.size = w.heap.size ∧ (Instr.entry (.pointer (some ⟨r, 0, none⟩))).run P w' = .ok (.tuple #[κ k, ν v]) w' := by
  classical
  have hne := h.ne
  obtain ⟨es, clock, since, seen, c0, hb, hs, he, hr, hold, ht, hsc, hsk⟩ := h
  rcases run_next_at (P := P) w ty r b since c0 seen es clock hr hb hold hsc with ⟨h0, hrun⟩ | ⟨e, hel, w1, hal, hrun⟩
  · refine Or.inl ⟨?_, hrun⟩
    rw [← Array.length_toList, leftOf_list] at h0
    have := congrArg List.length ht
    simp only [List.length_map] at this
    exact List.eq_nil_of_length_eq_zero (by omega)
  · obtain ⟨hem, hes⟩ := mem_left hel
    rw [leftOf_list] at hel
    have hin : (e.key, e.val) ∈ todo.map (fun p => (κ p.1, ν p.2)) := by rw [← ht]; exact List.mem_map.2 ⟨e, hel, rfl⟩
    obtain ⟨p, hp, hpe⟩ := List.mem_map.1 hin
    simp only [Prod.mk.injEq] at hpe
    have hr1 : w1.heap[r]? = some (.mapIter (some b) since seen c0) := by rcases hal with rfl | rfl <;> exact hr
    have hb1 : w1.heap[b]? = some (.map es clock) := by rcases hal with rfl | rfl <;> exact hb
    have hset := heap_set (o' := .mapIter (some b) since (seen.push e.born) clock) hr1
    have hb' : (setBlock w1 r (.mapIter (some b) since (seen.push e.born) clock)).heap[b]? = some (.map es clock) := (hset.2 b (fun e1 => hne e1.symm)).trans hb1
    refine Or.inr ⟨p.1, p.2, _, hp, by rw [hpe.1, hpe.2]; exact hrun, ⟨es, clock, since, seen.push e.born, clock, hb', hs, he, hset.1, hold, ?_, hsk, hsk⟩, ?_, ?_, ?_⟩
    · -- those that are still to come
      have hkey : ∀ x ∈ es.toList, (x.born == e.born) = decide (x.key = κ p.1) := fun x hx => by
        by_cases hbe : x.born = e.born
        · obtain rfl := born_inj hs.2.1 hx hem hbe
          rw [beq_self_eq_true, hpe.1]; simp
        · have hk : ¬ x.key = κ p.1 := fun hk => by
            rw [hpe.1] at hk
            have hst := (stamped_iff es clock).1 hs
            exact hbe (congrArg MapEntry.born (entry_eq_of_key hst.2.2 hx hem hk))
          rw [decide_eq_false hk]; simp [hbe]
      have e1 : (es.toList.filter fun x => !(seen.push e.born).contains x.born) = (es.toList.filter fun x => !seen.contains x.born).filter fun x => decide (x.key ≠ κ p.1) := by
        rw [List.filter_filter]
        refine List.filter_congr fun x hx => ?_
        rw [contains_push, hkey x hx]
        cases seen.contains x.born <;> simp
      rw [e1]
      have e2 : ∀ (l : List MapEntry) (T : List (K × V)), l.map (fun e => (e.key, e.val)) = T.map (fun p => (κ p.1, ν p.2)) → (l.filter fun x => decide (x.key ≠ κ p.1)).map (fun e => (e.key, e.val)) = (T.filter fun q => decide (q.1 ≠ p.1)).map (fun p => (κ p.1, ν p.2)) := by
        intro l
        induction l with
        | nil => intro T h; cases T with
          | nil => rfl
          | cons q T => simp at h
        | cons x l ih => intro T h; cases T with
          | nil => simp at h
          | cons q T =>
            simp only [List.map_cons, List.cons.injEq, Prod.mk.injEq] at h
            have hq : decide (x.key ≠ κ p.1) = decide (q.1 ≠ p.1) := by
              rw [h.1.1]
              by_cases hqp : q.1 = p.1
              · simp [hqp]
              · have : κ q.1 ≠ κ p.1 := fun e => hqp (hi _ _ e)
                simp [hqp, this]
            rw [List.filter_cons, List.filter_cons, hq]
            split
            · simp only [List.map_cons, ih T h.2, h.1.1, h.1.2]
            · exact ih T h.2
      exact e2 _ _ ht
    · rcases hal with rfl | rfl <;> exact ⟨rfl, rfl, rfl, by simp [setBlock], fun i _ hi => hset.2 i (fun e1 => hi (by rw [e1]))⟩
    · rcases hal with rfl | rfl <;> simp [setBlock]
    · rw [hpe.1, hpe.2]
      exact run_entry_at _ r b since seen es clock e hset.1 hb' hem ((stamped_iff es clock).1 hs).2.1
theorem filter_eraseIdx {α : Type} (p : α → Bool) : ∀ (l : List α) (j : Nat) (x : α), l[j]? = some x → p x = false → (l.eraseIdx j).filter p = l.filter p
  | [], _, _, h, _ => by simp at h
  | y :: l, 0, x, h, hp => by simp at h; subst h; simp [hp]
  | y :: l, j + 1, x, h, hp => by
    simp only [List.eraseIdx_cons_succ, List.filter_cons]
    rw [filter_eraseIdx p l j x (by simpa using h) hp]
/-- 'delete(m, k)' in the round, of a key that is not to come any more. -/
theorem RngM.run_delete (h : RngM κ ν w b r m todo) (hK : Keying P kt κ) (ht : P.underlying t = some (.map kt vt)) (k : K) (hk : k ∉ todo.map (·.1)) (ts : Array TypeId) (hts : ts[0]? = some t) (ty : TypeId) :
    ∃ w', (Builtin.delete_ ts ty #[.map (some b), κ k]).run P w = .ok (.tuple #[]) w' ∧ RngM κ ν w' b r (mdel m k) todo ∧ w.grownBy w' (some b) := by
  have hne := h.ne
  have hnd : ((m.map fun p => (p.1, ν p.2)).map (·.1)).Nodup := by rw [List.map_map]; exact h.own.nodup
  obtain ⟨es, clock, since, seen, c0, hb, hs, he, hr, hold, htd, hsc, hsk⟩ := h
  have hf := hK.find w k es.toList (m.map fun p => (p.1, ν p.2)) (by rw [he]; simp [Function.comp_def]) hnd
  have hset : ∀ o : Obj, w.grownBy { w with heap := w.heap.setIfInBounds b o } (some b) := fun o =>
    ⟨rfl, rfl, rfl, by simp, fun i _ hne => (MapKept.heap_set hb).2 i (fun e => hne (by rw [e]))⟩
  have hr' : ∀ o : Obj, ({ w with heap := w.heap.setIfInBounds b o } : World).heap[r]? = some (.mapIter (some b) since seen c0) := fun o => ((MapKept.heap_set hb).2 r hne).trans hr
  unfold Builtin.delete_
  simp only [hts, List.getElem?_toArray, List.getElem?_cons_zero, List.getElem?_cons_succ, Sem.run_bind, run_underlying ht, Result.andThen_ok, MapKept.run_getObj_map hb, hK.check, hf]
  cases hq : mfind k (m.map fun p => (p.1, ν p.2)) 0 with
  | none =>
    obtain ⟨h1, h2, h3, h4⟩ := mfind_none m hq
    refine ⟨_, by simp only [Sem.run_bind, MapKept.run_setObj_map _ hb, Result.andThen_ok, Sem.run_pure], ⟨_, _, since, seen, c0, (MapKept.heap_set hb).1, hs, by rw [h3]; exact he, hr' _, hold, htd, hsc, hsk⟩, hset _⟩
  | some x =>
    obtain ⟨j, u⟩ := x
    obtain ⟨t', v', rfl, rfl, hlt, h2, h3, h4, h5⟩ := mfind_some m hq
    simp only [Nat.zero_add]
    have hlen : es.toList.length = m.length := by simpa using congrArg List.length he
    have hx : t' < es.size := by rw [← Array.length_toList, hlen]; exact hlt
    have hxe : es.toList[t']? = some es[t'] := by rw [Array.getElem?_toList]; exact Array.getElem?_eq_getElem hx
    have hkey : es[t'].key = κ k := by
      have h6 : (es.toList.map (fun e => (e.key, e.val)))[t']? = some (κ k, ν v') := by rw [he]; simp [h3]
      simp [hx] at h6
      exact h6.1
    have hseen : (!seen.contains es[t'].born) = false := by
      cases hc : (!seen.contains es[t'].born) with
      | false => rfl
      | true =>
        exfalso
        have hin : (es[t'].key, es[t'].val) ∈ todo.map (fun p => (κ p.1, ν p.2)) := by
          rw [← htd]
          exact List.mem_map.2 ⟨_, List.mem_filter.2 ⟨List.mem_of_getElem? hxe, hc⟩, rfl⟩
        obtain ⟨p, hp, hpe⟩ := List.mem_map.1 hin
        simp only [Prod.mk.injEq] at hpe
        exact hk (List.mem_map.2 ⟨p, hp, hK.inj _ _ (hpe.1.trans hkey)⟩)
    have htl : (es.eraseIdxIfInBounds t').toList = es.toList.eraseIdx t' := by
      simp only [Array.eraseIdxIfInBounds, hx, ↓reduceDIte, Array.toList_eraseIdx]
    refine ⟨_, by simp only [Sem.run_bind, MapKept.run_setObj_map _ hb, Result.andThen_ok, Sem.run_pure], ⟨_, _, since, seen, c0, (MapKept.heap_set hb).1, stamped_erase hs t', ?_, hr' _, fun x hx2 => hold x (by rw [htl] at hx2; exact (List.eraseIdx_sublist _ _).subset hx2), ?_, hsc, hsk⟩, hset _⟩
    · rw [h5, htl]
      have e2 : ∀ {α β : Type} (f : α → β) (l : List α) (i : Nat), (l.eraseIdx i).map f = (l.map f).eraseIdx i := by
        intro α β f l
        induction l with
        | nil => intro i; rfl
        | cons x r ih => intro i; cases i <;> simp [ih]
      rw [e2, he, e2]
    · rw [htl, filter_eraseIdx _ _ _ _ hxe hseen]; exact htd
end
section
variable {K V : Type} [DecidableEq K] {κ : K → Value} {ν : V → Value} {w : World} {b r : Nat} {m todo : List (K × V)} {P : Program} {kt vt t : TypeId}
variable {ops : Array Oper} {rest : List Oper} {o : Oper} {a : Act} {Q : Exit → Act → World → Prop}
theorem wpList_range_M (hg : o.guard = none) (x : Operand) (hop : o.op = Op.range t x) (ht : P.underlying t = some (.map kt vt)) (hx : a.eval x = .map (some b)) (hown : OwnM κ ν w b m)
    (hK : ∀ w', RngM κ ν w' b w.heap.size m m → w.grownBy w' none → w'.heap.size = w.heap.size + 1 → wpList P ops Q rest (a.put o.dst (.pointer (some ⟨w.heap.size, 0, none⟩))) w') : wpList P ops Q (o :: rest) a w := by
  refine wpList_plain hg fun K' hK' => ?_
  obtain ⟨w', hrun, r1, r2, r3⟩ := hown.range ht
  unfold Oper.wp
  simp [execOp, hop, hx, hrun, Result.andThen]
  exact hK' _ _ (hK w' r1 r2 r3)
theorem wpList_next_M (hg : o.guard = none) (it : Operand) (hop : o.op = Op.next it false) (hit : a.eval it = .pointer (some ⟨r, 0, none⟩)) (hi : ∀ a b, κ a = κ b → a = b) (h : RngM κ ν w b r m todo)
    (hDone : todo = [] → wpList P ops Q rest (a.put o.dst (.tuple #[.bool false])) w)
    (hMore : ∀ (k : K) (v : V) (w' : World), (k, v) ∈ todo → RngM κ ν w' b r m (todo.filter fun p => decide (p.1 ≠ k)) → w.grownBy w' (some r) → w'.heap.size = w.heap.size →
      (Instr.entry (.pointer (some ⟨r, 0, none⟩))).run P w' = .ok (.tuple #[κ k, ν v]) w' → wpList P ops Q rest (a.put o.dst (.tuple #[.bool true, κ k, ν v])) w') : wpList P ops Q (o :: rest) a w := by
  refine wpList_plain hg fun K' hK' => ?_
  unfold Oper.wp
  rcases h.next (P := P) hi o.type with ⟨h0, hrun⟩ | ⟨k, v, w', hm, hrun, h1, h2, h3, h4⟩
  · simp [execOp, hop, hit, hrun, Result.andThen]
    exact hK' _ _ (hDone h0)
  · simp [execOp, hop, hit, hrun, Result.andThen]
    exact hK' _ _ (hMore k v w' hm h1 h2 h3 h4)
end
end Go.Proofs.Ytdcnaieieggclaa


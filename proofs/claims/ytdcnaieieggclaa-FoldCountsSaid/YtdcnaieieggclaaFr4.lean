/- fold.Writer: what it answers. -/
import Derived.Test.YtdcnaieieggclaaKey
namespace Go.Proofs.Ytdcnaieieggclaa
open Go.RowKit
set_option linter.unusedVariables false
set_option linter.unusedSimpArgs false

open Go.Maps
/-- slices.IndexFunc over writes, of a closure with one captured value. -/
theorem indexw_wrt (c : Value) (p : Wr → Bool) (A : Option Addr) (len cap : Nat) (ws : List Wr) (w : World) (hw : WsAt w w.heap.size A len ws) (hl : len ≤ 4398046511104)
    (hcall : ∀ (x : Wr) (W : World), Below w.heap.size w W → Calls Try.prog 58 #[.agg #[.string x.key, .string x.val, .bool x.drop], c] W fun e w' => e = .returned (.bool (p x)) ∧ Below W.heap.size W w') :
    Calls Try.prog 69 #[.slice A len cap, .func (.func 58) #[] #[c]] w (IdxEnd w (ws.any p)) := by
  have hlen := Lib.hid hw.len
  have Hcall := Lib.hid hcall
  clear hcall
  go_enter Try.func69, Try.ntmps69
  go_wp2_with fail
  go_loopw [8] (fun i wr => ∃ k : Nat, k ≤ len ∧ i = .int .i64 k ∧ (ws.take k).any p = false ∧ Below w.heap.size w wr) (fun i _ => len - (intOf i).toNat)
  case atStart => exact ⟨0, Nat.zero_le _, rfl, rfl, Below.refl _ _⟩
  case round =>
    obtain ⟨k, hk, rfl, hany, hb⟩ := hrel
    have Hany := Lib.hid hany
    clear hany
    have hr := hw.below hb
    have Hb := Lib.hid hb
    have hs := hb.size
    clear hb
    by_cases hlt : k < len
    · obtain ⟨b, off, x, rfl, hbl, hx, x0, x1, x2⟩ := WsAt.cell3 hr hlt
      have Hx := Lib.hid hx
      clear hx
      go_wp2_with fail
      refine (Hcall.out x _ Hb.out).mono ?_
      rintro e w' ⟨rfl, hb'⟩
      cases hp : p x
      · have Hp := Lib.hid hp
        clear hp
        go_wp2_with fail
        exact ⟨⟨k + 1, by omega, by go_num, by rw [any_take_succ Hx.out, Hany.out, Hp.out]; rfl, Hb.out.trans (hb'.mono (by omega))⟩, by simp [intOf]; omega⟩
      · have Hp := Lib.hid hp
        clear hp
        go_wp2_with fail
        go_ret
        refine ⟨k, rfl, by omega, ?_, Hb.out.trans (hb'.mono (by omega))⟩
        rw [any_of (p := p) Hx.out Hp.out]
        simp
    · have hkl : k = len := by omega
      go_wp2
      go_ret
      have h2 := Hany.out
      have h3 := hlen.out
      rw [List.take_of_length_le (by omega)] at h2
      exact ⟨-1, rfl, by omega, by rw [h2]; simp, Hb.out⟩
theorem containsw_wrt (c : Value) (p : Wr → Bool) (A : Option Addr) (len cap : Nat) (ws : List Wr) (w : World) (hw : WsAt w w.heap.size A len ws) (hl : len ≤ 4398046511104)
    (hcall : ∀ (x : Wr) (W : World), Below w.heap.size w W → Calls Try.prog 58 #[.agg #[.string x.key, .string x.val, .bool x.drop], c] W fun e w' => e = .returned (.bool (p x)) ∧ Below W.heap.size W w') :
    Calls Try.prog 43 #[.slice A len cap, .func (.func 58) #[] #[c]] w fun e w' => e = .returned (.bool (ws.any p)) ∧ Below w.heap.size w w' := by
  have hfin : ∀ (b : Bool) (w' : World), b = ws.any p → Below w.heap.size w w' → (Ending.returned (.bool b) = .returned (.bool (ws.any p)) ∧ Below w.heap.size w w') := fun b w' h h' => ⟨by rw [h], h'⟩
  have Hf := Lib.hid hfin
  have Hcall := Lib.hid hcall
  clear hfin hcall
  go_enter Try.func43, Try.ntmps43
  go_wp2_with (go_at_call 69; refine (indexw_wrt c p _ _ _ ws _ hw hl Hcall.out).mono ?_; rintro e w' ⟨r, rfl, hr1, hr2, hb'⟩; have Hr2 := Lib.hid hr2; clear hr2)
  go_ret
  exact Hf.out _ _ (by have := Hr2.out; simpa using this) hb'

theorem wrt_any (k : ByteArray) (g : Nat) (x : Wr) (w : World) (hg : w.cell? ⟨g, 0, none⟩ = some (.string k)) (hl : g < w.heap.size) :
    Calls Try.prog 58 #[.agg #[.string x.key, .string x.val, .bool x.drop], .pointer (some ⟨g, 0, none⟩)] w fun e w' => e = .returned (.bool (keyIs k x)) ∧ Below w.heap.size w w' := by
  have hfin : ∀ (b : Bool) (w' : World), b = keyIs k x → Below w.heap.size w w' → (Ending.returned (.bool b) = .returned (.bool (keyIs k x)) ∧ Below w.heap.size w w') := fun b w' h h' => ⟨by rw [h], h'⟩
  have Hf := Lib.hid hfin
  clear hfin
  go_enter Try.func58, Try.ntmps58
  go_wp2_with fail
  go_ret
  exact Hf.out _ _ rfl ((Below.refl _ _).alloc (Nat.le_refl _) _)
/-- What fold.Writer's map holds behind n rounds. -/
def wM (rs : List RTx) (k : ByteArray) : Nat → List (I64 × Int)
  | 0 => []
  | n + 1 => if h : n < 9223372036854775807 then mput (wM rs k n) (i64 ((n : Int) + 1) (by omega)) (lastN rs k n) else []
theorem wM_succ (rs : List RTx) (k : ByteArray) {n : Nat} (h : n < 9223372036854775807) : wM rs k (n + 1) = mput (wM rs k n) (i64 ((n : Int) + 1) (by omega)) (lastN rs k n) := by rw [wM, dif_pos h]
theorem writer_err (A : Option Addr) (len cap : Nat) (rs : List RTx) (i : Int) (k : ByteArray) (w : World) (hw : TxsAt w w.heap.size A len rs) (hl : len ≤ 4398046511104) (he : logErr rs 1 ≠ 0) :
    Calls Try.prog 27 #[.slice A len cap, .int .i64 i, .string k] w fun e w' => e = .returned (.tuple #[.int .i64 0, .int .i64 (logErr rs 1)]) ∧ Below w.heap.size w w' := by
  have hne : (logErr rs 1 != 0) = true := by simpa using he
  have hw2 : ∀ o, TxsAt (w.alloc o) (w.alloc o).heap.size A len rs := fun o => (hw.below ((Below.refl _ _).alloc (Nat.le_refl _) _)).more (by simp)
  go_enter Try.func27, Try.ntmps27
  go_wp2_with fail
  refine (foldcheck_any A len cap rs _ (hw2 _) hl).mono ?_
  rintro e w1 ⟨rfl, hb1⟩
  go_wp2_with fail
  go_ret2
  exact ⟨rfl, below_box (hb1.mono (by simp))⟩
theorem writer_arg (A : Option Addr) (len cap : Nat) (rs : List RTx) (i : Int) (k : ByteArray) (w : World) (hw : TxsAt w w.heap.size A len rs) (hl : len ≤ 4398046511104) (he : logErr rs 1 = 0) (ha : i < 1 ∨ (len : Int) + 1 < i ∨ keyB k = false) :
    Calls Try.prog 27 #[.slice A len cap, .int .i64 i, .string k] w fun e w' => e = .returned (.tuple #[.int .i64 0, .int .i64 1]) ∧ Below w.heap.size w w' := by
  have He := Lib.hid he
  have hw2 : ∀ o, TxsAt (w.alloc o) (w.alloc o).heap.size A len rs := fun o => (hw.below ((Below.refl _ _).alloc (Nat.le_refl _) _)).more (by simp)
  have Hw2 := Lib.hid hw2
  clear he hw2
  by_cases h1 : i < 1 <;> by_cases h3 : (len : Int) + 1 < i
  all_goals (cases hk : keyB k)
  all_goals first
    | (exfalso; simp [hk] at ha; omega)
    | (have Hk := Lib.hid hk
       clear hk ha
       have hmay : ∀ W, Calls Try.prog 50 #[.string k] W fun e w' => e = .returned (.bool _) ∧ W = w' := fun W => by have := fmay_any k W; rwa [Hk.out] at this
       go_enter Try.func27, Try.ntmps27
       go_wp2_with fail
       refine (foldcheck_any A len cap rs _ (Hw2.out _) hl).mono ?_
       rintro e w1 ⟨rfl, hb1⟩
       rw [He.out]
       have c0 : w1.cell? ⟨w.heap.size, 0, none⟩ = some (.string k) := (hb1.cell (p := ⟨w.heap.size, 0, none⟩) (by simp)).trans (by simp [go_sem])
       have Hb1 := Lib.hid (below_box (hb1.mono (by simp)))
       clear hb1
       go_wp2_with (go_at_call 50; refine (hmay _).mono ?_; rintro e w' ⟨rfl, rfl⟩)
       go_ret2
       exact ⟨rfl, Hb1.out⟩)
set_option maxHeartbeats 2000000 in
set_option maxRecDepth 8000 in
theorem writer_good (A : Option Addr) (len cap : Nat) (rs : List RTx) (N : Nat) (k : ByteArray) (w : World) (hw : TxsAt w w.heap.size A len rs) (hl : len ≤ 4398046511104) (he : logErr rs 1 = 0) (hN1 : 1 ≤ N) (hN2 : N ≤ len + 1) (hk : keyB k = true) :
    Calls Try.prog 27 #[.slice A len cap, .int .i64 N, .string k] w fun e w' => e = .returned (.tuple #[.int .i64 (lastN rs k (N - 1) : Nat), .int .i64 0]) ∧ Below w.heap.size w w' := by
  have He := Lib.hid he
  have hw2 : ∀ o, TxsAt (w.alloc o) (w.alloc o).heap.size A len rs := fun o => (hw.below ((Below.refl _ _).alloc (Nat.le_refl _) _)).more (by simp)
  have Hw2 := Lib.hid hw2
  have hks : k.size ≤ maxLen := by simp only [keyB, Bool.and_eq_true, decide_eq_true_eq] at hk; unfold maxLen; omega
  have Hks := Lib.hid hks
  have hmay : ∀ W, Calls Try.prog 50 #[.string k] W fun e w' => e = .returned (.bool true) ∧ W = w' := fun W => by have := fmay_any k W; rwa [hk] at this
  have Hmay := Lib.hid hmay
  have hlen := Lib.hid hw.1.len
  clear he hw2 hk hks hmay
  have hmm := @run_makeMap Try.prog
  have hd1 : decide ((N : Int) < 1) = false := by rw [decide_eq_false_iff_not]; omega
  have hd3 : decide (((len : Int) + 1) < (N : Int)) = false := by rw [decide_eq_false_iff_not]; omega
  go_enter Try.func27, Try.ntmps27
  go_wp2_with fail
  refine (foldcheck_any A len cap rs _ (Hw2.out _) hl).mono ?_
  rintro e w1 ⟨rfl, hb1⟩
  rw [He.out]
  have c0 : w1.cell? ⟨w.heap.size, 0, none⟩ = some (.string k) := (hb1.cell (p := ⟨w.heap.size, 0, none⟩) (by simp)).trans (by simp [go_sem])
  have hs1 : w.heap.size < w1.heap.size := by have := hb1.size; simp at this; omega
  have Hb1 := Lib.hid (below_box (hb1.mono (by simp)))
  clear hb1
  go_wp2_with (go_at_call 50; refine (Hmay.out _).mono ?_; rintro e w' ⟨rfl, rfl⟩)
  go_loopw [10, 11] (fun v n wr => ∃ t : Nat, t ≤ N ∧ n = .int .i64 ((t : Int) + 1) ∧ v = .int .i64 (lastN rs k t : Nat) ∧ OwnM (placeK k) (Value.int .i64) wr w1.heap.size (wM rs k t) ∧ Below w1.heap.size w1 wr) (fun _ n _ => N + 1 - (RowKit.intOf n).toNat)
  case atStart => exact ⟨0, by omega, rfl, rfl, OwnM.made _ _ _, (Below.refl _ _).alloc (Nat.le_refl _) _⟩
  case round =>
    obtain ⟨t, ht, rfl, rfl, hm, hb⟩ := hrel
    have hz := hb.size
    have hlt0 := hm.lt
    have hbw : Below w.heap.size w wr := Hb1.out.trans (hb.mono (by omega))
    have hr := hw.below hbw
    have c1 := (hb.cell (p := ⟨w.heap.size, 0, none⟩) hs1).trans c0
    have hle := lastN_le rs k t
    have Hm := Lib.hid hm
    have Hb := Lib.hid hb
    have Hbw := Lib.hid hbw
    clear hm hb hbw
    by_cases hlt : t < N
    · have hbn : ∀ {w' : World}, World.grownBy wr w' (some w1.heap.size) → Below w1.heap.size w1 w' ∧ w'.cell? ⟨w.heap.size, 0, none⟩ = some (.string k) := fun hg' =>
        have h1 := Hb.out.grown hg' (by omega) (fun q hq => by injection hq; omega)
        ⟨h1, (h1.cell (p := ⟨w.heap.size, 0, none⟩) hs1).trans c0⟩
      by_cases hlt2 : t < len
      · obtain ⟨bb, off, r, rfl, hbl2, hx, x0, x1, hws, hrl⟩ := hr.cell2 hlt2
        have Hx := Lib.hid hx
        clear hx hr
        have hwsr : wsOf rs t = r.ws := wsOf_get Hx.out
        have hln : lastN rs k (t + 1) = if hasKey r.ws k = true then t + 1 else lastN rs k t := by rw [lastN, hwsr]
        have Hln := Lib.hid hln
        have hcc : ∀ (w' : World), Below w1.heap.size w1 w' → ∀ p : Addr, p.block < w1.heap.size → w'.cell? p = wr.cell? p := fun w' h p hp => (h.cell hp).trans (Hb.out.cell hp).symm
        have Hcc := Lib.hid hcc
        clear hwsr hln hcc
        go_wp2_with (at_mapUpdate; refine wpList_update_M (κ := placeK k) (ν := Value.int .i64) (b := w1.heap.size) (m := wM rs k t) rfl _ _ _ rfl Hm.out (kplace k Hks.out) Try.underlying93 (i64 ((t : Int) + 1) (by omega)) (lastN rs k t : Nat) rfl rfl rfl ?_; intro w' hown' hg'; obtain ⟨hb', c2⟩ := hbn hg'; have x1' := (Hcc.out _ hb' ⟨bb, off + t * 2 + 1, none⟩ (by show bb < _; omega)).trans x1; have Hb' := Lib.hid hb'; clear hg' hb')
        have hwsw : WsAt w' w'.heap.size r.A r.len r.ws := by
          have h1 := (hw.below (Hb1.out.trans (Hb'.out.mono (by omega))))
          exact ((h1.2 r (List.mem_of_getElem? Hx.out)).1).more (by have := Hb'.out.size; omega)
        have hszw : w1.heap.size ≤ w'.heap.size := Hb'.out.size
        refine (containsw_wrt (.pointer (some ⟨w.heap.size, 0, none⟩)) (keyIs k) r.A r.len r.cap r.ws w' hwsw (by omega) (fun x W hW => wrt_any k w.heap.size x W ((hW.cell (p := ⟨w.heap.size, 0, none⟩) (by show w.heap.size < _; omega)).trans c2) (by have := hW.size; omega))).mono ?_
        rintro e w2 ⟨rfl, hb2⟩
        have hm2 := hown'.below hb2 hown'.lt
        rw [← wM_succ rs k (by omega)] at hm2
        have Hm2 := Lib.hid hm2
        have Hb2 := Lib.hid (Hb'.out.trans (hb2.mono hszw))
        clear hm2 hb2 hown' hwsw
        cases hc : r.ws.any (keyIs k)
        · have Hc := Lib.hid hc
          clear hc
          go_wp2_with fail
          exact ⟨⟨t + 1, by omega, by go_num, by rw [Hln.out, if_neg (by unfold hasKey; rw [Hc.out]; simp)], Hm2.out, Hb2.out⟩, by simp [RowKit.intOf]; omega⟩
        · have Hc := Lib.hid hc
          clear hc
          go_wp2_with fail
          exact ⟨⟨t + 1, by omega, by go_num, by rw [Hln.out, if_pos (by unfold hasKey; rw [Hc.out])]; go_num, Hm2.out, Hb2.out⟩, by simp [RowKit.intOf]; omega⟩
      · obtain rfl : t = len := by omega
        have hwsr : wsOf rs t = [] := by unfold wsOf; rw [List.getElem?_eq_none (by rw [hlen.out]; exact Nat.le_refl _)]; rfl
        have hln : lastN rs k (t + 1) = lastN rs k t := by rw [lastN, hwsr]; rfl
        have Hln := Lib.hid hln
        clear hwsr hln
        go_wp2_with (at_mapUpdate; refine wpList_update_M (κ := placeK k) (ν := Value.int .i64) (b := w1.heap.size) (m := wM rs k t) rfl _ _ _ rfl Hm.out (kplace k Hks.out) Try.underlying93 (i64 ((t : Int) + 1) (by omega)) (lastN rs k t : Nat) rfl rfl rfl ?_; intro w' hown' hg'; obtain ⟨hb', c2⟩ := hbn hg')
        exact ⟨⟨t + 1, by omega, by go_num, by rw [Hln.out], by rw [wM_succ rs k (by omega)]; exact hown', hb'⟩, by simp [RowKit.intOf]; omega⟩
    · obtain rfl : t = N := by omega
      clear hr
      have hget : mget (wM rs k t) (i64 (t : Int) (by omega)) = some ((lastN rs k (t - 1) : Nat) : Int) := by
        obtain ⟨q, rfl⟩ : ∃ q, t = q + 1 := ⟨t - 1, by omega⟩
        rw [wM_succ rs k (by omega), mget_mput, if_pos (Subtype.ext (by simp [i64]))]; rfl
      have Hget := Lib.hid hget
      clear hget
      go_wp2_with (at_lookup; refine wpList_lookup_M (κ := placeK k) (ν := Value.int .i64) (b := w1.heap.size) (m := wM rs k t) rfl _ _ rfl Hm.out (kplace k Hks.out) Try.underlying93 zint (i64 (t : Int) (by omega)) rfl rfl ?_; rw [Hget.out])
      go_ret2
      exact ⟨rfl, Hbw.out⟩
def WriterPost (w : World) (rs : List RTx) (i : Int) (k : ByteArray) (e : Ending) (w' : World) : Prop := e = .returned (.tuple #[.int .i64 (writerN rs i k), .int .i64 (writerErr rs i k)]) ∧ Below w.heap.size w w'
theorem fwriter_any (A : Option Addr) (len cap : Nat) (rs : List RTx) (i : Int) (k : ByteArray) (w : World) (hw : TxsAt w w.heap.size A len rs) (hl : len ≤ 4398046511104) :
    Calls Try.prog 27 #[.slice A len cap, .int .i64 i, .string k] w (WriterPost w rs i k) := by
  have hlen := hw.1.len
  unfold WriterPost
  by_cases he : logErr rs 1 = 0
  · by_cases ha : i < 1 ∨ (len : Int) + 1 < i ∨ keyB k = false
    · have h1 : writerErr rs i k = 1 := by
        unfold writerErr
        rw [if_neg (by simpa using he), if_neg (by
          simp only [Bool.and_eq_true, decide_eq_true_eq]
          rintro ⟨⟨h1, h2⟩, h3⟩
          rcases ha with ha | ha | ha
          · omega
          · omega
          · rw [h3] at ha; cases ha)]
      have h2 : writerN rs i k = 0 := by unfold writerN; rw [if_neg (by rw [h1]; decide)]
      rw [h1, h2]
      exact writer_arg A len cap rs i k w hw hl he ha
    · have hk : keyB k = true := by
        cases h : keyB k
        · exact absurd (Or.inr (Or.inr h)) ha
        · rfl
      have hb : 1 ≤ i ∧ i ≤ (len : Int) + 1 := by omega
      have h1 : writerErr rs i k = 0 := by
        unfold writerErr
        rw [if_neg (by simpa using he), if_pos (by simp only [Bool.and_eq_true, decide_eq_true_eq]; exact ⟨⟨hb.1, by omega⟩, hk⟩)]
      have h2 : writerN rs i k = (lastN rs k (i - 1).toNat : Nat) := by unfold writerN; rw [if_pos h1]
      rw [h1, h2]
      obtain ⟨n, rfl⟩ : ∃ n : Nat, i = n := ⟨i.toNat, by omega⟩
      have := writer_good A len cap rs n k w hw hl he (by omega) (by omega) hk
      rwa [show ((n : Int) - 1).toNat = n - 1 from by omega]
  · have h1 : writerErr rs i k = logErr rs 1 := by unfold writerErr; rw [if_pos he]
    have h2 : writerN rs i k = 0 := by unfold writerN; rw [if_neg (by rw [h1]; exact he)]
    rw [h1, h2]
    exact writer_err A len cap rs i k w hw hl he
end Go.Proofs.Ytdcnaieieggclaa

/- The document's table of dependencies: what it refuses; Waits, Open, Last; a table that is not there. -/
import Derived.Test.YtfafhfjmoijaeaaGreatDoorKv
import Derived.Test.YtfafhfjmoijaeaaGreatDoorRt5
import Derived.Test.YtfafhfjmoijaeaaGreatDoorRt7
namespace Go.Proofs.YtfafhfjmoijaeaaGreatDoor
open Go.RowKit
set_option linter.unusedVariables false
set_option linter.unusedSimpArgs false

set_option maxRecDepth 100000
set_option maxHeartbeats 4000000
def plZ (L : List O1) (z : Int) : Option Nat := if z < 0 then none else placeI L z.toNat
theorem r11place_neg (Bo g : Nat) (A : Option Addr) (n c : Nat) (xs : List O2) (z : Int) (w : World) (h : RTAt w Bo g A n c xs) (hz : z < 0) (hn : n ≤ 65537) :
    Calls Tryz.prog 68 #[.pointer (some ⟨g, 0, none⟩), .int .i64 z] w fun e w' => e = .returned (.int .i64 (-1)) ∧ w = w' := by
  have c0 := blk_cell h.st 0
  have H := Lib.hid h
  clear h
  go_enter Tryz.func68, Tryz.ntmps68
  go_wp2_with fail
  go_loopw [5] (fun i wr => ∃ m : Nat, m ≤ n ∧ i = .int .i64 m ∧ w = wr) (fun i _ => n - (RowKit.intOf i).toNat)
  case atStart => exact ⟨0, Nat.zero_le _, rfl, rfl⟩
  case round =>
    obtain ⟨m, hm, rfl, rfl⟩ := hrel
    by_cases hlt : m < n
    · obtain ⟨b, off, x, rfl, hbl, hx, x0, x1, x2, x3⟩ := H.out.cell4 (i := m) hlt
      obtain ⟨⟨xn, xw, xt, xe⟩, ⟨WA, Wn, Wc⟩, ⟨TA, Tn, Tc⟩⟩ := x
      simp only [S3.v] at x0 x1 x2 x3
      have hq : ¬ (xn : Int) = z := by omega
      clear hx
      go_wp2_with fail
      exact ⟨⟨m + 1, by omega, by go_num, by first | exact rfl | trivial⟩, by simp [RowKit.intOf]; omega⟩
    · obtain rfl : n = m := by omega
      go_wp2_with fail
      go_ret
      exact ⟨rfl, rfl⟩
theorem r11placeZ_any (Bo g : Nat) (A : Option Addr) (n c : Nat) (xs : List O2) (z : Int) (w : World) (h : RTAt w Bo g A n c xs) (hn : n ≤ 65537) :
    Calls Tryz.prog 68 #[.pointer (some ⟨g, 0, none⟩), .int .i64 z] w fun e w' => e = .returned (.int .i64 (ixV (plZ (xs.map O2.o) z))) ∧ w = w' := by
  unfold plZ
  by_cases hz : z < 0
  · rw [if_pos hz]; exact r11place_neg Bo g A n c xs z w h hz hn
  · rw [if_neg hz]
    obtain ⟨k, rfl⟩ : ∃ k : Nat, z = k := ⟨z.toNat, by omega⟩
    exact r11place_any Bo g A n c xs k w h hn
theorem plZ_none {L : List O1} {z : Int} : plZ L z = none ↔ openZ L z = none := by
  unfold plZ openZ placeI
  by_cases hz : z < 0
  · rw [if_pos hz, List.find?_eq_none]
    refine ⟨fun _ o _ => ?_, fun _ => rfl⟩
    have : ¬ (o.num : Int) = z := by omega
    simp [this]
  · rw [if_neg hz, List.findIdx?_eq_none_iff, List.find?_eq_none]
    have he : ∀ o : O1, openB z.toNat o = (decide ((o.num : Int) = z) && !o.ended) := fun o => by
      unfold openB
      by_cases h : o.num = z.toNat
      · rw [decide_eq_true h, decide_eq_true (show (o.num : Int) = z by omega)]
      · rw [decide_eq_false h, decide_eq_false (show ¬ (o.num : Int) = z by omega)]
    exact ⟨fun h o ho => by rw [← he, h o ho]; exact Bool.false_ne_true, fun h o ho => by have := h o ho; rw [← he] at this; simpa using this⟩
theorem plZ_some {L : List O1} {z : Int} {i : Nat} (h : plZ L z = some i) : ∃ o, L[i]? = some o ∧ openZ L z = some o ∧ placeI L o.num = some i := by
  unfold plZ at h
  by_cases hz : z < 0
  · rw [if_pos hz] at h; cases h
  · rw [if_neg hz] at h
    have he : ∀ o : O1, openB z.toNat o = (decide ((o.num : Int) = z) && !o.ended) := fun o => by
      unfold openB
      by_cases h : o.num = z.toNat
      · rw [decide_eq_true h, decide_eq_true (show (o.num : Int) = z by omega)]
      · rw [decide_eq_false h, decide_eq_false (show ¬ (o.num : Int) = z by omega)]
    have h' := h
    unfold placeI at h'
    rw [List.findIdx?_eq_some_iff_getElem] at h'
    obtain ⟨h1, h2, h3⟩ := h'
    refine ⟨L[i], List.getElem?_eq_getElem h1, ?_, ?_⟩
    · unfold openZ
      rw [List.find?_eq_some_iff_getElem]
      exact ⟨by rw [← he]; exact h2, i, h1, rfl, fun j hj => by have := h3 j hj; rw [he] at this; rw [Bool.not_eq_true] at this; rw [this]; rfl⟩
    · have h4 := h2
      unfold openB at h4
      rw [Bool.and_eq_true, decide_eq_true_eq] at h4
      rw [h4.1]; exact h
theorem r11done_arg (Bo g : Nat) (A : Option Addr) (n c : Nat) (xs : List O2) (z : Int) (w : World) (h : RTAt w Bo g A n c xs) (hn : n ≤ 65537) (hp : plZ (xs.map O2.o) z = none) :
    Calls Tryz.prog 16 #[.pointer (some ⟨g, 0, none⟩), .int .i64 z] w fun e w' => e = .returned (.tuple #[.slice none 0 0, .int .i64 1]) ∧ w = w' := by
  have HP := Lib.hid (r11placeZ_any Bo g A n c xs z w h hn)
  rw [hp] at HP
  simp only [ixV] at HP
  clear h hp
  go_enter Tryz.func16, Tryz.ntmps16
  go_wp2_with fail
  refine HP.out.mono ?_
  rintro e w1 ⟨rfl, rfl⟩
  go_wp2_with fail
  go_ret2
  exact ⟨rfl, rfl⟩
theorem r11waits_arg (Bo g : Nat) (A : Option Addr) (n c : Nat) (xs : List O2) (z : Int) (w : World) (h : RTAt w Bo g A n c xs) (hn : n ≤ 65537) (hp : plZ (xs.map O2.o) z = none) :
    Calls Tryz.prog 20 #[.pointer (some ⟨g, 0, none⟩), .int .i64 z] w fun e w' => e = .returned (.tuple #[.slice none 0 0, .int .i64 1]) ∧ w = w' := by
  have HP := Lib.hid (r11placeZ_any Bo g A n c xs z w h hn)
  rw [hp] at HP
  simp only [ixV] at HP
  clear h hp
  go_enter Tryz.func20, Tryz.ntmps20
  go_wp2_with fail
  refine HP.out.mono ?_
  rintro e w1 ⟨rfl, rfl⟩
  go_wp2_with fail
  go_ret2
  exact ⟨rfl, rfl⟩
theorem r11done_order (Bo g : Nat) (A : Option Addr) (n c : Nat) (xs : List O2) (z : Int) (i : Nat) (x : O2) (w : World) (h : RTAt w Bo g A n c xs) (hn : n ≤ 65537) (hp : plZ (xs.map O2.o) z = some i) (hx : xs[i]? = some x) (hw : 0 < x.T.n) :
    Calls Tryz.prog 16 #[.pointer (some ⟨g, 0, none⟩), .int .i64 z] w fun e w' => e = .returned (.tuple #[.slice none 0 0, .int .i64 6]) ∧ w = w' := by
  have HP := Lib.hid (r11placeZ_any Bo g A n c xs z w h hn)
  rw [hp] at HP
  simp only [ixV] at HP
  have hi : i < n := by rw [← h.tk.len]; exact (List.getElem?_eq_some_iff.1 hx).1
  obtain ⟨b, off, y, rfl, hbl, hy, y0, y1, y2, y3⟩ := h.cell4 hi
  rw [hx] at hy; injection hy with hy; subst hy
  have c0 := blk_cell h.st 0
  have hi0 : ¬ (i : Int) < 0 := by omega
  obtain ⟨⟨xn, xw, xt, xe⟩, ⟨WA, Wn, Wc⟩, ⟨TA, Tn, Tc⟩⟩ := x
  simp only [S3.v] at y0 y1 y2 y3 hw
  clear h hp hx
  go_enter Tryz.func16, Tryz.ntmps16
  go_wp2_with fail
  refine HP.out.mono ?_
  rintro e w1 ⟨rfl, rfl⟩
  go_wp2_with fail
  go_ret2
  exact ⟨rfl, rfl⟩
theorem r11waits_any (Bo g : Nat) (A : Option Addr) (n c : Nat) (xs : List O2) (z : Int) (i : Nat) (x : O2) (w : World) (h : RTAt w Bo g A n c xs) (hn : n ≤ 65537) (hp : plZ (xs.map O2.o) z = some i) (hx : xs[i]? = some x) :
    Calls Tryz.prog 20 #[.pointer (some ⟨g, 0, none⟩), .int .i64 z] w fun e w' => e = .returned (.tuple #[x.T.v, .int .i64 0]) ∧ w = w' := by
  have HP := Lib.hid (r11placeZ_any Bo g A n c xs z w h hn)
  rw [hp] at HP
  simp only [ixV] at HP
  have hi : i < n := by rw [← h.tk.len]; exact (List.getElem?_eq_some_iff.1 hx).1
  obtain ⟨b, off, y, rfl, hbl, hy, y0, y1, y2, y3⟩ := h.cell4 hi
  rw [hx] at hy; injection hy with hy; subst hy
  have c0 := blk_cell h.st 0
  have hi0 : ¬ (i : Int) < 0 := by omega
  obtain ⟨⟨xn, xw, xt, xe⟩, ⟨WA, Wn, Wc⟩, ⟨TA, Tn, Tc⟩⟩ := x
  simp only [S3.v] at y0 y1 y2 y3 ⊢
  clear h hp hx
  go_enter Tryz.func20, Tryz.ntmps20
  go_wp2_with fail
  refine HP.out.mono ?_
  rintro e w1 ⟨rfl, rfl⟩
  go_wp2_with fail
  go_ret2
  exact ⟨rfl, rfl⟩
theorem openO_succ {L : List O1} {k : Nat} {o : O1} (h : L[k]? = some o) : openO (L.take (k + 1)) = openO (L.take k) ++ if o.ended = true then [] else [o.num] := by
  unfold openO
  rw [List.take_add_one, h, Option.toList_some, List.filter_append, List.map_append]
  cases he : o.ended <;> simp [he]
theorem r11open_any (Bo g : Nat) (A : Option Addr) (n c : Nat) (xs : List O2) (w : World) (h : RTAt w Bo g A n c xs) (hn : n ≤ 65537) :
    Calls Tryz.prog 24 #[.pointer (some ⟨g, 0, none⟩)] w (R11List w w.heap.size none (openO (xs.map O2.o))) := by
  have H := Lib.hid h
  have hlen := h.tk.len
  have Hlen := Lib.hid hlen
  clear h hlen
  go_enter Tryz.func24, Tryz.ntmps24
  go_wp2_with fail
  go_loopw [3, 4] (fun v i wr => ∃ (k : Nat) (A' : Option Addr) (n' c' : Nat), k ≤ n ∧ i = .int .i64 k ∧ v = .slice A' n' c' ∧ Hid (TkAt nC 1 3 wr w.heap.size A' n' c' (openO ((xs.map O2.o).take k))) ∧ Hid (Below w.heap.size w wr) ∧ n' ≤ k) (fun _ i _ => n - (RowKit.intOf i).toNat)
  case atStart => exact ⟨0, none, 0, 0, Nat.zero_le _, rfl, rfl, Lib.hid (TkAt.nil _ _), Lib.hid (Below.refl _ _), by omega⟩
  case round =>
    obtain ⟨k, A', n', c', hk, rfl, rfl, HT, HB, hn'⟩ := hrel
    have c0 := blk_cell (H.out.below HB.out).st 0
    by_cases hlt : k < n
    · obtain ⟨b, off, x, rfl, hbl, hx, x0, x1, x2, x3⟩ := (H.out.below HB.out).cell4 (i := k) hlt
      obtain ⟨⟨xn, xw, xt, xe⟩, ⟨WA, Wn, Wc⟩, ⟨TA, Tn, Tc⟩⟩ := x
      simp only [S3.v] at x0 x1 x2 x3
      have hxo : (xs.map O2.o)[k]? = some ⟨xn, xw, xt, xe⟩ := by rw [List.getElem?_map, hx]; rfl
      have HS := Lib.hid (openO_succ hxo)
      clear hx hxo
      cases xe with
      | true =>
        go_wp2_with fail
        refine ⟨⟨k + 1, A', n', c', by omega, by go_num, rfl, Lib.hid ?_, HB, by omega⟩, by simp [RowKit.intOf]; omega⟩
        have := HS.out
        simp only [↓reduceIte, List.append_nil] at this
        rw [this]; exact HT.out
      | false =>
        go_wp2_with (first | (at_builtin; refine wpList_pushI rfl _ _ rfl w.heap.size A' n' c' _ rfl HT.out HB.out.size xn 1 rfl (by omega) ?_; intro A3 c3 w3 h1 h2 h3; have HT3 := Lib.hid h1; have HB3 : Hid (Below w.heap.size w w3) := Lib.hid (HB.out.trans (h2.below HB.out.size (fun q ⟨ad, e, e2⟩ => by rw [e2]; exact (HT.out.lt e).1))); clear h1 h2 h3) | fail)
        refine ⟨⟨k + 1, A3, n' + 1, c3, by omega, by go_num, rfl, Lib.hid ?_, HB3, by omega⟩, by simp [RowKit.intOf]; omega⟩
        have := HS.out
        simp only [Bool.false_eq_true, ↓reduceIte] at this
        rw [this]; exact HT3.out
    · obtain rfl : n = k := by omega
      go_wp2_with fail
      go_ret
      refine ⟨_, _, _, rfl, ?_, HB.out, fun a ea => Or.inr (HT.out.lt ea).1⟩
      have := HT.out
      rw [List.take_of_length_le (by rw [List.length_map, Hlen.out]; exact Nat.le_refl _)] at this
      exact this
def lastV : Option O1 → Int
  | some o => o.num
  | none => 0
theorem r11Last_any (Bo g : Nat) (A : Option Addr) (n c : Nat) (xs : List O2) (k : ByteArray) (w : World) (h : RTAt w Bo g A n c xs) (hn : n ≤ 65537) (hw : ∀ x ∈ xs, x.W.n ≤ 65536) :
    Calls Tryz.prog 22 #[.pointer (some ⟨g, 0, none⟩), .string k] w fun e w' => e = .returned (.int .i64 (lastV (lastO (xs.map O2.o) k))) ∧ w = w' := by
  have HL := Lib.hid (r11last_any Bo g A n c xs k w h hn hw)
  have hlo := lastO_eq (xs.map O2.o) k
  rw [List.length_map, h.tk.len] at hlo
  rw [hlo]
  clear hlo
  cases hl : lastI (xs.map O2.o) k n with
  | none =>
    rw [hl] at HL
    simp only [ixV] at HL
    simp only [Option.bind_none, lastV]
    clear h hl hw
    go_enter Tryz.func22, Tryz.ntmps22
    go_wp2_with fail
    refine HL.out.mono ?_
    rintro e w1 ⟨rfl, rfl⟩
    go_wp2_with fail
    go_ret
    exact ⟨rfl, rfl⟩
  | some i =>
    rw [hl] at HL
    simp only [ixV] at HL
    have hi : i < n := lastI_lt _ _ _ _ hl
    obtain ⟨b, off, x, rfl, hbl, hx, x0, x1, x2, x3⟩ := h.cell4 hi
    have hxo : (xs.map O2.o)[i]? = some x.o := by rw [List.getElem?_map, hx]; rfl
    simp only [Option.bind_some, hxo, lastV]
    have c0 := blk_cell h.st 0
    have hi0 : ¬ (i : Int) < 0 := by omega
    obtain ⟨⟨xn, xw, xt, xe⟩, ⟨WA, Wn, Wc⟩, ⟨TA, Tn, Tc⟩⟩ := x
    simp only [S3.v] at x0 x1 x2 x3 ⊢
    clear h hl hw hx hxo
    go_enter Tryz.func22, Tryz.ntmps22
    go_wp2_with fail
    refine HL.out.mono ?_
    rintro e w1 ⟨rfl, rfl⟩
    go_wp2_with fail
    go_ret
    exact ⟨rfl, rfl⟩
theorem r11add_bad (Bo g : Nat) (A : Option Addr) (n c : Nat) (xs : List O2) (num : Int) (Aw : Option Addr) (lenw capw : Nat) (ws : List Wr) (w : World) (h : RTAt w Bo g A n c xs) (hws : WsAt w w.heap.size Aw lenw ws) (hok : txB num ws = false) (hl : lenw ≤ 4398046511104) :
    Calls Tryz.prog 12 #[.pointer (some ⟨g, 0, none⟩), .agg #[.int .i64 num, .slice Aw lenw capw]] w fun e w' => e = .returned (.tuple #[.int .i64 0, .int .i64 1]) ∧ Below w.heap.size w w' := by
  obtain ⟨W0, hW0⟩ : ∃ W0, W0 = w.alloc (.cells #[.int .i64 num, .slice Aw lenw capw] 50) := ⟨_, rfl⟩
  have hb0 : Below w.heap.size w W0 := hW0 ▸ bel_alloc (Below.refl _ _) _
  have HX0 : Hid (W0.heap[w.heap.size]? = some (.cells #[.int .i64 num, .slice Aw lenw capw] 50 (0, 0))) := Lib.hid (by rw [hW0]; exact blk_new _ _)
  have Hchk := Lib.hid (refcheck_any num Aw lenw capw ws W0 ((hws.below hb0).more hb0.size))
  rw [hok] at Hchk
  have HB0 := Lib.hid hb0
  have HW0 := Lib.hid hW0
  have x0 := blk_cell HX0.out 0
  have x1 := blk_cell HX0.out 1
  clear hb0 hW0 h hws hok
  go_enter Tryz.func12, Tryz.ntmps12
  go_wp2_with fail
  rw [← HW0.out]
  go_wp2_with fail
  refine Hchk.out.mono ?_
  rintro e w1 ⟨rfl, hb1⟩
  have HB1 : Hid (Below w.heap.size w w1) := Lib.hid (HB0.out.trans (hb1.mono HB0.out.size))
  clear hb1 x0 x1
  simp only [errOf]
  go_wp2_with fail
  go_ret2
  exact ⟨rfl, HB1.out⟩
theorem r11add_order (Bo g : Nat) (A : Option Addr) (q c : Nat) (xs : List O2) (x : O2) (num : Int) (Aw : Option Addr) (lenw capw : Nat) (ws : List Wr) (w : World) (h : RTAt w Bo g A (q + 1) c xs) (hws : WsAt w w.heap.size Aw lenw ws) (hok : txB num ws = true) (hl : lenw ≤ 4398046511104) (hq : q ≤ 65536) (hx : xs[q]? = some x) (hle : num ≤ x.o.num) :
    Calls Tryz.prog 12 #[.pointer (some ⟨g, 0, none⟩), .agg #[.int .i64 num, .slice Aw lenw capw]] w fun e w' => e = .returned (.tuple #[.int .i64 0, .int .i64 6]) ∧ Below w.heap.size w w' := by
  obtain ⟨W0, hW0⟩ : ∃ W0, W0 = w.alloc (.cells #[.int .i64 num, .slice Aw lenw capw] 50) := ⟨_, rfl⟩
  have hb0 : Below w.heap.size w W0 := hW0 ▸ bel_alloc (Below.refl _ _) _
  have HX0 : Hid (W0.heap[w.heap.size]? = some (.cells #[.int .i64 num, .slice Aw lenw capw] 50 (0, 0))) := Lib.hid (by rw [hW0]; exact blk_new _ _)
  have Hchk := Lib.hid (refcheck_any num Aw lenw capw ws W0 ((hws.below hb0).more hb0.size))
  rw [hok] at Hchk
  have HB0 := Lib.hid hb0
  have HW0 := Lib.hid hW0
  have x0 := blk_cell HX0.out 0
  have x1 := blk_cell HX0.out 1
  have H := Lib.hid h
  have Hxx := Lib.hid hx
  clear hb0 hW0 h hws hok hx
  go_enter Tryz.func12, Tryz.ntmps12
  go_wp2_with fail
  rw [← HW0.out]
  go_wp2_with fail
  refine Hchk.out.mono ?_
  rintro e w1 ⟨rfl, hb1⟩
  have HB1 : Hid (Below w.heap.size w w1) := Lib.hid (HB0.out.trans (hb1.mono HB0.out.size))
  have HX1 := Lib.hid ((hb1.block _ (blk_lt HX0.out)).trans HX0.out)
  clear hb1 x0 x1
  have x0 := blk_cell HX1.out 0
  have hst := (H.out.below HB1.out).st
  have s0 := blk_cell hst 0
  simp only [errOf]
  obtain ⟨b, off, z, eA, hbl, hz, z0, z1, z2, z3⟩ := (H.out.below HB1.out).cell4 (i := q) (by omega)
  obtain rfl : z = x := by have := Hxx.out; rw [hz] at this; injection this
  rw [eA] at s0
  have hq1 : IntKind.i64.wrap (((q + 1 : Nat) : Int) - 1) = ((q : Nat) : Int) := by rw [IntKind.wrap_i64]; omega
  have d1 : decide (num ≤ (z.o.num : Int)) = true := decide_eq_true hle
  have d3 : decide ((0 : Int) < ((q + 1 : Nat) : Int)) = true := decide_eq_true (by omega)
  have d4 : decide (0 < q + 1) = true := decide_eq_true (by omega)
  have d5 : (q : Int) < ((q + 1 : Nat) : Int) := by omega
  have d6 : q < q + 1 := by omega
  clear hst hz z1 z2 z3
  go_wp2_with fail
  go_quiet (fail)
  go_wp2_with fail
  go_ret2
  exact ⟨rfl, bel_drewN HB1.out _⟩
theorem r11add_nil (num : Int) (Aw : Option Addr) (lenw capw : Nat) (w : World) : Calls Tryz.prog 12 #[.pointer none, .agg #[.int .i64 num, .slice Aw lenw capw]] w fun e w' => e = .returned (.tuple #[.int .i64 0, .int .i64 2]) ∧ Below w.heap.size w w' := by
  go_enter Tryz.func12, Tryz.ntmps12
  go_wp2_with fail
  go_ret2
  exact ⟨rfl, bel_alloc (Below.refl _ _) _⟩
theorem r11done_nil (z : Int) (w : World) : Calls Tryz.prog 16 #[.pointer none, .int .i64 z] w fun e w' => e = .returned (.tuple #[.slice none 0 0, .int .i64 2]) ∧ w = w' := by
  go_enter Tryz.func16, Tryz.ntmps16
  go_wp2_with fail
  go_ret2
  exact ⟨rfl, rfl⟩
theorem r11waits_nil (z : Int) (w : World) : Calls Tryz.prog 20 #[.pointer none, .int .i64 z] w fun e w' => e = .returned (.tuple #[.slice none 0 0, .int .i64 2]) ∧ w = w' := by
  go_enter Tryz.func20, Tryz.ntmps20
  go_wp2_with fail
  go_ret2
  exact ⟨rfl, rfl⟩
theorem r11open_nil (w : World) : Calls Tryz.prog 24 #[.pointer none] w fun e w' => e = .returned (.slice none 0 0) ∧ w = w' := by
  go_enter Tryz.func24, Tryz.ntmps24
  go_wp2_with fail
  go_ret
  exact ⟨rfl, rfl⟩
theorem r11last_nil (k : ByteArray) (w : World) : Calls Tryz.prog 22 #[.pointer none, .string k] w fun e w' => e = .returned (.int .i64 0) ∧ w = w' := by
  go_enter Tryz.func22, Tryz.ntmps22
  go_wp2_with fail
  go_ret
  exact ⟨rfl, rfl⟩
end Go.Proofs.YtfafhfjmoijaeaaGreatDoor

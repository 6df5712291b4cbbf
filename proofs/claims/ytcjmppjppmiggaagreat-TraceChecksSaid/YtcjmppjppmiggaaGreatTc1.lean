/- trace.place, slices.Contains, gate.New. -/
import Derived.Test.YtcjmppjppmiggaaGreatSt0
namespace Go.Proofs.YtcjmppjppmiggaaGreat
open Go.RowKit
set_option linter.unusedVariables false
set_option linter.unusedSimpArgs false

set_option maxRecDepth 100000
def risesB (n : Int) : List Int → Int → Bool
  | [], _ => true
  | x :: r, than => decide (than < x) && decide (x ≤ n) && risesB n r x
def placeB (n mark : Int) (l : List Int) : Bool := decide (0 ≤ mark) && decide (mark ≤ n) && risesB n l (mark + 1)
abbrev IsAt := RowAt Icell 1
theorem IsAt.cell1 {w : World} {B n i : Nat} {A : Option Addr} {l : List Int} (h : IsAt w B A n l) (hi : i < n) : ∃ b off x, A = some ⟨b, off, none⟩ ∧ b < B ∧ l[i]? = some x ∧ w.cell? ⟨b, off + i, none⟩ = some (.int .i64 x) := by
  obtain ⟨b, off, x, e, hb, hx, hc⟩ := h.at_ hi
  exact ⟨b, off, x, e, hb, hx, by simpa using hc 0 _ rfl⟩
set_option maxHeartbeats 1000000 in
theorem tplace_any (A : Option Addr) (len cap : Nat) (mark : Int) (A2 : Option Addr) (len2 cap2 : Nat) (l : List Int) (w : World) (hw : IsAt w w.heap.size A2 len2 l) (hl : len ≤ 4398046511104) (hl2 : len2 ≤ 4398046511104000) :
    Calls Tryz.prog 18 #[.slice A len cap, .int .i64 mark, .slice A2 len2 cap2] w fun e w' => e = .returned (.bool (placeB len mark l)) ∧ w = w' := by
  have hlen := Lib.hid hw.len
  have hfin : ∀ (b : Bool) (w' : World), placeB len mark l = b → w = w' → (Ending.returned (.bool b) = .returned (.bool (placeB len mark l)) ∧ w = w') := fun b w' h h' => ⟨by rw [h], h'⟩
  have Hf := Lib.hid hfin
  clear hfin
  by_cases hm : 0 ≤ mark ∧ mark ≤ (len : Int)
  · obtain ⟨hm0, hm1⟩ := hm
    go_enter Tryz.func18, Tryz.ntmps18
    go_wp2_with fail
    go_loop [7, 22] (fun t i => ∃ (k : Nat) (than : Int), k ≤ len2 ∧ i = .int .i64 k ∧ t = .int .i64 than ∧ risesB len l (mark + 1) = risesB len (l.drop k) than) (fun _ i => len2 - (RowKit.intOf i).toNat)
    case atStart => exact ⟨0, _, Nat.zero_le _, rfl, rfl, rfl⟩
    case round =>
      obtain ⟨k, than, hk, rfl, rfl, hri⟩ := hrel
      have Hri := Lib.hid hri
      clear hri
      by_cases hlt : k < len2
      · obtain ⟨b, off, x, rfl, hbl, hx, x0⟩ := hw.cell1 hlt
        have Hx := Lib.hid hx
        clear hx
        have hri2 : risesB len (l.drop k) than = (decide (than < x) && decide (x ≤ len) && risesB len (l.drop (k + 1)) x) := by rw [drop_get Hx.out]; rfl
        have Hri2 := Lib.hid hri2
        clear hri2
        go_wp2_with fail
        case roundEnd =>
          go_round
          case rel => exact ⟨k + 1, x, by omega, by go_num, rfl, by rw [Hri.out, Hri2.out]; grind⟩
          case measure => simp [RowKit.intOf]; omega
        all_goals
          go_ret
          refine Hf.out _ _ ?_ rfl
          have h1 := Hri.out
          have h2 := Hri2.out
          clear Hf hw
          simp only [placeB]
          grind
      · have hkl : k = len2 := by omega
        subst hkl
        go_wp2_with fail
        go_ret
        refine Hf.out _ _ ?_ rfl
        have h1 := Hri.out
        rw [List.drop_of_length_le (by have := hlen.out; omega)] at h1
        clear Hf hw
        simp only [placeB, h1, risesB]
        grind
  · go_enter Tryz.func18, Tryz.ntmps18
    go_wp2_with fail
    all_goals first
      | (exfalso; omega)
      | (go_ret
         refine Hf.out _ _ ?_ rfl
         clear Hf hw
         simp only [placeB]
         grind)

theorem index_any (A : Option Addr) (len cap : Nat) (l : List Int) (v : Int) (w : World) (hw : IsAt w w.heap.size A len l) (hl : len ≤ 4398046511104000) :
    Calls Tryz.prog 76 #[.slice A len cap, .int .i64 v] w fun e w' => (∃ i : Int, e = .returned (.int .i64 i) ∧ (decide (0 ≤ i) = l.contains v)) ∧ w = w' := by
  have hlen := Lib.hid hw.len
  go_enter Tryz.func76, Tryz.ntmps76
  go_wp2_with fail
  go_loopw [8] (fun i wr => ∃ k : Nat, k ≤ len ∧ i = .int .i64 k ∧ Hid ((l.take k).contains v = false) ∧ wr = w) (fun i _ => len - (RowKit.intOf i).toNat)
  case atStart => exact ⟨0, Nat.zero_le _, rfl, Lib.hid (by simp), rfl⟩
  case round =>
    obtain ⟨k, hk, rfl, HC, rfl⟩ := hrel
    by_cases hlt : k < len
    · obtain ⟨b, off, y, rfl, hbl, hx, x0⟩ := hw.cell1 hlt
      have Hx := Lib.hid hx
      have hsn : l.take (k + 1) = l.take k ++ [y] := by rw [List.take_add_one, hx]; rfl
      have Hsn := Lib.hid hsn
      clear hx hsn
      by_cases hv : v = y
      · subst hv
        have hb0 := beq_self_eq_true v
        go_wp2_with fail
        go_ret
        refine ⟨⟨_, rfl, ?_⟩, rfl⟩
        have h1 : l.contains v = true := by simpa using List.mem_of_getElem? Hx.out
        rw [h1]; simp
      · have hb0 : (v == y) = false := by simpa using hv
        have Hv := Lib.hid hv
        clear hv
        go_wp2_with fail
        exact ⟨⟨k + 1, by omega, by go_num, Lib.hid (by rw [Hsn.out]; have := HC.out; have h2 := Hv.out; simp_all), trivial⟩, by simp [RowKit.intOf]; omega⟩
    · obtain rfl : k = len := by omega
      go_wp2_with fail
      go_ret
      have h1 := HC.out
      rw [List.take_of_length_le (by rw [hlen.out]; omega)] at h1
      exact ⟨⟨_, rfl, by rw [h1]; rfl⟩, rfl⟩
theorem contains_any (A : Option Addr) (len cap : Nat) (l : List Int) (v : Int) (w : World) (hw : IsAt w w.heap.size A len l) (hl : len ≤ 4398046511104000) :
    Calls Tryz.prog 59 #[.slice A len cap, .int .i64 v] w fun e w' => e = .returned (.bool (l.contains v)) ∧ w = w' := by
  have H := Lib.hid (index_any A len cap l v w hw hl)
  clear hw
  go_enter Tryz.func59, Tryz.ntmps59
  go_wp2_with fail
  refine H.out.mono ?_
  rintro e w' ⟨⟨i, rfl, hi⟩, rfl⟩
  have Hi := Lib.hid hi
  clear hi
  go_wp2_with fail
  go_ret
  refine ⟨?_, rfl⟩
  rw [← Hi.out]; rfl
theorem same_any (x y : Wr) (b : Nat) (w : World) (hb : w.heap[b]? = some (.cells (Wr.cells y).toArray 85 (0, 0))) :
    Calls Tryz.prog 78 #[x.v, .pointer (some ⟨b, 0, none⟩)] w fun e w' => e = .returned (.bool (keyIs y.key x)) ∧ Below w.heap.size w w' := by
  have c0 : ∀ o, (w.alloc o).cell? ⟨b, 0, none⟩ = some (.string y.key) := fun o => (blk_cell ((Below.heap_alloc _ _ _ (blk_lt hb)).trans hb) 0)
  have C0 := Lib.hid c0
  have hz := blk_lt hb
  clear c0 hb
  have c1 := C0.out (.cells #[.string x.key, .string x.val, .bool x.drop] 85)
  unfold Wr.v
  go_enter Tryz.func78, Tryz.ntmps78
  go_wp2_with fail
  go_ret
  exact ⟨rfl, (Below.refl _ _).alloc (Nat.le_refl _) _⟩
theorem indexf_any (A : Option Addr) (len cap : Nat) (ws : List Wr) (y : Wr) (b : Nat) (w : World) (hw : WsAt w w.heap.size A len ws) (hl : len ≤ 4398046511104) (hb : w.heap[b]? = some (.cells (Wr.cells y).toArray 85 (0, 0))) :
    Calls Tryz.prog 91 #[.slice A len cap, .func (.func 78) #[] #[.pointer (some ⟨b, 0, none⟩)]] w fun e w' => (∃ i : Int, e = .returned (.int .i64 i) ∧ (decide (0 ≤ i) = hasKey ws y.key)) ∧ Below w.heap.size w w' := by
  have hlen := Lib.hid hw.len
  have Hb := Lib.hid hb
  have Hw := Lib.hid hw
  clear hb hw
  go_enter Tryz.func91, Tryz.ntmps91
  go_wp2_with fail
  go_loopw [8] (fun i wr => ∃ k : Nat, k ≤ len ∧ i = .int .i64 k ∧ Hid (hasKey (ws.take k) y.key = false) ∧ Hid (Below w.heap.size w wr)) (fun i _ => len - (RowKit.intOf i).toNat)
  case atStart => exact ⟨0, Nat.zero_le _, rfl, Lib.hid (by simp [hasKey]), Lib.hid (Below.refl _ _)⟩
  case round =>
    obtain ⟨k, hk, rfl, HC, HB⟩ := hrel
    by_cases hlt : k < len
    · obtain ⟨g, off, x, rfl, hbl, hx, x0, x1, x2⟩ := WsAt.cell3 (Hw.out.below HB.out) hlt
      have hsn : ws.take (k + 1) = ws.take k ++ [x] := by rw [List.take_add_one, hx]; rfl
      have Hsn := Lib.hid hsn
      have Hx := Lib.hid hx
      have HS := Lib.hid (same_any x y b wr ((HB.out.block _ (blk_lt Hb.out)).trans Hb.out))
      unfold Wr.v at HS
      clear hsn hx
      go_wp2_with fail
      refine HS.out.mono ?_
      rintro e w2 ⟨rfl, hb2⟩
      have HB2 := Lib.hid (HB.out.trans (hb2.mono HB.out.size))
      clear hb2 HS
      cases hkk : keyIs y.key x
      · have Hkk := Lib.hid hkk
        clear hkk
        go_wp2_with fail
        exact ⟨⟨k + 1, by omega, by go_num, Lib.hid (by rw [Hsn.out]; have := HC.out; unfold hasKey at this ⊢; rw [List.any_append, this, List.any_cons, Hkk.out]; rfl), HB2⟩, by simp [RowKit.intOf]; omega⟩
      · have Hkk := Lib.hid hkk
        clear hkk
        go_wp2_with fail
        go_ret
        refine ⟨⟨_, rfl, ?_⟩, HB2.out⟩
        have h1 : hasKey ws y.key = true := List.any_eq_true.2 ⟨x, List.mem_of_getElem? Hx.out, Hkk.out⟩
        rw [h1]; simp
    · obtain rfl : k = len := by omega
      go_wp2_with fail
      go_ret
      have h1 := HC.out
      rw [List.take_of_length_le (by rw [hlen.out]; omega)] at h1
      exact ⟨⟨_, rfl, by rw [h1]; rfl⟩, HB.out⟩
theorem containsf_any (A : Option Addr) (len cap : Nat) (ws : List Wr) (y : Wr) (b : Nat) (w : World) (hw : WsAt w w.heap.size A len ws) (hl : len ≤ 4398046511104) (hb : w.heap[b]? = some (.cells (Wr.cells y).toArray 85 (0, 0))) :
    Calls Tryz.prog 75 #[.slice A len cap, .func (.func 78) #[] #[.pointer (some ⟨b, 0, none⟩)]] w fun e w' => e = .returned (.bool (hasKey ws y.key)) ∧ Below w.heap.size w w' := by
  have H := Lib.hid (indexf_any A len cap ws y b w hw hl hb)
  clear hw hb
  go_enter Tryz.func75, Tryz.ntmps75
  go_wp2_with fail
  refine H.out.mono ?_
  rintro e w' ⟨⟨i, rfl, hi⟩, hb⟩
  have Hi := Lib.hid hi
  have HB := Lib.hid hb
  clear hi hb
  go_wp2_with fail
  go_ret
  refine ⟨?_, HB.out⟩
  rw [← Hi.out]; rfl
theorem info_wr : (Tryz.prog.info? 85).map (fun i => (i.zero, i.size, i.bytes)) = some (some (.agg #[.string ⟨#[]⟩, .string ⟨#[]⟩, .bool false]), 3, 40) := by kernel_rfl
theorem RowAt.drop_ {α : Type} {cells : α → List Value} {size : Nat} {w : World} {B n k b off : Nat} {l : List α} (h : RowAt cells size w B (some ⟨b, off, none⟩) n l) (hk : k ≤ n) : RowAt cells size w B (some ⟨b, off + k * size, none⟩) (n - k) (l.drop k) := by
  refine ⟨by rw [List.length_drop, h.len], fun hn => ?_⟩
  obtain ⟨b', off', e, hb, hx⟩ := h.2 (by omega)
  injection e with e; injection e with e1 e2; subst e1 e2
  refine ⟨b, off + k * size, rfl, hb, fun i x hi j u hu => ?_⟩
  rw [List.getElem?_drop] at hi
  have := hx (k + i) x hi j u hu
  rw [Nat.add_mul] at this
  rwa [show off + k * size + i * size + j = off + (k * size + i * size) + j by omega]
theorem one_wr3 (x : Wr) : ∀ u ∈ Wr.cells x, u.oneCell' = true := fun u hu => by simp [Wr.cells] at hu; rcases hu with rfl | rfl | rfl <;> rfl
set_option maxHeartbeats 600000 in
theorem counting_any (n : Int) (A : Option Addr) (len cap : Nat) (ws : List Wr) (w : World) (hw : WsAt w w.heap.size A len ws) (hl : len ≤ 1048576) (hcap : len ≤ cap) :
    Calls Tryz.prog 61 #[.agg #[.int .i64 n, .slice A len cap]] w fun e w' => ∃ A' n' c', e = .returned (.slice A' n' c') ∧ TkAt Wr.cells 3 85 w' w.heap.size A' n' c' (cntW ws) ∧ Below w.heap.size w w' := by
  obtain ⟨i0, hi, hz0, hz1, hz2⟩ := info_parts info_wr
  have hlen := Lib.hid hw.len
  obtain ⟨W, hW⟩ : ∃ W, W = w.alloc (.cells #[.int .i64 n, .slice A len cap] 45) := ⟨_, rfl⟩
  have HB : Hid (Below w.heap.size w W) := Lib.hid (hW ▸ (Below.refl _ _).alloc (Nat.le_refl _) _)
  have hk0 : W.heap[w.heap.size]? = some (.cells #[.int .i64 n, .slice A len cap] 45 (0, 0)) := hW ▸ blk_new _ _
  have HK0 := Lib.hid hk0
  have Hw := Lib.hid hw
  have HW := Lib.hid hW
  have c1 : W.cell? ⟨w.heap.size, 1, none⟩ = some (.slice A len cap) := blk_cell hk0 1
  rw [hW] at c1
  clear hw hW hk0
  go_enter Tryz.func61, Tryz.ntmps61
  go_wp2_with fail
  rw [← HW.out]
  clear c1
  go_loopw [3, 10] (fun o i wr => ∃ (k : Nat) (A' : Option Addr) (m c' : Nat) (l : List Wr), k ≤ len ∧ i = .int .i64 k ∧ o = .slice A' m c' ∧ Hid (TkAt Wr.cells 3 85 wr w.heap.size A' m c' l) ∧ Hid (l ++ cntW (ws.drop k) = cntW ws) ∧ Hid (m ≤ k) ∧ Hid (Below w.heap.size w wr) ∧ Hid (wr.heap[w.heap.size]? = some (.cells #[.int .i64 n, .slice A len cap] 45 (0, 0)))) (fun _ i _ => len - (RowKit.intOf i).toNat)
  case atStart => exact ⟨0, none, 0, 0, [], Nat.zero_le _, rfl, rfl, Lib.hid (TkAt.nil _ _), Lib.hid rfl, Lib.hid (Nat.le_refl _), HB, HK0⟩
  case round =>
    obtain ⟨k, A', m, c', l, hk, rfl, rfl, HT, HL, HM, HBr, HKr⟩ := hrel
    by_cases hlt : k < len
    · obtain ⟨b, off, x, rfl, hbl, hx, x0, x1, x2⟩ := WsAt.cell3 (Hw.out.below HBr.out) hlt
      have hdr : ws.drop k = x :: ws.drop (k + 1) := by
        obtain ⟨hk2, e⟩ := List.getElem?_eq_some_iff.1 hx
        rw [List.drop_eq_getElem_cons hk2, e]
      have Hdr := Lib.hid hdr
      have Hx := Lib.hid hx
      clear hdr hx
      have c1 : ∀ o, (wr.alloc o).cell? ⟨w.heap.size, 1, none⟩ = some (.slice (some ⟨b, off, none⟩) len cap) := fun o => blk_cell ((Below.heap_alloc _ _ _ (blk_lt HKr.out)).trans HKr.out) 1
      have hsw : w.heap.size ≤ wr.heap.size := HBr.out.size
      have Hrow : Hid (∀ (X : World) (A2 : Option Addr), Below w.heap.size w X → (A2 = some ⟨b, off + (k + 1) * 3, none⟩ ∨ len = k + 1) → WsAt X X.heap.size A2 (len - (k + 1)) (ws.drop (k + 1))) := Lib.hid (fun X A2 hX hA => by
        have h1 : WsAt X X.heap.size (some ⟨b, off, none⟩) len ws := (Hw.out.below hX).more hX.size
        rcases hA with rfl | h2
        · exact RowAt.drop_ h1 (by omega)
        · exact ⟨by rw [List.length_drop, h1.len], fun hn => by omega⟩)
      have HBx : Hid (∀ o, Below w.heap.size w (wr.alloc o)) := Lib.hid (fun o => HBr.out.trans ((Below.refl _ _).alloc hsw o))
      have hml := HM.out
      by_cases hcp : cap = k + 1
      · have hlk : len - (k + 1) = 0 := by omega
        have HCF : Hid (∀ X : World, Below w.heap.size w X → X.heap[wr.heap.size]? = some (.cells (Wr.cells x).toArray 85 (0, 0)) → Calls Tryz.prog 75 #[.slice (some ⟨b, off, none⟩) 0 0, .func (.func 78) #[] #[.pointer (some ⟨wr.heap.size, 0, none⟩)]] X fun e w' => e = .returned (.bool (hasKey (ws.drop (k + 1)) x.key)) ∧ Below X.heap.size X w') := Lib.hid (fun X hX hb =>
          containsf_any (some ⟨b, off, none⟩) 0 0 (ws.drop (k + 1)) x wr.heap.size X ⟨by rw [List.length_drop, hlen.out]; exact hlk, fun h => by omega⟩ (by omega) hb)
        clear hlk
        subst hcp
        go_wp2_with fail
        refine (HCF.out _ (HBx.out _) (blk_new _ _)).mono ?_
        rintro e w2 ⟨rfl, hb2⟩
        have hk2 : w2.heap[wr.heap.size]? = some (.cells (Wr.cells x).toArray 85 (0, 0)) := (hb2.block _ (by simp)).trans (blk_new _ _)
        have HB2 : Hid (Below wr.heap.size wr w2) := Lib.hid (((Below.refl _ _).alloc (Nat.le_refl _) _).trans (hb2.mono (by simp)))
        have HT2 := Lib.hid (HT.out.below HB2.out)
        have HBw2 := Lib.hid (HBr.out.trans (HB2.out.mono hsw))
        have HK2 := Lib.hid ((HB2.out.block _ (blk_lt HKr.out)).trans HKr.out)
        have y0 : w2.cell? ⟨wr.heap.size, 0, none⟩ = some (.string x.key) := blk_cell hk2 0
        have y1 : w2.cell? ⟨wr.heap.size, 1, none⟩ = some (.string x.val) := blk_cell hk2 1
        have y2 : w2.cell? ⟨wr.heap.size, 2, none⟩ = some (.bool x.drop) := blk_cell hk2 2
        clear hb2 hk2 c1 x0 x1 x2
        cases hh : hasKey (ws.drop (k + 1)) x.key
        · have Hh := Lib.hid hh
          clear hh
          have HTm := Lib.hid (HT2.out.below (bel_alloc (Below.refl w2.heap.size w2) (.cells (Wr.cells x).toArray 85)))
          have hs2 : w.heap.size ≤ w2.heap.size := HBw2.out.size
          go_wp2_with (at_builtin; refine wpList_push2 rfl _ _ 43 rfl 85 i0 _ 3 40 Tryz.underlying43 hi hz0 hz1 hz2 rfl (by decide) (fun _ => rfl) one_wr3 w.heap.size A' m c' l rfl HTm.out (by simp; omega) x ⟨w2.heap.size, 0, none⟩ 1 rfl (cells_new w2 (Wr.cells x) _) (by simp only [maxLen]; omega) (by omega) ?_)
          intro A3 c3 w3 h1 h2 h3 h4
          have HT3 := Lib.hid h1
          have hkk : Kept w2 w3 (fun b => ∃ a, A' = some a ∧ b = a.block) := (Kept.of_below (bel_alloc (Below.refl w2.heap.size w2) (.cells (Wr.cells x).toArray 85))).trans h2
          have HB3 : Hid (Below w.heap.size w w3) := Lib.hid (HBw2.out.trans (hkk.below HBw2.out.size (fun q ⟨a, ea, eb⟩ => by rw [eb]; exact (HT2.out.lt ea).1)))
          have HK3 := Lib.hid (hkk.blk HK2.out (blk_lt HK2.out) (fun ⟨a, ea, eb⟩ => by
            obtain ⟨c2, h5⟩ := HT2.out.ty ea
            have h6 := HK2.out
            rw [eb, h5] at h6; injection h6 with h6; injection h6 with _ h6 _; revert h6; decide))
          clear h1 h2 h3 h4 hkk y0 y1 y2
          go_wp2_with fail
          exact ⟨⟨k + 1, A3, m + 1, c3, l ++ [x], by omega, by go_num, rfl, HT3, Lib.hid (by rw [← HL.out, Hdr.out, cntW, if_neg (by rw [Hh.out]; exact Bool.false_ne_true)]; simp), Lib.hid (by omega), HB3, HK3⟩, by simp [RowKit.intOf]; omega⟩
        · have Hh := Lib.hid hh
          clear hh y0 y1 y2
          go_wp2_with fail
          exact ⟨⟨k + 1, A', m, c', l, by omega, by go_num, rfl, HT2, Lib.hid (by rw [← HL.out, Hdr.out, cntW, if_pos Hh.out]), Lib.hid (by omega), HBw2, HK2⟩, by simp [RowKit.intOf]; omega⟩
      · have HCF : Hid (∀ X : World, Below w.heap.size w X → X.heap[wr.heap.size]? = some (.cells (Wr.cells x).toArray 85 (0, 0)) → Calls Tryz.prog 75 #[.slice (some ⟨b, off + (k + 1) * 3, none⟩) (len - (k + 1)) (cap - (k + 1)), .func (.func 78) #[] #[.pointer (some ⟨wr.heap.size, 0, none⟩)]] X fun e w' => e = .returned (.bool (hasKey (ws.drop (k + 1)) x.key)) ∧ Below X.heap.size X w') := Lib.hid (fun X hX hb =>
          containsf_any (some ⟨b, off + (k + 1) * 3, none⟩) (len - (k + 1)) (cap - (k + 1)) (ws.drop (k + 1)) x wr.heap.size X (Hrow.out X _ hX (Or.inl rfl)) (by omega) hb)
        go_wp2_with fail
        refine (HCF.out _ (HBx.out _) (blk_new _ _)).mono ?_
        rintro e w2 ⟨rfl, hb2⟩
        have hk2 : w2.heap[wr.heap.size]? = some (.cells (Wr.cells x).toArray 85 (0, 0)) := (hb2.block _ (by simp)).trans (blk_new _ _)
        have HB2 : Hid (Below wr.heap.size wr w2) := Lib.hid (((Below.refl _ _).alloc (Nat.le_refl _) _).trans (hb2.mono (by simp)))
        have HT2 := Lib.hid (HT.out.below HB2.out)
        have HBw2 := Lib.hid (HBr.out.trans (HB2.out.mono hsw))
        have HK2 := Lib.hid ((HB2.out.block _ (blk_lt HKr.out)).trans HKr.out)
        have y0 : w2.cell? ⟨wr.heap.size, 0, none⟩ = some (.string x.key) := blk_cell hk2 0
        have y1 : w2.cell? ⟨wr.heap.size, 1, none⟩ = some (.string x.val) := blk_cell hk2 1
        have y2 : w2.cell? ⟨wr.heap.size, 2, none⟩ = some (.bool x.drop) := blk_cell hk2 2
        clear hb2 hk2 c1 x0 x1 x2
        cases hh : hasKey (ws.drop (k + 1)) x.key
        · have Hh := Lib.hid hh
          clear hh
          have HTm := Lib.hid (HT2.out.below (bel_alloc (Below.refl w2.heap.size w2) (.cells (Wr.cells x).toArray 85)))
          have hs2 : w.heap.size ≤ w2.heap.size := HBw2.out.size
          go_wp2_with (at_builtin; refine wpList_push2 rfl _ _ 43 rfl 85 i0 _ 3 40 Tryz.underlying43 hi hz0 hz1 hz2 rfl (by decide) (fun _ => rfl) one_wr3 w.heap.size A' m c' l rfl HTm.out (by simp; omega) x ⟨w2.heap.size, 0, none⟩ 1 rfl (cells_new w2 (Wr.cells x) _) (by simp only [maxLen]; omega) (by omega) ?_)
          intro A3 c3 w3 h1 h2 h3 h4
          have HT3 := Lib.hid h1
          have hkk : Kept w2 w3 (fun b => ∃ a, A' = some a ∧ b = a.block) := (Kept.of_below (bel_alloc (Below.refl w2.heap.size w2) (.cells (Wr.cells x).toArray 85))).trans h2
          have HB3 : Hid (Below w.heap.size w w3) := Lib.hid (HBw2.out.trans (hkk.below HBw2.out.size (fun q ⟨a, ea, eb⟩ => by rw [eb]; exact (HT2.out.lt ea).1)))
          have HK3 := Lib.hid (hkk.blk HK2.out (blk_lt HK2.out) (fun ⟨a, ea, eb⟩ => by
            obtain ⟨c2, h5⟩ := HT2.out.ty ea
            have h6 := HK2.out
            rw [eb, h5] at h6; injection h6 with h6; injection h6 with _ h6 _; revert h6; decide))
          clear h1 h2 h3 h4 hkk y0 y1 y2
          go_wp2_with fail
          exact ⟨⟨k + 1, A3, m + 1, c3, l ++ [x], by omega, by go_num, rfl, HT3, Lib.hid (by rw [← HL.out, Hdr.out, cntW, if_neg (by rw [Hh.out]; exact Bool.false_ne_true)]; simp), Lib.hid (by omega), HB3, HK3⟩, by simp [RowKit.intOf]; omega⟩
        · have Hh := Lib.hid hh
          clear hh y0 y1 y2
          go_wp2_with fail
          exact ⟨⟨k + 1, A', m, c', l, by omega, by go_num, rfl, HT2, Lib.hid (by rw [← HL.out, Hdr.out, cntW, if_pos Hh.out]), Lib.hid (by omega), HBw2, HK2⟩, by simp [RowKit.intOf]; omega⟩
    · obtain rfl : k = len := by omega
      go_wp2_with fail
      go_ret
      have h1 := HL.out
      rw [List.drop_of_length_le (by rw [hlen.out]; omega)] at h1
      have h2 : l = cntW ws := by simpa [cntW] using h1
      exact ⟨A', m, c', rfl, h2 ▸ HT.out, HBr.out⟩
end Go.Proofs.YtcjmppjppmiggaaGreat

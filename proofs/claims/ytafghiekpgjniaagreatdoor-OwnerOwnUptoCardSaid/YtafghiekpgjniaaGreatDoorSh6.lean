/- shard: Scan. -/
import Derived.Test.YtafghiekpgjniaaGreatDoorPS
import Derived.Sort.Walk0
namespace Go.Proofs.YtafghiekpgjniaaGreatDoor
open Go.RowKit
set_option linter.unusedVariables false
set_option linter.unusedSimpArgs false

set_option maxRecDepth 100000
theorem met_rising (g : Nat) (w : World) : (method 280 72 (.pointer (some ⟨g, 0, none⟩)) "towpath/shard.rising").run Tryz.prog w = .ok (185, .pointer (some ⟨g, 0, none⟩)) w := by kernel_rfl
theorem met_get (g : Nat) (w : World) : (method 280 72 (.pointer (some ⟨g, 0, none⟩)) "Get").run Tryz.prog w = .ok (109, .pointer (some ⟨g, 0, none⟩)) w := by kernel_rfl
theorem nil_rising (g : Nat) (w : World) : (nilAhead 280 72 (.pointer (some ⟨g, 0, none⟩)) "towpath/shard.rising").run Tryz.prog w = .ok (some false) w := by kernel_rfl
theorem nil_get (g : Nat) (w : World) : (nilAhead 280 72 (.pointer (some ⟨g, 0, none⟩)) "Get").run Tryz.prog w = .ok (some false) w := by kernel_rfl
theorem less_eq (a b : ByteArray) : Op.bytesLess a.toList b.toList = ltB a b := by
  rw [Go.Proofs.bytesLess_eq, ByteArray.toList_eq, ByteArray.toList_eq]; rfl
theorem ownsRow_below {w w' : World} {base : Nat} {e : TypeId} {size : Nat} {v : Value} {n : Nat} {xs : List Value} (h : w.ownsRow base e size v n xs) (hb : Below w.heap.size w w') : w'.ownsRow base e size v n xs := by
  obtain ⟨h1, h2⟩ := h
  refine ⟨h1, ?_⟩
  rcases h2 with h2 | ⟨g, cap, cur, hv, hg, hh, r⟩
  · exact Or.inl h2
  · exact Or.inr ⟨g, cap, cur, hv, hg, by rw [hb.block g (Array.getElem?_eq_some_iff.1 hh).1]; exact hh, r⟩

/-- An entry's cells. -/
def EnC (p : ByteArray × ByteArray) : List Value := [.string p.1, .string p.2]
theorem len_en (xs : List (ByteArray × ByteArray)) : ∀ x ∈ xs, (EnC x).length = 2 := fun _ _ => rfl
theorem one_en (x : ByteArray × ByteArray) : ∀ u ∈ EnC x, u.oneCell' = true := by
  intro u hu; simp [EnC] at hu; rcases hu with rfl | rfl <;> rfl
abbrev OwnE (w : World) (B : Nat) (v : Value) (es : List (ByteArray × ByteArray)) : Prop := w.ownsRow B 116 2 v es.length (es.flatMap EnC)
theorem info_en : (Tryz.prog.info? 116).map (fun i => (i.zero, i.size, i.bytes)) = some (some (.agg #[.string ⟨#[]⟩, .string ⟨#[]⟩]), 2, 32) := by kernel_rfl
def Scell (x : ByteArray) : List Value := [.string x]
theorem flat_s (l : List ByteArray) : l.flatMap Scell = l.map Value.string := by induction l with
  | nil => rfl
  | cons x r ih => simp [Scell, ih]
theorem row_s {w : World} {B n i : Nat} {A : Option Addr} {xs : List ByteArray} (h : RowAt Scell 1 w B A n xs) (hi : i < n) : ∃ b off x, A = some ⟨b, off, none⟩ ∧ b < B ∧ xs[i]? = some x ∧ w.cell? ⟨b, off + i, none⟩ = some (.string x) := by
  obtain ⟨b, off, x, e, hb, hx, hc⟩ := h.at_ hi
  exact ⟨b, off, x, e, hb, hx, by have := hc 0 _ rfl; simpa using this⟩
/-- The keys, as they rise. -/
theorem rise_row {w w' : World} {v : Value} {L : Hs} {B : Nat} (h : w'.ownsRow B 9 1 v L.length ((L.map (·.1)).map Value.string)) : ∃ A cap, v = .slice A L.length cap ∧ RowAt Scell 1 w' w'.heap.size A L.length (L.map (·.1)) := by
  rw [← flat_s, show L.length = (L.map (·.1)).length from by simp] at h
  obtain ⟨A, cap, h1, h2, -, -⟩ := rowAt_own (cells := Scell) (fun _ _ => rfl) h
  rw [List.length_map] at h1 h2
  exact ⟨A, cap, h1, h2⟩
theorem scanH_take {L : Hs} {key end_ : ByteArray} {m : Int} {n : Nat} {k : ByteArray} {l : List Ver} (h : L[n]? = some (k, l)) :
    scanH (L.take (n + 1)) key end_ m = scanH (L.take n) key end_ m ++ if (getV l m).2 && inS key end_ k then [(k, (getV l m).1)] else [] := by
  unfold scanH
  rw [List.take_add_one, h, List.filterMap_append]
  congr 1
  simp only [Option.toList_some, List.filterMap_cons, List.filterMap_nil]
  split <;> simp_all
def ScanEnd (w : World) (es : List (ByteArray × ByteArray)) (e : Ending) (w' : World) : Prop := ∃ v, e = .returned v ∧ OwnE w' w.heap.size v es ∧ Below w.heap.size w w'
set_option maxHeartbeats 8000000 in
theorem scanr_any (t : SB) (L : Hs) (key end_ : ByteArray) (mark : Int) (w : World) (h : ShAt w t L) (hn : L.length ≤ 3518437208883) :
    Calls Tryz.prog 122 #[.iface 72 (.pointer (some ⟨t.g, 0, none⟩)), .string key, .string end_, .int .i64 mark] w (ScanEnd w (scanH L key end_ mark)) := by
  have m1 := met_rising t.g
  have m2 := met_get t.g
  have m3 := nil_rising t.g
  have m4 := nil_get t.g
  have H := Lib.hid h
  have hlt := h.lt
  obtain ⟨i0, hi, hz0, hz1, hz2⟩ := info_parts info_en
  have hsl : (scanH L key end_ mark).length ≤ L.length := List.length_filterMap_le _ _
  clear h
  go_enter Tryz.func122, Tryz.ntmps122
  go_wp2_with fail
  refine (rising_any t L w H.out (by omega)).mono ?_
  rintro e w1 ⟨v1, rfl, hown1, hb1⟩
  obtain ⟨A1, cap1, rfl, hrow1⟩ := rise_row (w := w) hown1
  have Hrow1 := Lib.hid hrow1
  have Hb1 := Lib.hid hb1
  have hs1 := hb1.size
  clear hown1 hrow1 hb1
  go_wp2_with fail
  go_loopw [9, 17] (fun v i wr => ∃ n : Nat, n ≤ L.length ∧ i = .int .i64 n ∧ Hid (OwnE wr w1.heap.size v (scanH (L.take n) key end_ mark)) ∧ Hid (Below w1.heap.size w1 wr)) (fun _ i _ => L.length - (RowKit.intOf i).toNat)
  case atStart => exact ⟨0, Nat.zero_le _, rfl, Lib.hid (World.ownsRow_nil _ _ _ _), Lib.hid (Below.refl _ _)⟩
  case round =>
    obtain ⟨n, hnl, rfl, HO, Hb⟩ := hrel
    have hsr := Hb.out.size
    by_cases hlt2 : n < L.length
    · obtain ⟨b, off, k, rfl, hbl, hk, k0⟩ := row_s (Hrow1.out.below Hb.out) hlt2
      have hLn : L[n]? = some (L[n]) := List.getElem?_eq_getElem hlt2
      obtain ⟨⟨k', l⟩, hkl⟩ : ∃ q, q = L[n] := ⟨_, rfl⟩
      rw [← hkl] at hLn
      have hke : k' = k := by
        rw [List.getElem?_map, hLn] at hk
        simpa using hk
      subst hke
      have HW : Hid (Below w.heap.size w wr) := Lib.hid (Hb1.out.trans (Hb.out.mono hs1))
      have hget := get_any t L k' mark wr (H.out.below HW.out)
      rw [hget_mem H.out.ok (List.mem_of_getElem? hLn)] at hget
      have htk := scanH_take (key := key) (end_ := end_) (m := mark) hLn
      have hle : (scanH (L.take n) key end_ mark).length ≤ L.length := Nat.le_trans (List.length_filterMap_le _ _) (by rw [List.length_take]; omega)
      generalize hg1 : (getV l mark).1 = g1 at hget htk
      generalize hg2 : (getV l mark).2 = g2 at hget htk
      have Htk := Lib.hid htk
      have Hget := Lib.hid hget
      clear hk hLn hkl hg1 hg2 hget htk
      go_wp2_with fail
      refine Hget.out.mono ?_
      rintro e w3 ⟨rfl, hb3⟩
      have Hb3 := Lib.hid (Hb.out.trans (hb3.mono hsr))
      have HO3 : Hid (OwnE w3 w1.heap.size _ _) := Lib.hid (ownsRow_below HO.out hb3)
      have hs3 : w1.heap.size ≤ w3.heap.size := Nat.le_trans hsr hb3.size
      clear hb3 k0
      have hin : inS key end_ k' = (!ltB k' key && (decide (end_.size = 0) || ltB k' end_)) := rfl
      have e1 := less_eq k' key
      have e2 := less_eq k' end_
      cases g2
      · have Hno : Hid ((false && inS key end_ k') = false) := Lib.hid rfl
        clear hin e1 e2
        go_wp2_with fail
        exact ⟨⟨n + 1, by omega, by go_num, Lib.hid (by rw [Htk.out, Hno.out]; simpa using HO3.out), Hb3⟩, by simp [RowKit.intOf]; omega⟩
      · cases h1 : ltB k' key
        · rw [h1] at hin e1
          by_cases he : end_.size = 0
          · have Hyes : Hid ((true && inS key end_ k') = true) := Lib.hid (by rw [hin]; simp [he])
            have e3 : end_.toList = [] := (toList_nil _).2 he
            have e4 : end_.toList.isEmpty = true := by simp [e3]
            clear hin e2 he h1
            go_wp2_with (at_builtin; refine wpList_append_row (cells := EnC) rfl _ _ 26 rfl w1.heap.size 116 i0 (.agg #[.string ⟨#[]⟩, .string ⟨#[]⟩]) 2 32 Tryz.underlying26 hi hz0 hz1 hz2 rfl (by decide) _ _ _ rfl (HO3.out.alloc _) (some ⟨w3.heap.size, 0, none⟩) 1 1 (w3.heap.size + 1) [(k', g1)] rfl (rowAt_block [(k', g1)] (len_en _) (blk_new w3 (.cells #[.string k', .string g1] 116)) (by simp) (fun j u hu => by simpa [EnC] using hu)) (fun h => by cases h) (fun _ _ => rfl) (fun y u hu => one_en y u hu) (by unfold maxLen; omega) (by omega) (by simp; omega) ?_)
            intro v' w5 hown5 hg5
            have HO5 := Lib.hid hown5
            have HB5 : Hid (Below w1.heap.size w1 w5) := Lib.hid ((Hb3.out.alloc hs3 _).trans (below_grown_own (HO3.out.alloc _) hg5 (by simp; omega)))
            clear hown5 hg5
            go_wp2_with fail
            exact ⟨⟨n + 1, by omega, by go_num, Lib.hid (by
              have := HO5.out
              unfold OwnE
              rw [Htk.out, Hyes.out, if_pos rfl, List.length_append, List.flatMap_append]
              simpa using this), HB5⟩, by simp [RowKit.intOf]; omega⟩
          · have e3 : end_.toList.isEmpty = false := by
              rw [Bool.eq_false_iff]; intro h; exact he ((toList_nil _).1 (by simpa using h))
            have e4 : ¬ end_.toList = [] := fun h => he ((toList_nil _).1 h)
            cases h2 : ltB k' end_
            · rw [h2] at hin e2
              have Hno : Hid ((true && inS key end_ k') = false) := Lib.hid (by rw [hin]; simp [he])
              clear hin h1 h2 he
              go_wp2_with fail
              exact ⟨⟨n + 1, by omega, by go_num, Lib.hid (by rw [Htk.out, Hno.out]; simpa using HO3.out), Hb3⟩, by simp [RowKit.intOf]; omega⟩
            · rw [h2] at hin e2
              have Hyes : Hid ((true && inS key end_ k') = true) := Lib.hid (by rw [hin]; simp [he])
              clear hin h1 h2 he
              go_wp2_with (at_builtin; refine wpList_append_row (cells := EnC) rfl _ _ 26 rfl w1.heap.size 116 i0 (.agg #[.string ⟨#[]⟩, .string ⟨#[]⟩]) 2 32 Tryz.underlying26 hi hz0 hz1 hz2 rfl (by decide) _ _ _ rfl (HO3.out.alloc _) (some ⟨w3.heap.size, 0, none⟩) 1 1 (w3.heap.size + 1) [(k', g1)] rfl (rowAt_block [(k', g1)] (len_en _) (blk_new w3 (.cells #[.string k', .string g1] 116)) (by simp) (fun j u hu => by simpa [EnC] using hu)) (fun h => by cases h) (fun _ _ => rfl) (fun y u hu => one_en y u hu) (by unfold maxLen; omega) (by omega) (by simp; omega) ?_)
              intro v' w5 hown5 hg5
              have HO5 := Lib.hid hown5
              have HB5 : Hid (Below w1.heap.size w1 w5) := Lib.hid ((Hb3.out.alloc hs3 _).trans (below_grown_own (HO3.out.alloc _) hg5 (by simp; omega)))
              clear hown5 hg5
              go_wp2_with fail
              exact ⟨⟨n + 1, by omega, by go_num, Lib.hid (by
                have := HO5.out
                unfold OwnE
                rw [Htk.out, Hyes.out, if_pos rfl, List.length_append, List.flatMap_append]
                simpa using this), HB5⟩, by simp [RowKit.intOf]; omega⟩
        · rw [h1] at hin e1
          have Hno : Hid ((true && inS key end_ k') = false) := Lib.hid (by rw [hin]; rfl)
          clear hin e2 h1
          go_wp2_with fail
          exact ⟨⟨n + 1, by omega, by go_num, Lib.hid (by rw [Htk.out, Hno.out]; simpa using HO3.out), Hb3⟩, by simp [RowKit.intOf]; omega⟩
    · obtain rfl : n = L.length := by omega
      have hO := HO.out
      rw [List.take_of_length_le (Nat.le_refl _)] at hO
      have HO2 := Lib.hid hO
      clear hO
      go_wp2_with fail
      go_ret
      exact ⟨_, rfl, ownsRow_base_a HO2.out hs1, Hb1.out.trans (Hb.out.mono hs1)⟩
theorem scan_any (t : SB) (L : Hs) (key end_ : ByteArray) (mark : Int) (w : World) (h : ShAt w t L) (hn : L.length ≤ 3518437208883) :
    Calls Tryz.prog 33 #[.pointer (some ⟨t.g, 0, none⟩), .string key, .string end_, .int .i64 mark] w (ScanEnd w (scanH L key end_ mark)) := by
  have hg := gone_any t L w h
  have hs := scanr_any t L key end_ mark w h hn
  have Hg := Lib.hid hg
  have Hs := Lib.hid hs
  clear hg hs h
  go_enter Tryz.func33, Tryz.ntmps33
  go_wp2_with fail
  refine Hg.out.mono ?_
  rintro e w1 ⟨rfl, rfl⟩
  go_wp2_with fail
  refine Hs.out.mono ?_
  rintro e w2 ⟨v, rfl, hown, hb⟩
  have Hown := Lib.hid hown
  have Hb := Lib.hid hb
  clear hown hb
  go_wp2_with fail
  go_ret
  exact ⟨_, rfl, Hown.out, Hb.out⟩
end Go.Proofs.YtafghiekpgjniaaGreatDoor

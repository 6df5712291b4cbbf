/- Lemmas and contracts of functions that a statement of this seat stands on; each holds under the premises typed in its head. -/
import Derived.Test.YtdcnaieieggclaaFr2
import Derived.Test.YtdcnaieieggclaaTwI
namespace Go.Proofs.Ytdcnaieieggclaa
open Go.RowKit
set_option linter.unusedVariables false
set_option linter.unusedSimpArgs false

open Go.Maps
def pickE (m : KV) (key fin : ByteArray) (ks : List ByteArray) : List Ent := (ks.filter (inB key fin)).map fun k => ⟨k, (mget m k).getD ⟨#[]⟩⟩
theorem pick_all (m : KV) (key fin : ByteArray) : pickE m key fin (sortedK m) = (entsOf m).filter (fun e => inB key fin e.key) := by
  unfold pickE entsOf; rw [List.filter_map]; rfl
theorem pick_snoc {m : KV} {key fin : ByteArray} {ks : List ByteArray} {j : Nat} {k : ByteArray} (h : ks[j]? = some k) :
    pickE m key fin (ks.take (j + 1)) = pickE m key fin (ks.take j) ++ if inB key fin k = true then [⟨k, (mget m k).getD ⟨#[]⟩⟩] else [] := by
  unfold pickE; rw [List.take_add_one, h]; simp only [Option.toList_some, List.filter_append, List.map_append]
  congr 1
  by_cases hk : inB key fin k = true
  · rw [if_pos hk]; simp [hk]
  · rw [if_neg hk]; simp [hk]
theorem pick_len (m : KV) (key fin : ByteArray) (ks : List ByteArray) : (pickE m key fin ks).length ≤ ks.length := by
  unfold pickE; rw [List.length_map]; exact List.length_filter_le _ _
theorem in_split (key fin k : ByteArray) :
    (inB key fin k = true ∧ Op.bytesLess k.toList key.toList = false ∧ ((fin.toList = [] ∧ fin.toList.isEmpty = true) ∨ (¬ fin.toList = [] ∧ fin.toList.isEmpty = false ∧ Op.bytesLess k.toList fin.toList = true))) ∨
    (inB key fin k = false ∧ (Op.bytesLess k.toList key.toList = true ∨ (Op.bytesLess k.toList key.toList = false ∧ ¬ fin.toList = [] ∧ fin.toList.isEmpty = false ∧ Op.bytesLess k.toList fin.toList = false))) := by
  rw [less_eq, less_eq]
  have h := toList_nil fin
  unfold inB
  cases h1 : ltB k key
  · by_cases h2 : fin.size = 0
    · left; simp [h2, h.2 h2]
    · have h3 : ¬ fin.toList = [] := fun e => h2 (h.1 e)
      have h4 : fin.toList.isEmpty = false := by rw [← Bool.not_eq_true, List.isEmpty_iff]; exact h3
      cases h5 : ltB k fin
      · right; simp [h2, h3, h4]
      · left; simp [h3, h4]
  · right; simp
theorem EntsOwn.more {w : World} {base base' : Nat} {v : Value} {xs : List Ent} (h : EntsOwn w base v xs) (hb : base' ≤ base) : EntsOwn w base' v xs := ownsRow_base_a h hb
set_option maxHeartbeats 2000000 in
set_option maxRecDepth 8000 in
theorem fscan_good (A : Option Addr) (len cap : Nat) (rs : List RTx) (i : Int) (key fin : ByteArray) (w : World) (hw : TxsAt w w.heap.size A len rs) (hl : len ≤ 4398046511104) (hc : len ≤ cap) (hs : scanErr rs i = 0) :
    Calls Try.prog 25 #[.slice A len cap, .int .i64 i, .string key, .string fin] w fun e w' => ∃ v, e = .returned (.tuple #[v, .int .i64 0]) ∧ EntsOwn w' w.heap.size v ((foldE rs i.toNat).filter fun e => inB key fin e.key) ∧ Below w.heap.size w w' := by
  have hv := values_any A len cap rs i w hw hl hc
  rw [hs] at hv
  have hz3 := scanErr_zero hs
  have hlen := hw.1.len
  obtain ⟨M, hM⟩ : ∃ M, M = foldM rs i.toNat := ⟨_, rfl⟩
  have hMl : M.length ≤ 2097152 := by rw [hM]; exact len_foldM hz3.1 (by omega)
  have hMk : ∀ p ∈ M, p.1.size ≤ maxLen := fun p hp => by have := key_foldM hz3.1 (n := i.toNat) p (hM ▸ hp); unfold maxLen; omega
  have hall : (foldE rs i.toNat).filter (fun e => inB key fin e.key) = pickE M key fin (sortedK M) := by rw [pick_all, hM, ents_fold]
  rw [hall]
  rw [← hM] at hv
  have hKl : (sortedK M).length = M.length := len_sortedK M
  obtain ⟨K, hK⟩ : ∃ K, K = sortedK M := ⟨_, rfl⟩
  rw [← hK] at hKl ⊢
  have hKl2 : K.length ≤ 2097152 := by omega
  have HKl := Lib.hid hKl
  have HK := Lib.hid hK
  have HMk := Lib.hid hMk
  have Hz := Lib.hid hz3
  obtain ⟨i0, hi, hz0, hz1, hz2⟩ := info_parts info_ent
  clear hs hlen hM hMk hall hKl hK hz3
  go_enter Try.func25, Try.ntmps25
  go_wp2_with fail
  refine hv.mono ?_
  rintro e w1 ⟨v, rfl, hg, -, hb1⟩
  obtain ⟨b, rfl, hbb, hm⟩ := hg (by trivial)
  have Hb1 := Lib.hid hb1
  have hs1 := hb1.size
  have hbl := hm.lt
  clear hb1 hv hg
  go_wp2_with fail
  refine (keysS_any (some b) w1).mono ?_
  rintro e w2 ⟨rfl, rfl⟩
  go_wp2_with fail
  refine (sortedS_any b M w1 hm (by omega) HMk.out).mono ?_
  rintro e w2 ⟨v, rfl, hown, hb2⟩
  have hown2 : w2.ownsRow w1.heap.size 9 1 v K.length (K.flatMap Scell) := by rw [flat_s, HKl.out, HK.out]; exact hown
  obtain ⟨Ak, capk, rfl, hrow, -, hcapk⟩ := rowAt_own (len_s _) hown2
  have hm2 := hm.below hb2 hbl
  have Hb2 := Lib.hid (Hb1.out.trans (hb2.mono hs1))
  have hs2 := hb2.size
  clear hb2 hown hown2 hm
  go_wp2_with fail
  go_loopw [12, 28] (fun v n wr => ∃ j : Nat, j ≤ K.length ∧ n = .int .i64 j ∧ EntsOwn wr w2.heap.size v (pickE M key fin (K.take j)) ∧ Below w2.heap.size w2 wr) (fun _ n _ => K.length - (RowKit.intOf n).toNat)
  case atStart => exact ⟨0, by omega, rfl, EntsOwn.nil _ _, Below.refl _ _⟩
  case round =>
    obtain ⟨j, hj, rfl, how, hb⟩ := hrel
    have hr := hrow.below hb
    have hmr := hm2.below hb (by omega)
    have hsr := hb.size
    have Hb := Lib.hid hb
    have How := Lib.hid how
    clear hb how
    by_cases hlt : j < K.length
    · obtain ⟨bk, offk, k, rfl, hblk, hx, hxc⟩ := hr.at_ hlt
      have x0 := hxc 0 _ rfl
      simp only [Nat.mul_one, Nat.add_zero] at x0
      have Hx := Lib.hid hx
      clear hx hxc hr
      have hgrow : ∀ {w' : World} {u : Value}, EntsOwn wr w2.heap.size u (pickE M key fin (K.take j)) → True := fun _ => trivial
      rcases in_split key fin k with ⟨hin, h1, ⟨h2, h3⟩ | ⟨h2, h3, h4⟩⟩ | ⟨hin, h1 | ⟨h1, h2, h3, h4⟩⟩
      · have Hin := Lib.hid hin
        clear hin hgrow
        have hmd : SM (wr.drew) b M := hmr
        have How2 : wr.ownsRow w2.heap.size 57 2 _ (pickE M key fin (K.take j)).length _ := How.out
        have hple := pick_len M key fin (K.take j)
        have hpl2 : (K.take j).length ≤ j := List.length_take_le _ _
        go_wp2_with (first | (at_lookup; refine wpList_lookup_M (κ := Value.string) (ν := Value.string) (b := b) (m := M) rfl _ _ rfl hmr kstr Try.underlying80 zstr k rfl rfl ?_) | (at_builtin; refine wpList_append_own _ rfl _ _ 43 rfl w2.heap.size 57 i0 _ 2 32 Try.underlying43 hi hz0 hz1 hz2 rfl (by decide) _ _ _ rfl (How2.alloc _) ⟨wr.heap.size, 0, none⟩ 1 1 (Ent.cells ⟨k, (mget M k).getD ⟨#[]⟩⟩) rfl rfl (cells_new _ _ _) (one_ent _) (by simp only [maxLen]; omega) (by omega) (by simp; omega) ?_; intro v' w' hown' hg' hn'))
        refine ⟨⟨j + 1, by omega, by go_num, ?_, Hb.out.trans (below_grown_new How2 hg' (by omega))⟩, by simp [RowKit.intOf]; omega⟩
        rw [pick_snoc Hx.out, if_pos Hin.out]
        unfold EntsOwn
        rw [List.length_append, List.flatMap_append]
        simpa using hown'
      · have Hin := Lib.hid hin
        clear hin hgrow
        have hmd : SM (wr.drew) b M := hmr
        have How2 : wr.ownsRow w2.heap.size 57 2 _ (pickE M key fin (K.take j)).length _ := How.out
        have hple := pick_len M key fin (K.take j)
        have hpl2 : (K.take j).length ≤ j := List.length_take_le _ _
        go_wp2_with (first | (at_lookup; refine wpList_lookup_M (κ := Value.string) (ν := Value.string) (b := b) (m := M) rfl _ _ rfl hmr kstr Try.underlying80 zstr k rfl rfl ?_) | (at_builtin; refine wpList_append_own _ rfl _ _ 43 rfl w2.heap.size 57 i0 _ 2 32 Try.underlying43 hi hz0 hz1 hz2 rfl (by decide) _ _ _ rfl (How2.alloc _) ⟨wr.heap.size, 0, none⟩ 1 1 (Ent.cells ⟨k, (mget M k).getD ⟨#[]⟩⟩) rfl rfl (cells_new _ _ _) (one_ent _) (by simp only [maxLen]; omega) (by omega) (by simp; omega) ?_; intro v' w' hown' hg' hn'))
        refine ⟨⟨j + 1, by omega, by go_num, ?_, Hb.out.trans (below_grown_new How2 hg' (by omega))⟩, by simp [RowKit.intOf]; omega⟩
        rw [pick_snoc Hx.out, if_pos Hin.out]
        unfold EntsOwn
        rw [List.length_append, List.flatMap_append]
        simpa using hown'
      · have Hin := Lib.hid hin
        clear hin hgrow
        go_wp2_with fail
        exact ⟨⟨j + 1, by omega, by go_num, by rw [pick_snoc Hx.out, if_neg (by rw [Hin.out]; simp), List.append_nil]; exact How.out, Hb.out⟩, by simp [RowKit.intOf]; omega⟩
      · have Hin := Lib.hid hin
        clear hin hgrow
        go_wp2_with fail
        exact ⟨⟨j + 1, by omega, by go_num, by rw [pick_snoc Hx.out, if_neg (by rw [Hin.out]; simp), List.append_nil]; exact How.out, Hb.out⟩, by simp [RowKit.intOf]; omega⟩
    · obtain rfl : j = K.length := by omega
      have hfin := How.out
      rw [List.take_of_length_le (Nat.le_refl _)] at hfin
      have Hfin := Lib.hid hfin
      clear hfin hr
      go_wp2_with fail
      go_ret2
      exact ⟨_, rfl, EntsOwn.more Hfin.out (by omega), Hb2.out.trans (Hb.out.mono (by omega))⟩
theorem fscan_err (A : Option Addr) (len cap : Nat) (rs : List RTx) (i : Int) (key fin : ByteArray) (w : World) (hw : TxsAt w w.heap.size A len rs) (hl : len ≤ 4398046511104) (hc : len ≤ cap) (hs : scanErr rs i ≠ 0) :
    Calls Try.prog 25 #[.slice A len cap, .int .i64 i, .string key, .string fin] w fun e w' => e = .returned (.tuple #[.slice none 0 0, .int .i64 (scanErr rs i)]) ∧ Below w.heap.size w w' := by
  have hv := values_any A len cap rs i w hw hl hc
  have hne : (scanErr rs i == 0) = false := by simpa using hs
  have hne2 : (scanErr rs i != 0) = true := by simpa using hs
  have Hv := Lib.hid hv
  clear hs hv
  go_enter Try.func25, Try.ntmps25
  go_wp2_with fail
  refine Hv.out.mono ?_
  rintro e w1 ⟨v, rfl, -, -, hb1⟩
  have Hb1 := Lib.hid hb1
  clear hb1
  go_wp2_with fail
  go_ret2
  exact ⟨rfl, Hb1.out⟩
def ScanPost (w : World) (rs : List RTx) (i : Int) (key fin : ByteArray) (e : Ending) (w' : World) : Prop := ∃ v, e = .returned (.tuple #[v, .int .i64 (scanErr rs i)]) ∧ EntsOwn w' w.heap.size v (scanL rs i key fin) ∧ Below w.heap.size w w'
theorem fscan_any (A : Option Addr) (len cap : Nat) (rs : List RTx) (i : Int) (key fin : ByteArray) (w : World) (hw : TxsAt w w.heap.size A len rs) (hl : len ≤ 4398046511104) (hc : len ≤ cap) :
    Calls Try.prog 25 #[.slice A len cap, .int .i64 i, .string key, .string fin] w (ScanPost w rs i key fin) := by
  by_cases hs : scanErr rs i = 0
  · refine (fscan_good A len cap rs i key fin w hw hl hc hs).mono ?_
    rintro e w' ⟨v, rfl, h1, h2⟩
    exact ⟨v, by rw [hs], by unfold scanL; rw [if_pos hs]; exact h1, h2⟩
  · refine (fscan_err A len cap rs i key fin w hw hl hc hs).mono ?_
    rintro e w' ⟨rfl, h2⟩
    exact ⟨_, rfl, by unfold scanL; rw [if_neg hs]; exact EntsOwn.nil _ _, h2⟩
theorem fstore_any (A : Option Addr) (len cap : Nat) (rs : List RTx) (i : Int) (w : World) (hw : TxsAt w w.heap.size A len rs) (hl : len ≤ 4398046511104) (hc : len ≤ cap) :
    Calls Try.prog 21 #[.slice A len cap, .int .i64 i] w (ScanPost w rs i ⟨#[]⟩ ⟨#[]⟩) := by
  have Hc := Lib.hid (fscan_any A len cap rs i ⟨#[]⟩ ⟨#[]⟩ w hw hl hc)
  go_enter Try.func21, Try.ntmps21
  go_wp2_with fail
  refine Hc.out.mono ?_
  rintro e w1 ⟨v, rfl, h1, hb1⟩
  have H1 := Lib.hid h1
  have Hb1 := Lib.hid hb1
  clear h1 hb1
  go_wp2_with fail
  go_ret2
  exact ⟨v, rfl, H1.out, Hb1.out⟩
end Go.Proofs.Ytdcnaieieggclaa

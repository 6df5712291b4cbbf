/- shard: Collect. -/
import Derived.Test.YtafghiekpgjniaaGreatDoorPT
import Derived.Test.YtafghiekpgjniaaGreatDoorPA
namespace Go.Proofs.YtafghiekpgjniaaGreatDoor
open Go.RowKit
set_option linter.unusedVariables false
set_option linter.unusedSimpArgs false

set_option maxRecDepth 100000
theorem mput_set {m : Hs} {n : Nat} {k : ByteArray} {l v : List Ver} (hn : (m.map (·.1)).Nodup) (h : m[n]? = some (k, l)) : mput m k v = m.set n (k, v) := by
  induction m generalizing n with
  | nil => simp at h
  | cons q r ih =>
    obtain ⟨a, u⟩ := q
    simp only [List.map_cons, List.nodup_cons] at hn
    cases n with
    | zero => simp at h; obtain ⟨rfl, rfl⟩ := h; simp [mput]
    | succ n =>
      have h' : r[n]? = some (k, l) := by simpa using h
      have hk : a ≠ k := by rintro rfl; exact hn.1 (List.mem_map.2 ⟨_, List.mem_of_getElem? h', rfl⟩)
      simp only [mput, if_neg hk, List.set_cons_succ, ih hn.2 h']
theorem cont_id {L : Hs} (h : HsOk L) : cont L = L := hs_ext (cont_ok h.mok) h fun k => by rw [hget_cont]; rfl
theorem hput_set {L : Hs} (h : HsOk L) {n : Nat} {k : ByteArray} {l v : List Ver} (hL : L[n]? = some (k, l)) (hk : keyB k = true) (hv : chkB v = true) (hne : v ≠ []) : hput L k v = L.set n (k, v) := by
  have hm := mput_set (v := v) h.nodup hL
  unfold hput
  rw [hm]
  refine cont_id ⟨?_, fun p hp => ?_, fun p hp => ?_, fun p hp => ?_⟩
  · have : (L.set n (k, v)).map (·.1) = L.map (·.1) := by
      rw [List.map_set]
      refine List.ext_getElem? fun i => ?_
      rw [List.getElem?_set]
      split
      · subst_vars
        have := (List.getElem?_eq_some_iff.1 hL).1
        rw [if_pos (by simpa using this), List.getElem?_map, hL]; rfl
      · rfl
    rw [this]; exact h.rises
  all_goals
    rcases List.mem_or_eq_of_mem_set hp with hp | rfl
  · exact h.some_ p hp
  · exact hne
  · exact h.chk p hp
  · exact hv
  · exact h.key p hp
  · exact hk
theorem set_app {α : Type} {n : Nat} (A B : List α) (x y : α) (h : A.length = n) : (A ++ y :: B).set n x = A ++ x :: B := by subst h; simp
/-- With the first n collected. -/
def collN (L : Hs) (least : Int) (n : Nat) : Hs := collH (L.take n) least ++ L.drop n
theorem collN_get {L : Hs} {least : Int} {n : Nat} {k : ByteArray} {l : List Ver} (h : L[n]? = some (k, l)) : (collN L least n)[n]? = some (k, l) ∧ collN L least (n + 1) = (collN L least n).set n (k, collV l least) := by
  have hl := (List.getElem?_eq_some_iff.1 h).1
  have hcl : (collH (L.take n) least).length = n := by simp [collH]; omega
  have hd : L.drop n = (k, l) :: L.drop (n + 1) := drop_get h
  refine ⟨?_, ?_⟩
  · unfold collN
    rw [List.getElem?_append_right (by omega), hcl, Nat.sub_self, hd]; rfl
  · unfold collN
    rw [hd]
    refine Eq.trans ?_ (set_app (collH (L.take n) least) (L.drop (n + 1)) (k, collV l least) (k, l) hcl).symm
    rw [show collH (L.take (n + 1)) least = collH (L.take n) least ++ [(k, collV l least)] from by unfold collH; rw [List.take_add_one, h]; simp]
    simp
def goneN (L : Hs) (least : Int) (n : Nat) : Nat := goneH (L.take n) least
theorem goneN_succ {L : Hs} {least : Int} {n : Nat} {k : ByteArray} {l : List Ver} (h : L[n]? = some (k, l)) : goneN L least (n + 1) = goneN L least n + (upto l least - 1) := by
  unfold goneN goneH; rw [List.take_add_one, h, List.map_append, List.sum_append]; simp
theorem goneN_le (L : Hs) (least : Int) (n : Nat) : goneN L least n ≤ sizeH L := Nat.le_trans (sizeH_collH (L.take n) least).2 (sizeH_le L n)
def CollSEnd (w : World) (t : SB) (L : Hs) (least : Int) (e : Ending) (w' : World) : Prop :=
  e = .returned (.int .i64 (goneH L least : Nat)) ∧ ShAt w' t (collH L least) ∧ Kept w w' (· = t.p)
set_option maxHeartbeats 8000000 in
theorem collects_any (t : SB) (L : Hs) (least : Int) (w : World) (h : ShAt w t L) (hn : sizeH L ≤ 2147483648) :
    Calls Tryz.prog 112 #[.pointer (some ⟨t.g, 0, none⟩), .int .i64 least] w (CollSEnd w t L least) := by
  have H := Lib.hid h
  have hlt := h.lt
  have hll := len_sizeH h.ok
  have hg := gone_any t L w h
  have Hg := Lib.hid hg
  have hpost : ∀ (L' : Hs) (g : Nat) (X : World), L' = collH L least → g = goneH L least → ShAt X t L' → Kept w X (· = t.p) → CollSEnd w t L least (.returned (.int .i64 (g : Nat))) X := fun L' g X e1 e2 e3 e4 => by subst e1 e2; exact ⟨rfl, e3, e4⟩
  have Hpost := Lib.hid hpost
  clear h hg hpost
  go_enter Tryz.func112, Tryz.ntmps112
  go_wp2_with fail
  refine Hg.out.mono ?_
  rintro e w0 ⟨rfl, hw0⟩
  obtain rfl := hw0.symm
  go_wp2_with fail
  refine (rising_any t L _ H.out (by omega)).mono ?_
  rintro e w1 ⟨v1, rfl, hown1, hb1⟩
  obtain ⟨A1, cap1, rfl, hrow1⟩ := rise_row (w := w1) hown1
  have Hrow1 := Lib.hid hrow1
  have Hb1 := Lib.hid hb1
  have hs1 := hb1.size
  have hnoc : NoC w1 t.p := (H.out.below hb1).noC
  have Hnoc := Lib.hid hnoc
  have HSh1 := Lib.hid (H.out.below hb1)
  clear hown1 hrow1 hb1 hnoc
  go_wp2_with fail
  go_loopw [5, 18] (fun s i wr => ∃ n : Nat, n ≤ L.length ∧ i = .int .i64 n ∧ s = .int .i64 (goneN L least n : Nat) ∧ Hid (ShAt wr t (collN L least n)) ∧ Hid (Kept w1 wr (· = t.p))) (fun _ i _ => L.length - (RowKit.intOf i).toNat)
  case atStart => exact ⟨0, Nat.zero_le _, rfl, rfl, Lib.hid (by simpa [collN, collH] using HSh1.out), Lib.hid (Kept.refl _ _)⟩
  case round =>
    obtain ⟨n, hnl, rfl, rfl, HS, HK⟩ := hrel
    have hsr := HK.out.size
    by_cases hlt2 : n < L.length
    · obtain ⟨b, off, k, rfl, hbl, hk, k0⟩ := row_s (Hrow1.out.keptC (fun x _ => by simp [Scell]) (Nat.le_refl _) HK.out (fun b hb => by subst hb; exact Hnoc.out)) hlt2
      have hLn : L[n]? = some (L[n]) := List.getElem?_eq_getElem hlt2
      obtain ⟨⟨k', l⟩, hkl⟩ : ∃ q, q = L[n] := ⟨_, rfl⟩
      rw [← hkl] at hLn
      have hke : k' = k := by
        rw [List.getElem?_map, hLn] at hk
        simpa using hk
      subst hke
      obtain ⟨hcg, hcs⟩ := collN_get (least := least) hLn
      have hgs := goneN_succ (least := least) hLn
      have hgl := goneN_le L least (n + 1)
      have hhg : hget (collN L least n) k' = l := hget_mem HS.out.ok (List.mem_of_getElem? hcg)
      have hkB : keyB k' = true := H.out.ok.key _ (List.mem_of_getElem? hLn)
      have hchk : chkB l = true := H.out.ok.chk _ (List.mem_of_getElem? hLn)
      have hlne : l ≠ [] := H.out.ok.some_ _ (List.mem_of_getElem? hLn)
      have hcv1 : chkB (collV l least) = true := chkB_sub hchk (collV_sub _ _)
      have hcv2 : collV l least ≠ [] := collV_ne hlne least
      have hset : hput (collN L least n) k' (collV l least) = collN L least (n + 1) := by rw [hcs]; exact hput_set HS.out.ok hcg hkB hcv1 hcv2
      obtain ⟨sv, hv1, hv2, hv3, hv4, hv5⟩ := HS.out.look k'
      obtain ⟨hl1, hl2⟩ := HS.out.look_len hv1 hv2
      have hlk := hv5 wr rfl
      have c0 := HS.out.cell
      have hcl := collect_any sv.A sv.len sv.cap sv.vs least wr hv2 hv4 (by omega) hl2
      rw [hv1, hhg] at hcl
      have Hgs := Lib.hid hgs
      have hgb : goneN L least n + (upto l least - 1) ≤ 2147483648 := by omega
      have Hcl := Lib.hid hcl
      have HkB := Lib.hid hkB
      have Hcv1 := Lib.hid hcv1
      have Hcv2 := Lib.hid hcv2
      have Hset := Lib.hid hset
      clear hk hLn hkl hcg hcs hgs hgl hhg hkB hchk hlne hcv1 hcv2 hset hv1 hv2 hv3 hv4 hv5 hl1 hl2 hcl
      go_wp2_with fail
      refine Hcl.out.mono ?_
      rintro e w3 ⟨A3, n3, rfl, hrow3, hnil3, hty3, hb3⟩
      generalize upto l least - 1 = dl at hgb Hgs ⊢
      have Hrow3 := Lib.hid hrow3
      have Hnil3 := Lib.hid hnil3
      have Hty3 := Lib.hid hty3
      have HS3 : Hid (ShAt w3 t (collN L least n)) := Lib.hid (HS.out.below hb3)
      have HK3 : Hid (Kept w1 w3 (· = t.p)) := Lib.hid (HK.out.trans (Kept.of_below hb3))
      have c03 := HS3.out.cell
      clear hrow3 hnil3 hty3 hb3 c0 k0 hlk
      go_wp2_with (at_mapUpdate; refine wpList_update_Sh rfl _ _ _ rfl HS3.out k' ⟨A3, n3, n3, collV l least⟩ HkB.out Hrow3.out (Nat.le_refl _) Hnil3.out Hty3.out Hcv1.out Hcv2.out rfl rfl rfl ?_)
      intro w4 hS4 hK4
      have HS4 := Lib.hid hS4
      have HK4 := Lib.hid hK4
      clear hS4 hK4 c03
      go_wp2_with fail
      exact ⟨⟨n + 1, by omega, by go_num, by rw [Hgs.out]; go_num, Lib.hid (by rw [← Hset.out]; exact HS4.out), Lib.hid (HK3.out.trans HK4.out)⟩, by simp [RowKit.intOf]; omega⟩
    · obtain rfl : n = L.length := by omega
      go_wp2_with fail
      go_ret
      refine Hpost.out (collN L least L.length) (goneN L least L.length) wr ?_ ?_ HS.out ((Kept.of_below Hb1.out).trans HK.out)
      · unfold collN
        rw [List.take_of_length_le (Nat.le_refl _), List.drop_eq_nil_of_le (Nat.le_refl _), List.append_nil]
      · unfold goneN; rw [List.take_of_length_le (Nat.le_refl _)]
end Go.Proofs.YtafghiekpgjniaaGreatDoor

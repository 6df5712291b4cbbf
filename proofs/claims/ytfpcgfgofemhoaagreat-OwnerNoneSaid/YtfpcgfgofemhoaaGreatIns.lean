/- slices.Clone and slices.Insert of versions. -/
import Derived.Test.YtfpcgfgofemhoaaGreatSh2
import Derived.Test.YtfpcgfgofemhoaaGreatIns0
namespace Go.Proofs.YtfpcgfgofemhoaaGreat
open Go.RowKit
set_option linter.unusedVariables false
set_option linter.unusedSimpArgs false

set_option maxRecDepth 100000
theorem one_ver (x : Ver) : ∀ u ∈ Ver.cells x, u.oneCell' = true := by
  intro u hu; simp [Ver.cells] at hu; rcases hu with rfl | rfl | rfl <;> rfl
theorem eqsl_some (ad : Addr) (n c : Nat) (w : World) : (binOp .eql 68 (.slice (some ad) n c) (.slice none 0 0)).run Tryz.prog w = .ok (.bool false) w := by kernel_rfl
theorem eqsl_none (w : World) : (binOp .eql 68 (.slice none 0 0) (.slice none 0 0)).run Tryz.prog w = .ok (.bool true) w := by kernel_rfl
/-- A row of versions of the walk's own, above B. -/
abbrev OwnV (w : World) (B : Nat) (v : Value) (vs : List Ver) : Prop := w.ownsRow B 104 3 v vs.length (vs.flatMap Ver.cells)
/-- The row lies in a block of versions. -/
def TyV (w : World) (A : Option Addr) (n : Nat) : Prop := ∀ a, A = some a → 0 < n → ∃ cs fr, w.heap[a.block]? = some (.cells cs 104 fr)
theorem TyV.none_ (w : World) (n : Nat) : TyV w none n := fun a h => by cases h
theorem TyV.below {w w' : World} {A : Option Addr} {n : Nat} (h : TyV w A n) (hb : Below w.heap.size w w') : TyV w' A n := fun a e hn => by
  obtain ⟨cs, fr, h1⟩ := h a e hn
  exact ⟨cs, fr, (hb.block _ (blk_lt h1)).trans h1⟩
theorem OwnV.ty {w : World} {B : Nat} {A : Option Addr} {cap n : Nat} {vs : List Ver} (h : OwnV w B (.slice A n cap) vs) (m : Nat) : TyV w A m := by
  obtain ⟨-, ⟨h1, -⟩ | ⟨g, cap', cur, h1, -, h2, -⟩⟩ := h
  · injection h1 with h1; subst h1; exact TyV.none_ _ _
  · injection h1 with h1; subst h1
    intro a e _
    injection e with e
    subst e; exact ⟨cur, _, h2⟩
theorem TyV.cut {w : World} {A : Option Addr} {n k : Nat} (h : TyV w A n) {m : Nat} (hn : 0 < n) : TyV w (A.map (·.add k)) m := fun a' e _ => by
  cases A with
  | none => cases e
  | some a =>
    simp only [Option.map_some, Option.some.injEq] at e
    have : a'.block = a.block := by rw [← e]; unfold Addr.add; split <;> rfl
    rw [this]; exact h a rfl hn
set_option maxHeartbeats 1000000 in
theorem clone_any (A : Option Addr) (len cap : Nat) (vs : List Ver) (w : World) (hw : VsAt w w.heap.size A len vs) (hn : A = none → cap = 0) (hl : len ≤ 4398046511104) :
    Calls Tryz.prog 56 #[.slice A len cap] w fun e w' => ∃ v, e = .returned v ∧ OwnV w' w.heap.size v vs ∧ Below w.heap.size w w' := by
  have hlen := hw.len
  cases A with
  | none =>
    have h0 : len = 0 := by
      rcases Nat.eq_zero_or_pos len with h | h
      · exact h
      · obtain ⟨b, off, h, -⟩ := hw.2 h; cases h
    obtain rfl := h0
    obtain rfl := hn rfl
    obtain rfl : vs = [] := List.eq_nil_of_length_eq_zero hlen
    have he := eqsl_none
    go_enter Tryz.func56, Tryz.ntmps56
    go_wp2_with fail
    go_ret
    exact ⟨_, rfl, World.ownsRow_nil _ _ _ _, Below.refl _ _⟩
  | some ad =>
    obtain ⟨i0, hi, hz0, hz1, hz2⟩ := info_parts info_ver
    have he := eqsl_some ad len cap
    have hlen' := Lib.hid hlen
    clear hlen
    have hmade : ∀ X : World, (X.alloc (.cells #[] 104)).ownsRow X.heap.size 104 3 (.slice (some ⟨X.heap.size, 0, none⟩) 0 0) 0 [] := fun X => ⟨rfl, Or.inr ⟨_, 0, #[], rfl, Nat.le_refl _, blk_new _ _, Nat.le_refl _, Nat.zero_le _, rfl, rfl⟩⟩
    have Hmade := Lib.hid hmade
    clear hmade hn
    have hrow : ∀ X : World, Below w.heap.size w X → VsAt X X.heap.size (some ad) len vs := fun X hX => (hw.below hX).more hX.size
    have Hrow := Lib.hid hrow
    clear hrow hw
    go_enter Tryz.func56, Tryz.ntmps56
    go_wp2_with (at_builtin; refine wpList_append_row (cells := Ver.cells) rfl _ _ 68 rfl w.heap.size 104 i0 (.agg #[.int .i64 0, .string ⟨#[]⟩, .bool false]) 3 32 Tryz.underlying68 hi hz0 hz1 hz2 rfl (by decide) _ 0 [] rfl (Hmade.out w) (some ad) len cap _ vs rfl (Hrow.out _ (bel_alloc (Below.refl _ _) _)) (fun h => by cases h) (fun _ _ => rfl) (fun y u hu => one_ver y u hu) (by unfold maxLen; omega) (by omega) (by simp) ?_)
    intro v' w1 hown hg
    have Hown := Lib.hid hown
    have Hg := Lib.hid (below_grown_own (Hmade.out w) hg (by simp))
    clear hown hg
    go_wp2_with fail
    go_ret
    refine ⟨_, rfl, ?_, ?_⟩
    · have := Hown.out; rw [← hlen'.out] at this; simpa using this
    · exact ((Below.refl _ _).alloc (Nat.le_refl _) _).trans Hg.out
def zVer : Value := .agg #[.int .i64 0, .string ⟨#[]⟩, .bool false]
theorem ovl_run (g b o o' la ca lb cb : Nat) (cs1 cs2 : Array Value) (t1 t2 : TypeId) (W : World) (h1 : W.heap[g]? = some (.cells cs1 t1 (0, 0))) (h2 : W.heap[b]? = some (.cells cs2 t2 (0, 0))) (hne : g ≠ b) (hk : cs2.size ≠ 0) :
    (callFunc 108 #[.slice (some ⟨g, o, none⟩) la ca, .slice (some ⟨b, o', none⟩) lb cb]).run Tryz.prog W = .ok (.value (.bool false)) W := by
  rw [run_callFunc_extern Tryz.func108 (by kernel_rfl) (by kernel_rfl) (by kernel_rfl) (e := Extern.SlicesOverlaps.overlaps #[68, 68] #[4]) (by kernel_rfl),
    Lib.run_overlaps_apart W 68 4 104 Tryz.underlying68 3 (fun w => by kernel_rfl) ⟨g, o, none⟩ ⟨b, o', none⟩ la ca lb cb hne t1 t2 cs1.size cs2.size (by simp [World.shape?, h1]) (by simp [World.shape?, h2]) hk (blk_frozen h1 _) (blk_frozen h1 _)]
  rfl
theorem bel_drewB {B : Nat} {w X : World} (h : Below B w X) : Below B w X.drew := h.drew
theorem row_ {w w' : World} {r r' : Option Nat} (e : r = r') (h : w.grownBy w' r) : w.grownBy w' r' := e ▸ h
set_option maxHeartbeats 2000000 in
theorem ins_end (B : Nat) (v : Value) (vs : List Ver) (x : Ver) (g : Nat) (w : World) (hown : OwnV w B v vs) (hl : vs.length ≤ 65536) (hg : w.heap[g]? = some (.cells x.cells.toArray 104 (0, 0))) (hB : B ≤ w.heap.size) :
    Calls Tryz.prog 102 #[v, .int .i64 vs.length, .slice (some ⟨g, 0, none⟩) 1 1] w fun e w' => ∃ v', e = .returned v' ∧ OwnV w' B v' (vs ++ [x]) ∧ Below B w w' := by
  obtain ⟨i0, hi, hz0, hz1, hz2⟩ := info_parts info_ver
  obtain ⟨A, cap, rfl, -, hnil, hcap⟩ := rowAt_own (len_ver vs) hown
  have Hown := Lib.hid hown
  have hrow : VsAt w w.heap.size (some ⟨g, 0, none⟩) 1 [x] := rowAt_block [x] (len_ver _) hg (blk_lt hg) (fun j u hu => by simpa using hu)
  have Hrow := Lib.hid hrow
  have hcm : cap ≤ 9223372036854775807 := by
    obtain ⟨-, ⟨h, -⟩ | ⟨g', cap', cur, h, -, -, -, hm, -⟩⟩ := hown
    · injection h with h1 h2 h3; omega
    · injection h with h1 h2 h3; unfold maxLen at hm; omega
  generalize hn : vs.length = n at hl hcap hown hnil ⊢
  have Hn := Lib.hid hn
  clear hrow hown hg hn hnil
  go_enter Tryz.func102, Tryz.ntmps102
  go_wp2_with (at_builtin; refine wpList_append_row (cells := Ver.cells) rfl _ _ 68 rfl B 104 i0 (.agg #[.int .i64 0, .string ⟨#[]⟩, .bool false]) 3 32 Tryz.underlying68 hi hz0 hz1 hz2 rfl (by decide) _ n (vs.flatMap Ver.cells) rfl (Hn.out ▸ Hown.out) (some ⟨g, 0, none⟩) 1 1 _ [x] rfl Hrow.out (fun h => by cases h) (fun _ _ => rfl) (fun y u hu => one_ver y u hu) (by unfold maxLen; omega) (by omega) hB ?_)
  all_goals
    intro v' w1 hown2 hgr
    have Hown2 := Lib.hid hown2
    have h' := Hown.out
    unfold OwnV at h'
    rw [Hn.out] at h'
    have Hg := Lib.hid (below_grown_own h' (row_ (by cases A <;> rfl) hgr) hB)
    clear h'
    clear hown2 hgr
    go_wp2_with fail
    go_ret
    refine ⟨_, rfl, ?_, Hg.out⟩
    have := Hown2.out
    rw [show vs.flatMap Ver.cells ++ x.cells = (vs ++ [x]).flatMap Ver.cells from by simp] at this
    unfold OwnV
    rw [List.length_append, Hn.out]; exact this
/-- A row of versions' cells, cut. -/
theorem flat_take (vs : List Ver) (k : Nat) : (vs.take k).flatMap Ver.cells = (vs.flatMap Ver.cells).take (k * 3) := by
  induction vs generalizing k with
  | nil => simp
  | cons x r ih =>
    cases k with
    | zero => simp
    | succ k =>
      rw [List.take_succ_cons, List.flatMap_cons, List.flatMap_cons, ih, show (k + 1) * 3 = (Ver.cells x).length + k * 3 from by simp [Ver.cells]; omega, List.take_length_add_append]
theorem flat_drop (vs : List Ver) (k : Nat) : (vs.drop k).flatMap Ver.cells = (vs.flatMap Ver.cells).drop (k * 3) := by
  induction vs generalizing k with
  | nil => simp
  | cons x r ih =>
    cases k with
    | zero => simp
    | succ k =>
      rw [List.drop_succ_cons, List.flatMap_cons, ih, show (k + 1) * 3 = (Ver.cells x).length + k * 3 from by simp [Ver.cells]; omega, List.drop_length_add_append]
theorem flat_one (vs : List Ver) : ∀ u ∈ vs.flatMap Ver.cells, u.oneCell' = true := fun u hu => by
  obtain ⟨x, -, h⟩ := List.mem_flatMap.1 hu; exact one_ver x u h
theorem ownV_of {w : World} {B g cap : Nat} {L : List Value} {vs : List Ver} (h : w.heap[g]? = some (.cells L.toArray 104 (0, 0))) (hB : B ≤ g) (hl : L.length = cap * 3) (hc : vs.length ≤ cap) (hm : cap ≤ maxLen) (ht : L.take (vs.length * 3) = vs.flatMap Ver.cells) : OwnV w B (.slice (some ⟨g, 0, none⟩) vs.length cap) vs :=
  ⟨flat_len vs (len_ver vs), Or.inr ⟨g, cap, L.toArray, rfl, hB, h, hc, hm, by simpa using hl, by simpa using ht⟩⟩
set_option maxHeartbeats 4000000 in
theorem ins_grow (B : Nat) (b cap : Nat) (vs : List Ver) (x : Ver) (k : Nat) (g : Nat) (w : World) (hown : OwnV w B (.slice (some ⟨b, 0, none⟩) vs.length cap) vs) (hl : vs.length ≤ 65536) (hk : k < vs.length) (hc : cap < vs.length + 1) (hg : w.heap[g]? = some (.cells x.cells.toArray 104 (0, 0))) (hB : B ≤ w.heap.size) :
    Calls Tryz.prog 102 #[.slice (some ⟨b, 0, none⟩) vs.length cap, .int .i64 k, .slice (some ⟨g, 0, none⟩) 1 1] w fun e w' => ∃ v', e = .returned v' ∧ OwnV w' B v' (vs.take k ++ x :: vs.drop k) ∧ Below w.heap.size w w' := by
  obtain ⟨i0, hi, hz0, hz1, hz2⟩ := info_parts info_ver
  have hsz : (Tryz.prog.info? 104).map (·.size) = some 3 := by rw [hi]; simp [hz1]
  have hbl : b < w.heap.size ∧ B ≤ b := by have := hown.lt b rfl; omega
  have hcell : ∀ j u, (vs.flatMap Ver.cells)[j]? = some u → w.cell? ⟨b, j, none⟩ = some u := fun j u hu => by
    have := hown.cells (g := b) rfl j u hu
    rwa [Addr.add_lit, Nat.zero_add] at this
  have hgc : ∀ j u, (Ver.cells x)[j]? = some u → w.cell? ⟨g, j, none⟩ = some u := fun j u hu => by rw [blk_cell hg]; simpa using hu
  have hcn : vs.length ≤ cap := by
    obtain ⟨-, ⟨h, -⟩ | ⟨g', cap', cur, h, -, -, hn, -⟩⟩ := hown
    · cases h
    · injection h with h1 h2 h3; omega
  have Hcell := Lib.hid hcell
  have Hgc := Lib.hid hgc
  have hgl := blk_lt hg
  have hfl := flat_len vs (len_ver vs)
  have Hfl := Lib.hid hfl
  generalize hn : vs.length = n at hl hk hc hcn ⊢
  have Hn := Lib.hid hn
  have hkk : (n : Int) + 1 - (k : Int) = ((n + 1 - k : Nat) : Int) := by omega
  have Hkk := Lib.hid hkk
  obtain ⟨P1, hP1⟩ : ∃ P1, P1 = (vs.take k).flatMap Ver.cells := ⟨_, rfl⟩
  obtain ⟨D1, hD1⟩ : ∃ D1, D1 = (vs.drop k).flatMap Ver.cells := ⟨_, rfl⟩
  obtain ⟨X1, hX1⟩ : ∃ X1, X1 = Ver.cells x := ⟨_, rfl⟩
  have hPl : P1.length = k * 3 := by rw [hP1, flat_len _ (len_ver _), List.length_take]; omega
  have hDl : D1.length = (n - k) * 3 := by rw [hD1, flat_len _ (len_ver _), List.length_drop]; omega
  have hXl : X1.length = 3 := by rw [hX1]; rfl
  have hPc : ∀ j u, P1[j]? = some u → w.cell? ⟨b, j, none⟩ = some u := fun j u hu => by
    have hj := (List.getElem?_eq_some_iff.1 hu).1
    rw [hP1, flat_take, List.getElem?_take_of_lt (by omega)] at hu
    exact Hcell.out j u hu
  have hDc : ∀ j u, D1[j]? = some u → w.cell? ⟨b, k * 3 + j, none⟩ = some u := fun j u hu => by
    rw [hD1, flat_drop, List.getElem?_drop] at hu
    exact Hcell.out _ u hu
  have hXc : ∀ j u, X1[j]? = some u → w.cell? ⟨g, j, none⟩ = some u := fun j u hu => by rw [hX1] at hu; exact Hgc.out j u hu
  have hD1c : ∀ u ∈ D1, u.oneCell' = true := by rw [hD1]; exact flat_one _
  have hX1c : ∀ u ∈ X1, u.oneCell' = true := by rw [hX1]; exact one_ver _
  have HPc := Lib.hid hPc
  have HDc := Lib.hid hDc
  have HXc := Lib.hid hXc
  have HPl := Lib.hid hPl
  have HDl := Lib.hid hDl
  have HXl := Lib.hid hXl
  have HP1 := Lib.hid hP1
  have HDD := Lib.hid hD1
  have HXX := Lib.hid hX1
  have HD1 := Lib.hid hD1c
  have HX1 := Lib.hid hX1c
  have hck : ¬ cap = k := by omega
  have hk1 : IntKind.i64.wrap ((k : Int) + 1) = (k : Int) + 1 := IntWalk.i64_in _ (by omega)
  have hk2 : (0 : Int) ≤ (k : Int) + 1 := by omega
  have hk3 : ((k : Int) + 1).toNat = k + 1 := by omega
  have hz3 : (cap : Int) < (n : Int) + 1 := by omega
  have hkn : (k : Int) ≤ (n : Int) := by omega
  have hne : ¬ ((k : Int) = (n : Int)) := by omega
  clear hcell hgc hfl hn hkk hPl hDl hXl hPc hDc hXc hD1c hX1c hP1 hD1 hX1 hg hown
  go_enter Tryz.func102, Tryz.ntmps102
  go_wp2_with (at_builtin; refine wpList_append_zerosK rfl _ _ 68 3 rfl 104 i0 (.agg #[.int .i64 0, .string ⟨#[]⟩, .bool false]) 3 32 .i64 .i64 Tryz.underlying68 Tryz.underlying3 hi hz0 hz1 hz2 (by decide) (some ⟨b, 0, none⟩) k cap rfl (n + 1 - k) (show Value.int .i64 _ = _ from by rw [← Hkk.out]) P1 HPl.out (fun _ => ⟨_, rfl, fun j u hu => by rw [Addr.add_lit, Nat.zero_add]; exact HPc.out j u hu⟩) (by omega) (by omega) (by omega) (by omega) (by unfold maxLen; omega) ?_ rfl)
  intro cp hcp hcm w1 L HL HLl HLt HLb HLs
  have hLs := HLs.out
  have Hcp := Lib.hid hcp
  have hcpi : ¬ cp = k := by omega
  have hcpj : ¬ cp = k + 1 := by omega
  have hcp2 : (cp : Int) ≤ 9223372036854775807 := by unfold maxLen at hcm; omega
  have hcp3 : n + 1 ≤ cp := by omega
  have hkn2 : k + (n + 1 - k) = n + 1 := by omega
  rw [hkn2]
  clear hcp hkn2
  have hbm : b < w1.heap.size := by omega
  have Hm1 : Hid (X1.length = Nat.min 1 (n + 1 - k) * 3) := Lib.hid (by rw [HXl.out, show Nat.min 1 (n + 1 - k) = 1 from Nat.min_eq_left (by omega)])
  go_wp2_with (with_reducible refine wpList_copy_spliceK (o := ⟨some 45, _, _, _, _, _⟩) rfl (.tmp 43) (.tmp 44) 68 68 rfl 104 3 (by decide) Tryz.underlying68 hsz (some ⟨w.heap.size, k * 3, none⟩) (some ⟨g, 0, none⟩) (n + 1 - k) (cp - k) 1 1 rfl rfl w.heap.size (k * 3) L 104 HL.out X1 Hm1.out (fun _ => ⟨rfl, _, rfl, fun j u hu => by rw [Addr.add_lit, Nat.zero_add]; exact (HLb.out.cell (p := ⟨g, j, none⟩) hgl).trans (HXc.out j u hu)⟩) (by rw [HXl.out, HLl.out]; omega) HX1.out w.heap.size w HLb.out (Nat.le_refl _) ?_)
  intro w2 HL2 hb2 hs2 _ho2
  have Hb2 := Lib.hid hb2
  have Hs2 := Lib.hid hs2
  clear hb2 hs2
  have Hm2 : Hid (D1.length = Nat.min (n - k) (n + 1 - (k + 1)) * 3) := Lib.hid (by rw [HDl.out, show Nat.min (n - k) (n + 1 - (k + 1)) = n - k from Nat.min_eq_left (by omega)])
  have hL2l : (splice L (k * 3) X1).length = cp * 3 := by rw [length_splice _ _ _ (by rw [HXl.out, HLl.out]; omega)]; exact HLl.out
  have HL2l := Lib.hid hL2l
  have hdc2 : ∀ j u, D1[j]? = some u → w2.cell? ⟨b, k * 3 + j, none⟩ = some u := fun j u hu => (Hb2.out.cell (p := ⟨b, k * 3 + j, none⟩) hbl.1).trans (HDc.out j u hu)
  have Hdc2 := Lib.hid hdc2
  clear hL2l hdc2
  go_wp2_with fail
  go_region_law (refine step_copy_spliceK rfl (.tmp 50) (.tmp 53) 68 68 rfl 104 3 (by decide) Tryz.underlying68 hsz (some ⟨w.heap.size, (k + 1) * 3, none⟩) (some ⟨b, k * 3, none⟩) (n + 1 - (k + 1)) (cp - (k + 1)) (n - k) (cap - k) (by simp [Act.eval, Act.put]) (by simp [Act.eval, Act.put]) w.heap.size ((k + 1) * 3) (splice L (k * 3) X1) 104 HL2.out D1 Hm2.out (fun _ => ⟨rfl, _, rfl, fun j u hu => by rw [Addr.add_lit]; exact Hdc2.out j u hu⟩) (by rw [HDl.out, HL2l.out]; omega) HD1.out w.heap.size w (bel_drew Hb2.out) (Nat.le_refl _) ?_; intro w3 HL3 hb3 hs3 _ho3)
  have Hb3 := Lib.hid hb3
  clear hb3 hs3
  go_wp2_with fail
  go_ret
  refine ⟨_, rfl, ?_, Hb3.out⟩
  have hlen : (vs.take k ++ x :: vs.drop k).length = n + 1 := by rw [List.length_append, List.length_cons, List.length_take, List.length_drop]; have := Hn.out; omega
  have hflat : (vs.take k ++ x :: vs.drop k).flatMap Ver.cells = P1 ++ (X1 ++ D1) := by rw [List.flatMap_append, List.flatMap_cons, HP1.out, HXX.out, HDD.out]
  obtain ⟨e1, e2⟩ := splice_dst_src (L := L) (P := P1) (X := X1) (D := D1) (a := k * 3) (b := 3) (c := (n - k) * 3) HPl.out HXl.out HDl.out (by rw [HLl.out]; omega) HLt.out
  rw [show k * 3 + 3 = (k + 1) * 3 from by omega, show (k + 1) * 3 + (n - k) * 3 = (n + 1) * 3 from by omega] at e2
  have := ownV_of (vs := vs.take k ++ x :: vs.drop k) (cap := cp) HL3.out hB (by rw [length_splice _ _ _ (by rw [HDl.out, HL2l.out]; omega)]; exact HL2l.out) (by rw [hlen]; exact hcp3) hcm (by rw [hlen, hflat]; exact e2)
  rwa [hlen] at this
end Go.Proofs.YtfpcgfgofemhoaaGreat

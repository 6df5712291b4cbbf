/- Lemmas and contracts of functions that statements of this seat stand on, many texts in one; each holds under the premises typed in its head. -/
import Derived.Test.YtdcnaieieggclaaME
import Derived.Deep.RegionLaw
import Derived.Deep.DeepCutAuto
import Derived.Laws.Rows
import Derived.Test.YtdcnaieieggclaaMD
import Derived.Deep.QuietTactic
import Derived.Test.YtdcnaieieggclaaMA
/- law11: a transaction of its own; is the program alive?; are two neighbours? -/
namespace Go.Proofs.Ytdcnaieieggclaa
open Go.RowKit
set_option linter.unusedVariables false
set_option linter.unusedSimpArgs false

open Go.Maps Go.Sort
/-- The keys of one letter each. -/
def letters (s : ByteArray) (k : Nat) : List Wr := (List.range k).map fun i => ⟨s.extract i (i + 1), ⟨#[]⟩, false⟩
theorem letters_len (s : ByteArray) (k : Nat) : (letters s k).length = k := by simp [letters]
theorem letters_succ (s : ByteArray) (k : Nat) : letters s (k + 1) = letters s k ++ [⟨s.extract k (k + 1), ⟨#[]⟩, false⟩] := by simp [letters, List.range_succ]
def TxnPost (w : World) (n : Int) (s : ByteArray) (e : Ending) (w' : World) : Prop := ∃ A cap, e = .returned (.agg #[.int .i64 n, .slice A s.size cap]) ∧ w'.ownsRow w.heap.size 39 3 (.slice A s.size cap) s.size ((letters s s.size).flatMap Wr.cells) ∧ Below w.heap.size w w'
set_option maxRecDepth 100000
set_option maxHeartbeats 4000000
theorem txn_any (n : Int) (s : ByteArray) (w : World) (hs : s.size ≤ 1000) : Calls Try.prog 60 #[.int .i64 n, .string s] w (TxnPost w n s) := by
  obtain ⟨i0, hi, hz0, hz1, hz2⟩ := info_parts info_wr
  go_enter Try.func60, Try.ntmps60
  go_wp2_with fail
  go_loopw [6] (fun i wr => ∃ (k : Nat) (V : Value), k ≤ s.size ∧ i = .int .i64 k ∧ Hid (wr.heap[w.heap.size + 1]? = some (.cells #[.int .i64 n, V] 37 (0, 0))) ∧ Hid (wr.heap[w.heap.size]? = some (.cells #[.int .i64 0, .slice none 0 0] 37 (0, 0))) ∧ Hid (wr.ownsRow (w.heap.size + 2) 39 3 V k ((letters s k).flatMap Wr.cells)) ∧ Hid (Below w.heap.size w wr)) (fun i _ => s.size - (RowKit.intOf i).toNat)
  case atStart => exact ⟨0, .slice none 0 0, Nat.zero_le _, rfl, Lib.hid (by simpa using blk_new2 w _ _), Lib.hid ((Below.heap_alloc _ _ _ (by simp)).trans (blk_new w _)), Lib.hid ⟨rfl, Or.inl ⟨rfl, rfl⟩⟩, Lib.hid (bel_alloc (bel_alloc (Below.refl _ _) _) _)⟩
  case round =>
    obtain ⟨k, V, hk, rfl, HV, HRs, HO, HB⟩ := hrel
    have hsz := HB.out.size
    have hltv := blk_lt HV.out
    obtain ⟨Av, capv, rfl, -, -, -⟩ := rowAt_own (len_wr _) (show wr.ownsRow (w.heap.size + 2) 39 3 V (letters s k).length _ by rw [letters_len]; exact HO.out)
    rw [letters_len] at HV HO
    have v1 := blk_cell HV.out 1
    have v2 := blk_frozen HV.out 1
    simp only [List.getElem?_toArray, List.getElem?_cons_zero, List.getElem?_cons_succ] at v1
    by_cases hks : k < s.size
    · have hkr : (0 : Int) ≤ (k : Int) := by omega
      have hk2 : (0 : Int) ≤ (k : Int) + 1 := by omega
      have hk3 : (k : Int) ≤ (k : Int) + 1 := by omega
      have hk1 : ((k : Int) + 1) ≤ (s.size : Int) := by omega
      have hwr : IntKind.i64.wrap ((k : Int) + 1) = (k : Int) + 1 := by rw [IntKind.wrap_i64]; omega
      have hne : some (w.heap.size + 1) ≠ (Value.slice Av k capv).ownBlock := fun e => by have := (HO.out.lt _ e.symm).1; omega
      have Hne := Lib.hid hne
      have Hne0 := Lib.hid (show some w.heap.size ≠ (Value.slice Av k capv).ownBlock from fun e => by have := (HO.out.lt _ e.symm).1; omega)
      clear hne
      go_wp2_with fail
      go_region_law (first | (refine step_append_lies _ rfl (.tmp 16) (.tmp 23) 35 rfl (w.heap.size + 2) 39 i0 _ 3 40 Try.underlying35 hi hz0 hz1 hz2 rfl (by decide) (.slice Av k capv) k ((letters s k).flatMap Wr.cells) rfl (by first | exact ownsRow_below HO.out (bel_drew (bel_alloc (Below.refl _ _) _)) | exact ownsRow_below HO.out (bel_alloc (bel_drew (Below.refl _ _)) _)) ⟨wr.heap.size, 0, none⟩ 1 1 (Wr.cells ⟨s.extract k (k + 1), ⟨#[]⟩, false⟩) rfl rfl (cells_new wr (Wr.cells ⟨s.extract k (k + 1), ⟨#[]⟩, false⟩) _) (one_wr _) (by omega) (by simp only [maxLen]; omega) (by omega) (by simp; omega) _ rfl ?_; intro g3 cap3 w3 hown3 hg3 hat3 hlt3; have hblk3 := (hg3.block (w.heap.size + 1) (by simp; omega) Hne.out).trans ((Below.heap_alloc wr _ _ hltv).trans HV.out); have hres3 := (hg3.block w.heap.size (by simp; omega) Hne0.out).trans ((Below.heap_alloc wr _ _ (blk_lt HRs.out)).trans HRs.out); have Hres3 := Lib.hid hres3; have Hown3 := Lib.hid hown3; have Hg3 := Lib.hid hg3; have p1 := blk_cell hblk3 1; have p2 := blk_frozen hblk3 1; simp only [List.getElem?_toArray, List.getElem?_cons_zero, List.getElem?_cons_succ] at p1; have Hblk3 := Lib.hid hblk3; have Hlt3 := Lib.hid (hown3.lt _ rfl); clear hown3 hg3 hat3 hblk3 hres3))
      all_goals
        go_wp2_with fail
        refine ⟨⟨k + 1, .slice (some ⟨g3, 0, none⟩) (k + 1) cap3, by omega, by go_num, Lib.hid (by simpa using blk_set Hblk3.out 1 (.slice (some ⟨g3, 0, none⟩) (k + 1) cap3)), Lib.hid ((Below.heap_setCell _ _ _ _ (by simp)).trans Hres3.out), Lib.hid ?_, Lib.hid ?_⟩, by simp [RowKit.intOf]; omega⟩
        · rw [letters_succ, List.flatMap_append]
          have hkp := Hown3.out.kept (only_setCell (p := ⟨w.heap.size + 1, 1, none⟩) (grownBy_refl w3 (some (w.heap.size + 1))) (Or.inl rfl) (.slice (some ⟨g3, 0, none⟩) (k + 1) cap3)) (Or.inr (fun e => by simp only [Value.ownBlock, Option.some.injEq] at e; have := Hlt3.out.1; simp only at this; omega))
          simpa using hkp
        · refine (Below.grown (below_drewN (bel_alloc HB.out _) 1) Hg3.out (by simp; omega) (fun k hk => by have := (HO.out.lt k hk).1; omega)).setCell (by simp) _
    · obtain rfl : k = s.size := by omega
      have v0 := blk_cell HV.out 0
      simp only [List.getElem?_toArray, List.getElem?_cons_zero] at v0
      have r0 := blk_cell HRs.out 0
      have r1 := blk_cell HRs.out 1
      have r2 := blk_frozen HRs.out 0
      have r3 := blk_frozen HRs.out 1
      simp only [List.getElem?_toArray, List.getElem?_cons_zero, List.getElem?_cons_succ] at r0 r1
      go_wp2_with fail
      have hb1 := blk_set HRs.out 0 (.int .i64 n)
      have hb2 := blk_set hb1 1 (.slice Av s.size capv)
      have hb3 : ((wr.setCell ⟨w.heap.size, 0, none⟩ (.int .i64 n)).setCell ⟨w.heap.size, 1, none⟩ (.slice Av s.size capv)).heap[w.heap.size]? = some (.cells #[.int .i64 n, .slice Av s.size capv] 37 (0, 0)) := by simpa using hb2
      refine bodyPost_ret (results_cell_row rfl _ _ w.heap.size _ _ _ _ rfl hb3 Try.underlying37 rfl (by kernel_rfl)) rfl ⟨Av, capv, rfl, ?_, ?_⟩
      · have hn1 : ∀ g, (Value.slice Av s.size capv).ownBlock = some g → w.heap.size ≠ g := fun g hg e => by have := (HO.out.lt g hg).1; omega
        have h1 := ownsRow_base_a HO.out (show w.heap.size ≤ w.heap.size + 2 by omega)
        have h2 : (wr.setCell ⟨w.heap.size, 0, none⟩ (.int .i64 n)).setCell ⟨w.heap.size, 1, none⟩ (.slice Av s.size capv) = (wr.setCell ⟨w.heap.size, 0, none⟩ (.int .i64 n)).setCell ⟨w.heap.size, 1, none⟩ (.slice Av s.size capv) := rfl
        have hg1 := only_setCell (p := ⟨w.heap.size, 1, none⟩) (only_setCell (p := ⟨w.heap.size, 0, none⟩) (grownBy_refl wr (some w.heap.size)) (Or.inl rfl) (.int .i64 n)) (Or.inl rfl) (.slice Av s.size capv)
        exact h1.kept hg1 (by
          cases hob : (Value.slice Av s.size capv).ownBlock with
          | none => exact Or.inl rfl
          | some g => exact Or.inr (fun e => hn1 g hob (by injection e with e; exact e.symm)))
      · exact bel_set (bel_set HB.out (Nat.le_refl _) _) (Nat.le_refl _) _
end Go.Proofs.Ytdcnaieieggclaa

/- law11: Done of one that waits yet; is the program alive? -/

namespace Go.Proofs.Ytdcnaieieggclaa
open Go.RowKit
set_option linter.unusedVariables false
set_option linter.unusedSimpArgs false

open Go.Maps Go.Sort
set_option maxRecDepth 100000
set_option maxHeartbeats 4000000
theorem tdone_busy (t : TB) (d : DT) (n c : Int) (w : World) (h : TabAt w t d) (ho : mget d.opn n = some c) (hc : 0 < c) :
    Calls Try.prog 36 #[.pointer (some ⟨t.g, 0, none⟩), .int .i64 n] w fun e w' => e = .returned (.tuple #[.slice none 0 0, .int .i64 6]) ∧ w' = w := by
  obtain ⟨-, c1, c2, -⟩ := h.cells
  have hm := h.opn
  have hgt : decide (0 < c) = true := decide_eq_true hc
  go_enter Try.func36, Try.ntmps36
  go_wp2_with fail
  refine (gone_any t d _ h).mono ?_
  rintro e w1 ⟨rfl, rfl⟩
  go_wp2_with (first
    | (at_lookup; refine wpList_lookup_ok_M (κ := Value.int .i64) (ν := Value.int .i64) (b := t.q) (m := d.opn) rfl _ _ rfl hm kint Try.underlying100 zint n rfl rfl ?_; rw [int_or, ho]))
  go_ret2
  exact ⟨rfl, rfl⟩
theorem twaits_no (t : TB) (d : DT) (n : Int) (w : World) (h : TabAt w t d) (ho : mget d.opn n = none) :
    Calls Try.prog 34 #[.pointer (some ⟨t.g, 0, none⟩), .int .i64 n] w fun e w' => e = .returned (.tuple #[.slice none 0 0, .int .i64 1]) ∧ w' = w := by
  obtain ⟨-, c1, c2, -⟩ := h.cells
  have hm := h.opn
  go_enter Try.func34, Try.ntmps34
  go_wp2_with fail
  refine (gone_any t d _ h).mono ?_
  rintro e w1 ⟨rfl, rfl⟩
  go_wp2_with (first
    | (at_lookup; refine wpList_lookup_ok_M (κ := Value.int .i64) (ν := Value.int .i64) (b := t.q) (m := d.opn) rfl _ _ rfl hm kint Try.underlying100 zint n rfl rfl ?_; rw [int_or, ho]))
  go_ret2
  exact ⟨rfl, rfl⟩
end Go.Proofs.Ytdcnaieieggclaa

/- law11: is the program alive? -/

namespace Go.Proofs.Ytdcnaieieggclaa
open Go.RowKit
set_option linter.unusedVariables false
set_option linter.unusedSimpArgs false

open Go.Maps Go.Sort
def sA : ByteArray := ⟨#[97]⟩
def sB : ByteArray := ⟨#[98]⟩
def sC : ByteArray := ⟨#[97, 98, 97]⟩
def rsA : List RTx := [⟨1, none, 0, 0, letters sA sA.size⟩, ⟨2, none, 0, 0, letters sB sB.size⟩, ⟨3, none, 0, 0, letters sC sC.size⟩]
def E0 : Nat → Bool := fun _ => false
theorem depA1 : depL rsA E0 1 = [] := by kernel_rfl
theorem depA2 : depL rsA E0 2 = [] := by kernel_rfl
theorem depA3 : depL rsA E0 3 = [1, 2] := by kernel_rfl
theorem lastA : lastN rsA sA 3 = 3 := by kernel_rfl
theorem txA1 : txB 1 (letters sA sA.size) = true := by kernel_rfl
theorem txA2 : txB 2 (letters sB sB.size) = true := by kernel_rfl
theorem txA3 : txB 3 (letters sC sC.size) = true := by kernel_rfl
theorem own_kept {w X : World} {P : Nat → Prop} {base n size : Nat} {e : TypeId} {v : Value} {xs : List Value} (h : w.ownsRow base e size v n xs) (hk : Kept w X P) (hP : ∀ k, P k → k < base) : X.ownsRow base e size v n xs := by
  refine ⟨h.1, ?_⟩
  rcases h.2 with hn | ⟨g, cap, cur, rfl, hb, hg, rest⟩
  · exact Or.inl hn
  · exact Or.inr ⟨g, cap, cur, rfl, hb, (hk.block g (blk_lt hg) (fun hp => by have := hP g hp; omega)).trans hg, rest⟩
/-- What was handed in stands apart from the table. -/
theorem ws_apart {w : World} {t : TB} {base n cap : Nat} {A : Option Addr} {ws : List Wr} (h : w.ownsRow base 39 3 (.slice A n cap) n (ws.flatMap Wr.cells)) (hl : ws.length = n) (ht : ∀ k, t.has k → k < base) : ∀ X, Kept w X t.has → WsAt X X.heap.size A n ws := fun X hX => by
  subst hl
  obtain ⟨A', cap', k1, k2, -, -⟩ := rowAt_own (len_wr _) (own_kept h hX ht)
  injection k1 with k1 k3 k4
  subst k1
  exact k2
/-! ### the table's functions in the words of TInv -/
section
variable {rs : List RTx} {m : Nat} {E : Nat → Bool} {d : DT}
def Tabs (rs : List RTx) (m : Nat) (E : Nat → Bool) (t : TB) (w : World) : Prop := ∃ d, TabAt w t d ∧ TInv rs m E d
theorem add_inv (t : TB) (A : Option Addr) (len cap : Nat) (w : World) (h : Tabs rs m E t w) (hm : m + 1 ≤ 65536) {r : RTx} (hr : rs[m]? = some r) (hws : ∀ X, Kept w X t.has → WsAt X X.heap.size A len r.ws) (hb : txB ((m : Int) + 1) r.ws = true) :
    Calls Try.prog 33 #[.pointer (some ⟨t.g, 0, none⟩), .agg #[.int .i64 ((m : Int) + 1), .slice A len cap]] w fun e w' => e = .returned (.tuple #[.int .i64 ((depL rs E (m + 1)).length : Nat), .int .i64 0]) ∧ Tabs rs (m + 1) E t w' ∧ Kept w w' t.has := by
  obtain ⟨d, hT, hI⟩ := h
  obtain ⟨i1, e1⟩ := hI.add hm hr
  refine (tadd_any t d _ A len cap r.ws w hT hws hb (by rw [hI.top]; omega) hI.lastb).mono ?_
  rintro e w' ⟨rfl, h1, h2⟩
  exact ⟨by rw [e1], ⟨_, h1, i1⟩, h2⟩
theorem waits_inv (t : TB) (n : Nat) (w : World) (h : Tabs rs m E t w) (hm : m ≤ 65536) (h1 : 1 ≤ n) (h2 : n ≤ m) (hE : E n = false) :
    Calls Try.prog 34 #[.pointer (some ⟨t.g, 0, none⟩), .int .i64 n] w fun e w' => ∃ v, e = .returned (.tuple #[v, .int .i64 0]) ∧ w'.ownsRow w.heap.size 3 1 v (depL rs E n).length ((ints (depL rs E n)).flatMap Icell) ∧ Below w.heap.size w w' := by
  obtain ⟨d, hT, hI⟩ := h
  have hwl := hI.wts_len hm
  refine (twaits_any t d n w hT ((hI.isOpen n).2 ⟨by omega, by omega, by simpa using hE⟩) (Nat.le_trans hwl (by have : (m + 1) * (m + 1) ≤ 65537 * 65537 := Nat.mul_le_mul (by omega) (by omega); omega))).mono ?_
  rintro e w' ⟨v, rfl, h3, h4⟩
  rw [hI.waits_len hm h1 h2, hI.waits hm h1 h2] at h3
  exact ⟨v, rfl, h3, h4⟩
theorem open_inv (t : TB) (w : World) (h : Tabs rs m E t w) (hm : m ≤ 65536) :
    Calls Try.prog 32 #[.pointer (some ⟨t.g, 0, none⟩)] w fun e w' => ∃ v, e = .returned v ∧ w'.ownsRow w.heap.size 3 1 v (openL m E).length ((ints (openL m E)).flatMap Icell) ∧ Below w.heap.size w w' := by
  obtain ⟨d, hT, hI⟩ := h
  have hol := hI.opn_len
  refine (topen_any t d w hT (by omega) (fun p hp => wfI (by have := (hI.mem_opn p.1).1 (List.mem_map.2 ⟨p, hp, rfl⟩); omega))).mono ?_
  rintro e w' ⟨v, rfl, h3, h4⟩
  have e1 : d.opn.length = (openL m E).length := by have := hI.opn_perm.length_eq; unfold ints at this; simpa using this
  rw [hI.opn_sort, e1] at h3
  exact ⟨v, rfl, h3, h4⟩
theorem last_inv (t : TB) (k : ByteArray) (w : World) (h : Tabs rs m E t w) :
    Calls Try.prog 37 #[.pointer (some ⟨t.g, 0, none⟩), .string k] w fun e w' => e = .returned (.int .i64 (lastN rs k m : Nat)) ∧ w' = w := by
  obtain ⟨d, hT, hI⟩ := h
  have := tlast_any t d k w hT
  rwa [hI.last] at this
/-- Those that Done tells: they wait for n, and for none beside it. -/
def toldL (rs : List RTx) (m : Nat) (E : Nat → Bool) (n : Nat) : List Nat := (List.range (m + 1)).filter fun a => decide (1 ≤ a) && depB rs a n && decide ((depL rs E a).length = 1)
theorem toldL_rises (rs : List RTx) (m : Nat) (E : Nat → Bool) (n : Nat) : (toldL rs m E n).Pairwise (· < ·) := List.pairwise_lt_range.filter _
theorem mem_toldL {n a : Nat} : a ∈ toldL rs m E n ↔ 1 ≤ a ∧ a ≤ m ∧ dep rs a n ∧ (depL rs E a).length = 1 := by
  simp only [toldL, List.mem_filter, List.mem_range, Bool.and_eq_true, decide_eq_true_eq, depB_iff]
  exact ⟨fun h => ⟨h.2.1.1, by omega, h.2.1.2, h.2.2⟩, fun h => ⟨by omega, ⟨h.1, h.2.2.1⟩, h.2.2.2⟩⟩
theorem TInv.told_perm (h : TInv rs m E d) (hm : m ≤ 65536) {n : Nat} (h1 : 1 ≤ n) (h2 : n ≤ m) (hE : E n = false) : ((tellL d.wts n).filter fun a => decide (mget (mdel d.opn n) a = some 1)).Perm (ints (toldL rs m E n)) := by
  refine nodup_perm ((tellL_nodup _ h.nw).filter _) (ints_nodup ((toldL_rises rs m E n).imp fun h => by omega)) fun z => ?_
  rw [List.mem_filter, mem_ints, mem_toldL, decide_eq_true_eq]
  constructor
  · rintro ⟨h3, h4⟩
    obtain ⟨p1, -, -, -⟩ := h.told hm h1 h2 hE h3
    obtain ⟨q1, q2, q3⟩ := (h.tell hm h1 h2 hE z).1 h3
    rw [p1] at h4
    simp only [Option.some.injEq] at h4
    exact ⟨by omega, by omega, by omega, q3, by omega⟩
  · rintro ⟨h0, h3, h4, h5, h6⟩
    have h7 := (h.tell hm h1 h2 hE z).2 ⟨by omega, by omega, h5⟩
    obtain ⟨p1, -, -, -⟩ := h.told hm h1 h2 hE h7
    exact ⟨h7, by rw [p1, h6]; rfl⟩
theorem depL_len (rs : List RTx) (E : Nat → Bool) (a : Nat) : (depL rs E a).length ≤ a := by
  unfold depL; exact Nat.le_trans (List.length_filter_le _ _) (by simp)
theorem done_inv (t : TB) (n : Nat) (w : World) (h : Tabs rs m E t w) (hm : m ≤ 65536) (h1 : 1 ≤ n) (h2 : n ≤ m) (hE : E n = false) (hd : depL rs E n = []) :
    Calls Try.prog 36 #[.pointer (some ⟨t.g, 0, none⟩), .int .i64 n] w fun e w' => ∃ v, e = .returned (.tuple #[v, .int .i64 0]) ∧ w'.ownsRow w.heap.size 3 1 v (toldL rs m E n).length ((ints (toldL rs m E n)).flatMap Icell) ∧ Tabs rs m (E1 E n) t w' ∧ Kept w w' t.has := by
  obtain ⟨d, hT, hI⟩ := h
  have hwl := hI.wts_len hm
  have hp := hI.told_perm hm h1 h2 hE
  refine (tdone_any t d n w hT (by rw [hI.opn, if_pos ⟨by omega, by omega, by simpa using hE⟩]; simp [hd]) (Nat.le_trans hwl (by have : (m + 1) * (m + 1) ≤ 65537 * 65537 := Nat.mul_le_mul (by omega) (by omega); omega)) (fun a ha => ?_)).mono ?_
  · obtain ⟨p1, -, p3, -⟩ := hI.told hm h1 h2 hE ha
    obtain ⟨q1, q2, q3⟩ := (hI.tell hm h1 h2 hE a).1 ha
    have := depL_len rs E a.toNat
    have := List.length_pos_of_mem p3
    exact ⟨_, p1, by omega, by omega⟩
  · rintro e w' ⟨v, m2, m3, rfl, h3, h4, h5, h6, h7⟩
    rw [hp.length_eq, sortI_of hp (toldL_rises rs m E n)] at h3
    refine ⟨v, rfl, by simpa [ints] using h3, ⟨_, h4, hI.done hm h1 h2 hE hd h5 h6 h4.opn.nodup h4.wts.nodup⟩, h7⟩
end
end Go.Proofs.Ytdcnaieieggclaa

/- law11: the program is alive: the walk. -/

namespace Go.Proofs.Ytdcnaieieggclaa
open Go.RowKit
set_option linter.unusedVariables false
set_option linter.unusedSimpArgs false

open Go.Maps Go.Sort
set_option maxRecDepth 100000
set_option maxHeartbeats 4000000
theorem addA1 (t : TB) (A : Option Addr) (cap : Nat) (w : World) (h : Tabs rsA 0 E0 t w) (hws : ∀ X, Kept w X t.has → WsAt X X.heap.size A sA.size (letters sA sA.size)) :
    Calls Try.prog 33 #[.pointer (some ⟨t.g, 0, none⟩), .agg #[.int .i64 1, .slice A sA.size cap]] w fun e w' => e = .returned (.tuple #[.int .i64 0, .int .i64 0]) ∧ Tabs rsA 1 E0 t w' ∧ Kept w w' t.has := by
  have := add_inv t A sA.size cap w h (by omega) (r := ⟨1, none, 0, 0, letters sA sA.size⟩) rfl hws txA1
  rwa [depA1] at this
theorem addA2 (t : TB) (A : Option Addr) (cap : Nat) (w : World) (h : Tabs rsA 1 E0 t w) (hws : ∀ X, Kept w X t.has → WsAt X X.heap.size A sB.size (letters sB sB.size)) :
    Calls Try.prog 33 #[.pointer (some ⟨t.g, 0, none⟩), .agg #[.int .i64 2, .slice A sB.size cap]] w fun e w' => e = .returned (.tuple #[.int .i64 0, .int .i64 0]) ∧ Tabs rsA 2 E0 t w' ∧ Kept w w' t.has := by
  have := add_inv t A sB.size cap w h (by omega) (r := ⟨2, none, 0, 0, letters sB sB.size⟩) rfl hws txA2
  rwa [depA2] at this
theorem addA3 (t : TB) (A : Option Addr) (cap : Nat) (w : World) (h : Tabs rsA 2 E0 t w) (hws : ∀ X, Kept w X t.has → WsAt X X.heap.size A sC.size (letters sC sC.size)) :
    Calls Try.prog 33 #[.pointer (some ⟨t.g, 0, none⟩), .agg #[.int .i64 3, .slice A sC.size cap]] w fun e w' => e = .returned (.tuple #[.int .i64 2, .int .i64 0]) ∧ Tabs rsA 3 E0 t w' ∧ Kept w w' t.has := by
  have := add_inv t A sC.size cap w h (by omega) (r := ⟨3, none, 0, 0, letters sC sC.size⟩) rfl hws txA3
  rwa [depA3] at this
theorem Tabs.below {rs : List RTx} {m : Nat} {E : Nat → Bool} {t : TB} {w w' : World} (h : Tabs rs m E t w) (hb : Below w.heap.size w w') : Tabs rs m E t w' := by
  obtain ⟨d, h1, h2⟩ := h; exact ⟨d, h1.below hb, h2⟩
theorem Tabs.lt {rs : List RTx} {m : Nat} {E : Nat → Bool} {t : TB} {w : World} (h : Tabs rs m E t w) {k : Nat} (hk : t.has k) : k < w.heap.size := by
  obtain ⟨d, h1, h2⟩ := h; exact h1.has_lt hk
end Go.Proofs.Ytdcnaieieggclaa

/- Lists of numbers that are the same. -/

namespace Go.Proofs.Ytdcnaieieggclaa
open Go.RowKit
set_option linter.unusedVariables false
set_option linter.unusedSimpArgs false

open Go.Maps
set_option maxHeartbeats 1000000 in
/-- Two rows of one list are the same. -/
theorem sameI_any (A1 : Option Addr) (len cap1 : Nat) (A2 : Option Addr) (cap2 : Nat) (xs : List Int) (w : World) (h1 : RowAt Icell 1 w w.heap.size A1 len xs) (h2 : RowAt Icell 1 w w.heap.size A2 len xs) (hl : len ≤ 4398046511104) :
    Calls Try.prog 61 #[.slice A1 len cap1, .slice A2 len cap2] w fun e w' => e = .returned (.bool true) ∧ Below w.heap.size w w' := by
  have hb0 := beq_self_eq_true (len : Int)
  go_enter Try.func61, Try.ntmps61
  go_wp2_with fail
  go_loopw [5] (fun i wr => ∃ k : Nat, k ≤ len ∧ i = .int .i64 k ∧ Below w.heap.size w wr) (fun i _ => len - (RowKit.intOf i).toNat)
  case atStart => exact ⟨0, Nat.zero_le _, rfl, Below.refl _ _⟩
  case round =>
    obtain ⟨k, hk, rfl, hb⟩ := hrel
    have hr := h1.below hb
    have ht := h2.below hb
    have Hb := Lib.hid hb
    have hs := hb.size
    clear hb
    by_cases hlt : k < len
    · obtain ⟨b, off, x, rfl, hbl, hx, hxc⟩ := hr.at_ hlt
      have x0 := hxc 0 _ rfl
      simp only [Nat.mul_one, Nat.add_zero] at x0
      obtain ⟨b', off', y, rfl, hbl', hy, hyc⟩ := ht.at_ hlt
      have y0 := hyc 0 _ rfl
      simp only [Nat.mul_one, Nat.add_zero] at y0
      obtain rfl : y = x := by rw [hx] at hy; exact (Option.some.inj hy).symm
      clear hx hy hxc hyc hr ht
      go_wp2_with fail
      go_quiet (fail)
      go_wp2_with fail
      exact ⟨⟨k + 1, by omega, by go_num, below_drewN Hb.out _⟩, by simp [RowKit.intOf]; omega⟩
    · obtain rfl : k = len := by omega
      go_wp2_with fail
      go_ret
      exact ⟨rfl, Hb.out⟩
end Go.Proofs.Ytdcnaieieggclaa

/- law11: the program is alive: the walk. -/

namespace Go.Proofs.Ytdcnaieieggclaa
open Go.RowKit
set_option linter.unusedVariables false
set_option linter.unusedSimpArgs false

open Go.Maps Go.Sort
set_option maxRecDepth 100000
set_option maxHeartbeats 4000000
theorem new_inv (rs : List RTx) (w : World) : ∃ t : TB, (∀ k, t.has k → w.heap.size ≤ k) ∧ Calls Try.prog 31 #[] w fun e w' => e = .returned (.pointer (some ⟨t.g, 0, none⟩)) ∧ Tabs rs 0 E0 t w' ∧ Below w.heap.size w w' := by
  refine ⟨⟨w.heap.size + 3, w.heap.size, w.heap.size + 1, w.heap.size + 2⟩, fun k hk => by rcases hk with rfl | rfl | rfl | rfl <;> simp, (new_any w).mono ?_⟩
  rintro e w' ⟨rfl, h1, h2⟩
  exact ⟨rfl, ⟨_, h1, TInv.start rs E0 (fun _ => rfl)⟩, h2⟩
theorem alive11_any (w : World) : Calls Try.prog 29 #[] w (TrueB w) := by
  obtain ⟨t, hth, hnew⟩ := new_inv rsA w
  have Hth := Lib.hid hth
  have Hnew := Lib.hid hnew
  have hlA := Lib.hid (letters_len sA sA.size)
  have hlB := Lib.hid (letters_len sB sB.size)
  have hlC := Lib.hid (letters_len sC sC.size)
  clear hth hnew
  go_enter Try.func29, Try.ntmps29
  go_wp2_with fail
  refine Hnew.out.mono ?_
  rintro e w1 ⟨rfl, hT1, hb1⟩
  have HT1 := Lib.hid hT1
  have hb1s := hb1.size
  have Hb1 := Lib.hid hb1
  clear hT1 hb1
  go_wp2_with fail
  refine (txn_any 1 sA w1 (by decide)).mono ?_
  rintro e w2 ⟨A1, c1, rfl, ho1, hb2⟩
  have hT2 := HT1.out.below hb2
  have hws := ws_apart (t := t) ho1 hlA.out (fun k hk => HT1.out.lt hk)
  have Hc := Lib.hid (addA1 t A1 c1 w2 hT2 hws)
  have Hb2 := Lib.hid (Hb1.out.trans (hb2.mono hb1s))
  have hs2 := Hb2.out.size
  clear ho1 hb2 hws hT2
  go_wp2_with fail
  refine Hc.out.mono ?_
  rintro e w3 ⟨rfl, hT3, hK3⟩
  have HT3 := Lib.hid hT3
  have hb3 := Hb2.out.trans (hK3.below hs2 Hth.out)
  have Hb3 := Lib.hid hb3
  have hs3 := hb3.size
  clear hT3 hK3 hb3
  go_wp2_with fail
  refine (txn_any 2 sB w3 (by decide)).mono ?_
  rintro e w4 ⟨A2, c2, rfl, ho1, hb2⟩
  have hT2 := HT3.out.below hb2
  have hws := ws_apart (t := t) ho1 hlB.out (fun k hk => HT3.out.lt hk)
  have Hc2 := Lib.hid (addA2 t A2 c2 w4 hT2 hws)
  have Hbb2 := Lib.hid (Hb3.out.trans (hb2.mono Hb3.out.size))
  have hsb2 := Hbb2.out.size
  clear ho1 hb2 hws hT2
  go_wp2_with fail
  refine Hc2.out.mono ?_
  rintro e w5 ⟨rfl, hT3, hK3⟩
  have HT5 := Lib.hid hT3
  have Hb5 := Lib.hid (Hbb2.out.trans (hK3.below hsb2 Hth.out))
  clear hT3 hK3
  go_wp2_with fail
  refine (txn_any 3 sC w5 (by decide)).mono ?_
  rintro e w6 ⟨A3, c3, rfl, ho1, hb2⟩
  have hT2 := HT5.out.below hb2
  have hws := ws_apart (t := t) ho1 hlC.out (fun k hk => HT5.out.lt hk)
  have Hc3 := Lib.hid (addA3 t A3 c3 w6 hT2 hws)
  have Hbb3 := Lib.hid (Hb5.out.trans (hb2.mono Hb5.out.size))
  have hsb3 := Hbb3.out.size
  clear ho1 hb2 hws hT2
  go_wp2_with fail
  refine Hc3.out.mono ?_
  rintro e w7 ⟨rfl, hT3, hK3⟩
  have HT7 := Lib.hid hT3
  have Hb7 := Lib.hid (Hbb3.out.trans (hK3.below hsb3 Hth.out))
  clear hT3 hK3
  go_wp2_with fail
  refine (waits_inv t 3 w7 HT7.out (by omega) (by omega) (by omega) rfl).mono ?_
  rintro e w8 ⟨v8, rfl, ho8, hb8⟩
  rw [depA3] at ho8
  obtain ⟨A8, c8, rfl, hr8, -, -⟩ := rowAt_own (len_int _) (show w8.ownsRow w7.heap.size 3 1 v8 (ints [1, 2]).length ((ints [1, 2]).flatMap Icell) from ho8)
  have HT8 := Lib.hid (HT7.out.below hb8)
  have Hb8 := Lib.hid (Hb7.out.trans (hb8.mono Hb7.out.size))
  have Hr8 := Lib.hid hr8
  clear ho8 hb8 hr8
  go_wp2_with fail
  obtain ⟨d8, hd8, hi8⟩ := HT8.out
  have hbusy := tdone_busy t d8 3 2 w8 hd8 (by have := hi8.opn 3; rw [if_pos ⟨by omega, by omega, rfl⟩, show (3 : Int).toNat = 3 from rfl, depA3] at this; exact this) (by omega)
  have Hbusy := Lib.hid hbusy
  clear hbusy hd8 hi8
  refine Hbusy.out.mono ?_
  rintro e w9 ⟨rfl, rfl⟩
  go_wp2_with fail
  have hb9 : Below w9.heap.size w9 (w9.alloc (.cells #[.int .i64 1, .int .i64 2] 3)) := bel_alloc (Below.refl _ _) _
  refine (sameI_any A8 2 c8 (some ⟨w9.heap.size, 0, none⟩) 2 [1, 2] _ ((Hr8.out.below hb9).more hb9.size) (by exact rowAt_block [1, 2] (len_int _) (blk_new _ _) (by simp) (fun j u hu => by simpa [Icell] using hu)) (by omega)).mono ?_
  rintro e w10 ⟨rfl, hb10⟩
  have hb10' : Below w9.heap.size w9 w10 := hb9.trans (hb10.mono (by simp))
  have HT10 := Lib.hid (HT8.out.below hb10')
  have Hb10 := Lib.hid (Hb8.out.trans (hb10'.mono Hb8.out.size))
  clear hb9 hb10 hb10'
  go_wp2_with fail
  have hl := last_inv t sA w10 HT10.out
  rw [lastA] at hl
  have Hlast := Lib.hid hl
  clear hl
  refine Hlast.out.mono ?_
  rintro e w11 ⟨rfl, rfl⟩
  go_wp2_with fail
  go_ret
  exact ⟨rfl, Hb10.out⟩
end Go.Proofs.Ytdcnaieieggclaa

/- law11: two neighbours. -/
namespace Go.Proofs.Ytdcnaieieggclaa
open Go.RowKit
set_option linter.unusedVariables false
set_option linter.unusedSimpArgs false

open Go.Maps
set_option maxRecDepth 100000
set_option maxHeartbeats 4000000
theorem near_any (r1 r2 : RTx) (w : World) (h1 : WsAt w w.heap.size r1.A r1.len r1.ws) (h2 : WsAt w w.heap.size r2.A r2.len r2.ws) (hl1 : r1.len ≤ 4398046511104) (hl2 : r2.len ≤ 4398046511104) :
    Calls Try.prog 35 #[r1.v, r2.v] w fun e w' => e = .returned (.bool (neighB r1.ws r2.ws)) ∧ Below w.heap.size w w' := by
  obtain ⟨W, hW⟩ : ∃ W : World, W = (w.alloc (.cells #[.int .i64 r1.number, .slice r1.A r1.len r1.cap] 37)).alloc (.cells #[.int .i64 r2.number, .slice r2.A r2.len r2.cap] 37) := ⟨_, rfl⟩
  have hx : ∀ X, Below W.heap.size W X → X.cell? ⟨w.heap.size, 1, none⟩ = some (.slice r1.A r1.len r1.cap) ∧ X.cell? ⟨w.heap.size + 1, 1, none⟩ = some (.slice r2.A r2.len r2.cap) ∧ WsAt X X.heap.size r1.A r1.len r1.ws ∧ WsAt X X.heap.size r2.A r2.len r2.ws ∧ Below w.heap.size w X := fun X hX => by
    have hz : W.heap.size = w.heap.size + 2 := by rw [hW]; simp
    have hb : Below w.heap.size w X := (by rw [hW]; exact bel_alloc (bel_alloc (Below.refl _ _) _) _ : Below w.heap.size w W).trans (hX.mono (by omega))
    have q1 := (hX.block w.heap.size (by omega)).trans (show W.heap[w.heap.size]? = some (.cells #[.int .i64 r1.number, .slice r1.A r1.len r1.cap] 37 (0, 0)) by rw [hW]; exact (Below.heap_alloc _ _ _ (by simp)).trans (blk_new _ _))
    have q2 := (hX.block (w.heap.size + 1) (by omega)).trans (show W.heap[w.heap.size + 1]? = some (.cells #[.int .i64 r2.number, .slice r2.A r2.len r2.cap] 37 (0, 0)) by rw [hW]; exact blk_new2 _ _ _)
    have c1 := blk_cell q1 1
    have c2 := blk_cell q2 1
    simp only [List.getElem?_toArray, List.getElem?_cons_zero, List.getElem?_cons_succ] at c1 c2
    exact ⟨c1, c2, (h1.below hb).more hb.size, (h2.below hb).more hb.size, hb⟩
  have HX := Lib.hid hx
  have hn1 := Lib.hid h1.len
  have hn2 := Lib.hid h2.len
  clear hx h1 h2
  unfold RTx.v
  go_enter Try.func35, Try.ntmps35
  go_wp2_with fail
  rw [← hW]
  clear hW
  go_loopw [5] (fun i wr => ∃ k : Nat, k ≤ r1.len ∧ i = .int .i64 k ∧ Hid (∀ x ∈ r1.ws.take k, hasKey r2.ws x.key = false) ∧ Hid (Below W.heap.size W wr)) (fun i _ => r1.len - (RowKit.intOf i).toNat)
  case atStart => exact ⟨0, Nat.zero_le _, rfl, Lib.hid (by simp), Lib.hid (Below.refl _ _)⟩
  case round =>
    obtain ⟨k, hk, rfl, HP, HB⟩ := hrel
    obtain ⟨wo, hwo⟩ : ∃ wo : World, wo = wr := ⟨_, rfl⟩
    subst hwo
    obtain ⟨e1, e2, w1, w2, hb⟩ := HX.out wo HB.out
    have Hbw := Lib.hid hb
    clear hb
    by_cases hkl : k < r1.len
    · obtain ⟨b1, o1, x, hA1, hbl1, hx1, x0, -, -⟩ := WsAt.cell3 w1 hkl
      have Hx1 := Lib.hid hx1
      rw [hA1] at e1
      have HA1 := Lib.hid hA1
      clear w1 w2 hx1 hA1
      go_wp2_with fail
      go_loopw [6] (fun i wi => ∃ q : Nat, q ≤ r2.len ∧ i = .int .i64 q ∧ Hid (∀ y ∈ r2.ws.take q, keyIs x.key y = false) ∧ Hid (Below wo.heap.size wo wi)) (fun i _ => r2.len - (RowKit.intOf i).toNat)
      case atStart => exact ⟨0, Nat.zero_le _, rfl, Lib.hid (by simp), Lib.hid (Below.refl _ _)⟩
      case round =>
        obtain ⟨q, hq, rfl, HQ, HBi⟩ := hrel
        have hs0 := HB.out.size
        obtain ⟨f1, f2, w1, w2, hb⟩ := HX.out wr (HB.out.trans (HBi.out.mono hs0))
        have Hbi := Lib.hid hb
        rw [HA1.out] at f1
        have x0 := (HBi.out.cell (p := ⟨b1, o1 + k * 3, none⟩) hbl1).trans x0
        clear hb
        by_cases hql : q < r2.len
        · obtain ⟨b2, o2, y, hA2, hbl2, hx2, y0, -, -⟩ := WsAt.cell3 w2 hql
          have Hx2 := Lib.hid hx2
          rw [hA2] at f2
          clear w1 w2 hx2 hA2
          have hkk : (x.key.toList == y.key.toList) = keyIs x.key y := by unfold keyIs; exact Bool.beq_comm
          have hnx : keyIs x.key y = false → ∀ z ∈ r2.ws.take (q + 1), keyIs x.key z = false := fun hf z hz => by
            rw [List.take_add_one, Hx2.out] at hz
            rcases List.mem_append.1 hz with hz | hz
            · exact HQ.out z hz
            · simp at hz; subst hz; exact hf
          have hyes : keyIs x.key y = true → neighB r1.ws r2.ws = true := fun ht => by
            unfold neighB hasKey
            exact List.any_eq_true.2 ⟨x, List.mem_of_getElem? Hx1.out, List.any_eq_true.2 ⟨y, List.mem_of_getElem? Hx2.out, ht⟩⟩
          generalize keyIs x.key y = kv at hkk hnx hyes
          have Hnx := Lib.hid hnx
          have Hyes := Lib.hid hyes
          clear hnx hyes
          cases kv
          · go_wp2_with fail
            go_quiet (fail)
            go_wp2_with fail
            exact ⟨⟨q + 1, by omega, by go_num, Lib.hid (Hnx.out trivial), Lib.hid (below_drewN HBi.out _)⟩, by simp [RowKit.intOf]; omega⟩
          · go_wp2_with fail
            go_quiet (fail)
            go_wp2_with fail
            go_ret
            exact ⟨by rw [Hyes.out trivial]; rfl, below_drewN Hbi.out _⟩
        · obtain rfl : q = r2.len := by omega
          clear w1 w2
          go_wp2_with fail
          refine ⟨⟨k + 1, by omega, by go_num, Lib.hid ?_, Lib.hid (HB.out.trans (HBi.out.mono hs0))⟩, by simp [RowKit.intOf]; omega⟩
          intro z hz
          rw [List.take_add_one, Hx1.out] at hz
          rcases List.mem_append.1 hz with hz | hz
          · exact HP.out z hz
          · simp at hz; subst hz
            unfold hasKey
            have := HQ.out
            rw [List.take_of_length_le (by rw [hn2.out]; exact Nat.le_refl _)] at this
            rw [← Bool.not_eq_true, List.any_eq_true]
            rintro ⟨y, hy, e⟩
            rw [this y hy] at e; cases e
    · obtain rfl : k = r1.len := by omega
      clear w1 w2
      go_wp2_with fail
      go_ret
      refine ⟨?_, Hbw.out⟩
      have := HP.out
      rw [List.take_of_length_le (by rw [hn1.out]; exact Nat.le_refl _)] at this
      have hno : neighB r1.ws r2.ws = false := by
        unfold neighB
        rw [← Bool.not_eq_true, List.any_eq_true]
        rintro ⟨y, hy, e⟩
        rw [this y hy] at e; cases e
      rw [hno]; rfl
end Go.Proofs.Ytdcnaieieggclaa

/- DepsLast: plain words: what a new one must wait for. -/
namespace Go.Proofs.Ytdcnaieieggclaa
open Go.RowKit
set_option linter.unusedVariables false
set_option linter.unusedSimpArgs false

open Go.Maps Go.Sort
def wantB (rs : List RTx) (ws : List Wr) (m b : Nat) : Bool := ws.any fun x => decide (lastN rs x.key m = b)
def wantL (rs : List RTx) (ws : List Wr) (m : Nat) (op : List Nat) (s : Nat) : List Nat := ((op.drop s).filter (wantB rs ws m)).reverse
theorem wantB_iff {rs : List RTx} {ws : List Wr} {m b : Nat} : wantB rs ws m b = true ↔ ∃ x ∈ ws, lastN rs x.key m = b := by
  unfold wantB; rw [List.any_eq_true]; simp only [decide_eq_true_eq]
theorem wantB_no {rs : List RTx} {ws : List Wr} {m b : Nat} (h : ∀ x ∈ ws, lastN rs x.key m ≠ b) : wantB rs ws m b = false := by
  rw [← Bool.not_eq_true, wantB_iff]; rintro ⟨x, hx, e⟩; exact h x hx e
theorem depL_next {rs : List RTx} {m : Nat} {r : RTx} (E : Nat → Bool) (hr : rs[m]? = some r) : depL rs E (m + 1) = (openL m E).filter (wantB rs r.ws m) := by
  unfold depL openL
  rw [List.filter_filter]
  refine List.filter_congr fun b hb => ?_
  unfold depB wantB
  rw [Nat.add_sub_cancel, wsOf_at hr]
  cases decide (1 ≤ b) <;> cases E b <;> simp
theorem wantL_end (rs : List RTx) (ws : List Wr) (m : Nat) (op : List Nat) : wantL rs ws m op op.length = [] := by simp [wantL]
theorem wantL_step {rs : List RTx} {ws : List Wr} {m : Nat} {op : List Nat} {s b : Nat} (h : op[s]? = some b) : wantL rs ws m op s = wantL rs ws m op (s + 1) ++ if wantB rs ws m b = true then [b] else [] := by
  unfold wantL
  rw [drop_get h, List.filter_cons]
  split <;> simp
theorem wantL_zero {rs : List RTx} {m : Nat} {r : RTx} (E : Nat → Bool) (hr : rs[m]? = some r) : wantL rs r.ws m (openL m E) 0 = (depL rs E (m + 1)).reverse := by
  rw [depL_next E hr]; rfl
theorem wantL_le (rs : List RTx) (ws : List Wr) (m : Nat) (op : List Nat) (s : Nat) : (wantL rs ws m op s).length ≤ op.length := by
  unfold wantL; rw [List.length_reverse]
  exact Nat.le_trans (List.length_filter_le _ _) (by simp)
theorem openL_le (m : Nat) (E : Nat → Bool) : (openL m E).length ≤ m + 1 := by
  unfold openL; exact Nat.le_trans (List.length_filter_le _ _) (by simp)
theorem lastN_now {rs : List RTx} {m : Nat} {r : RTx} (hr : rs[m]? = some r) {x : Wr} (hx : x ∈ r.ws) : lastN rs x.key (m + 1) = m + 1 := by
  have hk : hasKey (wsOf rs m) x.key = true := (hasKey_iff _ _).2 ⟨x, by rw [wsOf_at hr]; exact hx, rfl⟩
  rcases Nat.lt_or_ge (lastN rs x.key (m + 1)) (m + 1) with h | h
  · have := lastN_gap rs x.key (m + 1) m (by omega) (by omega)
    rw [hk] at this; cases this
  · have := lastN_le rs x.key (m + 1); omega
/-- The least open one waits for none. -/
theorem head_free {rs : List RTx} {m n : Nat} {E : Nat → Bool} {l : List Nat} (h : openL m E = n :: l) : 1 ≤ n ∧ n ≤ m ∧ E n = false ∧ depL rs E n = [] := by
  have hm : n ∈ openL m E := by rw [h]; simp
  obtain ⟨h1, h2, h3⟩ := mem_openL.1 hm
  refine ⟨h1, h2, h3, List.eq_nil_iff_forall_not_mem.2 fun b hb => ?_⟩
  obtain ⟨hd, hb2⟩ := mem_depL.1 hb
  have hlt := dep_lt hd
  have hbm : b ∈ openL m E := mem_openL.2 ⟨hlt.1, by omega, hb2⟩
  have hr := openL_rises m E
  rw [h] at hbm hr
  rcases List.mem_cons.1 hbm with rfl | hbl
  · omega
  · have := (List.pairwise_cons.1 hr).1 b hbl; omega
theorem open_some {m : Nat} {E : Nat → Bool} (h1 : 1 ≤ m) (h : E m = false) : ∃ n l, openL m E = n :: l := by
  have hm : m ∈ openL m E := mem_openL.2 ⟨h1, Nat.le_refl _, h⟩
  cases hl : openL m E with
  | nil => rw [hl] at hm; cases hm
  | cons n l => exact ⟨n, l, rfl⟩
theorem ints_len (l : List Nat) : (ints l).length = l.length := by simp [ints]
theorem ints_get {l : List Nat} {i : Nat} {x : Int} (h : (ints l)[i]? = some x) : ∃ n, l[i]? = some n ∧ x = (n : Int) := by
  unfold ints at h
  rw [List.getElem?_map] at h
  cases hl : l[i]? with
  | none => rw [hl] at h; cases h
  | some n => rw [hl] at h; simp at h; exact ⟨n, rfl, h.symm⟩
theorem ints_snoc (l : List Nat) (b : Nat) : (ints (l ++ [b])).flatMap Icell = (ints l).flatMap Icell ++ Icell (b : Int) := by simp [ints]
/-- A list of the walk's own reads as its numbers. -/
theorem own_ints {w : World} {base n : Nat} {v : Value} {l : List Nat} (h : w.ownsRow base 3 1 v n ((ints l).flatMap Icell)) (hn : l.length = n) : ∃ A cap, v = .slice A n cap ∧ RowAt Icell 1 w w.heap.size A n (ints l) ∧ n ≤ cap := by
  have h2 : w.ownsRow base 3 1 v (ints l).length ((ints l).flatMap Icell) := by rw [ints_len, hn]; exact h
  obtain ⟨A, cap, h3, h4, -, h6⟩ := rowAt_own (len_int _) h2
  rw [ints_len, hn] at h3 h4 h6
  exact ⟨A, cap, h3, h4, h6⟩
theorem own_row {w : World} {base n m cap : Nat} {A : Option Addr} {l : List Nat} (h : w.ownsRow base 3 1 (.slice A m cap) n ((ints l).flatMap Icell)) (hn : l.length = n) : RowAt Icell 1 w w.heap.size A n (ints l) := by
  obtain ⟨A', cap', e, h2, -⟩ := own_ints h hn
  injection e with e1 e2 e3
  subst e1
  exact h2
theorem int_at {w : World} {B n i : Nat} {A : Option Addr} {l : List Nat} (h : RowAt Icell 1 w B A n (ints l)) (hi : i < n) : ∃ b off x, A = some ⟨b, off, none⟩ ∧ b < B ∧ l[i]? = some x ∧ w.cell? ⟨b, off + i, none⟩ = some (.int .i64 x) := by
  obtain ⟨b, off, x, e, hb, hx, hc⟩ := h.at_ hi
  obtain ⟨n, hn, rfl⟩ := ints_get hx
  exact ⟨b, off, n, e, hb, hn, by have := hc 0 _ rfl; simpa using this⟩
theorem Tabs.fut {rs : List RTx} {m : Nat} {E : Nat → Bool} {t : TB} {w : World} (h : Tabs rs m E t w) {j : Nat} (hj : m < j) : E j = false := by
  obtain ⟨d, -, h2⟩ := h; exact h2.fut j hj
def Ucell (x : Nat) : List Value := [.int .u8 x]
end Go.Proofs.Ytdcnaieieggclaa

/- A slice of bytes that came in, opened with the bounds that the form's own reach gives. Over any program. -/
namespace Go.Proofs.Ytdcnaieieggclaa
open Go.RowKit
set_option linter.unusedVariables false
set_option linter.unusedSimpArgs false

open Go.ChangeShapes Go.WideShapes Go.ChangeAt Go.Deep Go.Joins
section
variable {H : Type} {enc : TypeId × Value → H} {P : Program} {w : World} {base : Nat} {spare : Nat → Bool} {held : Bool}
theorem u8_bd {n : Int} (h : (Lit.int .u8 n).wf = true) : 0 ≤ n ∧ n ≤ 255 := by simp [Lit.wf, IntKind.min, IntKind.max, IntKind.signed, IntKind.bits] at h; omega
theorem open_u8 {t e : TypeId} {fuel : Nat} {A : Option Addr} {len cap : Nat} {x : DataW H × List MemPlace} (ht : P.underlying t = some (.slice e)) (he : P.underlying e = some (.int .u8)) (hC : P.cellsOf e = 1) (hB : P.bytesOf e = 1)
    (h : DataW.trod enc P w base spare held fuel t [.slice A len cap] = some x) (hwt : Wt P t x.1) : ∃ l : List Nat, RowAt Ucell 1 w w.heap.size A len l ∧ len ≤ cap ∧ len ≤ 140737488351232 ∧ (∀ n ∈ l, n ≤ 255) := by
  rcases open_ints ht he hC h with ⟨hcs, hx⟩ | ⟨a, len', cap', zs, hcs, hb, hl, hm, hz, hx, hcell, hwz⟩
  · simp at hcs
    obtain ⟨rfl, rfl, rfl⟩ := hcs
    exact ⟨[], RowAt.nil_, Nat.le_refl _, by simp, by simp⟩
  · simp at hcs
    obtain ⟨rfl, rfl, rfl⟩ := hcs
    have hby : len ≤ 140737488351232 := by
      rw [hx] at hwt
      have := wt_slice ht hwt
      rw [hB] at this
      simp only [lits, List.length_map, List.length_take, List.length_drop, reachBytes] at this
      split at hz <;> omega
    have hlz : len ≤ zs.length := by rw [hz]; split <;> omega
    refine ⟨(zs.take len).map Int.toNat, ⟨by simp; omega, fun hpos => ?_⟩, hl, hby, fun n hn => ?_⟩
    · have h0 := hcell 0 (by omega)
      obtain ⟨b, off, rfl⟩ := spot_add (World.cell?_spot h0)
      refine ⟨b, off, rfl, by simpa [Addr.add] using World.block_lt_of_cell? w _ h0, fun i x hx j u hu => ?_⟩
      rw [List.getElem?_map] at hx
      have hi : i < len := by
        rcases Nat.lt_or_ge i (zs.take len).length with h | h
        · have := List.length_take_le len zs; omega
        · rw [List.getElem?_eq_none h] at hx; cases hx
      have h1 := hcell i (by omega)
      rw [List.getElem?_take_of_lt hi] at hx
      have hzi : zs[i]? = some (zs[i]'(by omega)) := List.getElem?_eq_getElem _
      rw [hzi] at hx
      simp only [Option.map_some, Option.some.injEq] at hx
      have hbd := u8_bd (hwz _ (List.getElem_mem (show i < zs.length by omega)))
      match j, hu with
      | 0, hu =>
        simp [Ucell] at hu
        rw [Addr.add_lit] at h1
        simp only [Nat.mul_one, Nat.add_zero]
        rw [h1, ← hu, ← hx]
        simp only [List.getD, hzi, Option.getD_some]
        rw [Int.toNat_of_nonneg hbd.1]
    · obtain ⟨z, hz2, rfl⟩ := List.mem_map.1 hn
      have := u8_bd (hwz z (List.mem_of_mem_take hz2)); omega
end
end Go.Proofs.Ytdcnaieieggclaa


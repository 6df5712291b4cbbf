/- Lemmas and contracts of functions that statements of this seat stand on, many texts in one; each holds under the premises typed in its head. -/
import Derived.Test.YtfpcgfgofemhoaaGreatPR
import Derived.Test.YtfpcgfgofemhoaaGreatPA
import Derived.Test.YtfpcgfgofemhoaaGreatPT
import Derived.Test.YtfpcgfgofemhoaaGreatShC
import Derived.Test.YtfpcgfgofemhoaaGreatPW
/- towpathref09: the shard's memory; place, at, Get, Own, All. -/
namespace Go.Proofs.YtfpcgfgofemhoaaGreat
open Go.RowKit
set_option linter.unusedVariables false
set_option linter.unusedSimpArgs false

set_option maxRecDepth 100000
theorem key_any (k : ByteArray) (w : World) :
    Calls Tryz.prog 88 #[.string k] w fun e w' => e = .returned (.bool (keyB k)) ∧ w = w' := by
    go_enter Tryz.func88, Tryz.ntmps88
    go_wp2
    all_goals go_ret
    all_goals exact ⟨ret_bool (by simp only [keyB]; grind), rfl⟩
theorem val_any (k : ByteArray) (w : World) :
    Calls Tryz.prog 97 #[.string k] w fun e w' => e = .returned (.bool (valB k)) ∧ w = w' := by
  go_enter Tryz.func97, Tryz.ntmps97
  go_wp2
  go_ret
  exact ⟨ret_bool (by simp only [valB]; grind), rfl⟩
def numB (n : Int) : Bool := decide (1 ≤ n) && decide (n ≤ 65536)
theorem num_any (n : Int) (w : World) :
    Calls Tryz.prog 71 #[.int .i64 n] w fun e w' => e = .returned (.bool (numB n)) ∧ w = w' := by
    go_enter Tryz.func71, Tryz.ntmps71
    go_wp2
    all_goals go_ret
    all_goals exact ⟨ret_bool (by simp only [numB]; grind), rfl⟩
set_option maxHeartbeats 400000 in
theorem refwr_any (x : Wr) (w : World) :
    Calls Tryz.prog 72 #[x.v] w fun e w' => e = .returned (.bool (wrB x)) ∧ Below w.heap.size w w' := by
  obtain ⟨k, v, d⟩ := x
  have hfin : ∀ (b : Bool) (w' : World), b = (wrB ⟨k, v, d⟩) → Below w.heap.size w w' → (Ending.returned (.bool b) = .returned (.bool (wrB ⟨k, v, d⟩)) ∧ Below w.heap.size w w') := fun b w' h h' => ⟨by rw [h], h'⟩
  have Hf := Lib.hid hfin
  clear hfin
  unfold Wr.v
  go_enter Tryz.func72, Tryz.ntmps72
  go_wp2_with (first | (go_at_call 88; refine (key_any _ _).mono ?_; rintro e w' ⟨rfl, rfl⟩) | (go_at_call 97; refine (val_any _ _).mono ?_; rintro e w' ⟨rfl, rfl⟩))
  all_goals go_ret
  all_goals refine Hf.out _ _ ?_ ((Below.refl _ _).alloc (Nat.le_refl _) _)
  all_goals (clear Hf)
  all_goals (simp only [wrB] at *; grind)
theorem rin_any (k key fin : ByteArray) (w : World) : Calls Tryz.prog 76 #[.string k, .string key, .string fin] w fun e w' => e = .returned (.bool (inS key fin k)) ∧ w = w' := by
  have hfin : ∀ (b : Bool) (w' : World), b = inS key fin k → w = w' → (Ending.returned (.bool b) = .returned (.bool (inS key fin k)) ∧ w = w') := fun b w' h h' => ⟨by rw [h], h'⟩
  have Hf := Lib.hid hfin
  clear hfin
  cases h1 : ltB k key
  · by_cases h2 : fin.size = 0
    · have h4 : Op.bytesLess k.toList key.toList = false := by rw [less_eq, h1]
      have Hin := Lib.hid (show true = inS key fin k by simp [inS, h1, h2])
      have H1 := Lib.hid h1
      clear h1
      go_enter Tryz.func76, Tryz.ntmps76
      go_wp2_with fail
      go_ret
      exact Hf.out _ _ Hin.out rfl
    · have h4 : Op.bytesLess k.toList key.toList = false := by rw [less_eq, h1]
      have Hin := Lib.hid (show ltB k fin = inS key fin k by simp [inS, h1, h2])
      have hls := less_eq k fin
      have Hls := Lib.hid hls
      have H1 := Lib.hid h1
      have h5 : ((fin.size : Int) == 0) = false := by rw [beq_eq_false_iff_ne]; omega
      clear h1 hls
      go_enter Tryz.func76, Tryz.ntmps76
      go_wp2_with fail
      go_ret
      exact Hf.out _ _ (by rw [Hls.out]; exact Hin.out) rfl
  · have h4 : Op.bytesLess k.toList key.toList = true := by rw [less_eq, h1]
    have Hin := Lib.hid (show false = inS key fin k by simp [inS, h1])
    have H1 := Lib.hid h1
    clear h1
    go_enter Tryz.func76, Tryz.ntmps76
    go_wp2_with fail
    go_ret
    exact Hf.out _ _ Hin.out rfl
theorem toLk_eq (a b : ByteArray) : (a.toList == b.toList) = decide (a = b) := by
  rw [ByteArray.toList_eq, ByteArray.toList_eq]
  by_cases h : a = b
  · simp [h]
  · simp only [h, decide_false, beq_eq_false_iff_ne]
    exact fun e => h (kL_inj e)
/-- The row lies in a block of keys with versions, none of it frozen. -/
def TyH (w : World) (A : Option Addr) (n : Nat) : Prop := ∀ a, A = some a → 0 < n → ∃ cs, w.heap[a.block]? = some (.cells cs 70 (0, 0))
/-- What each key of the document's shard has in memory. -/
def HrAt (w : World) (h : HR) : Prop := VsAt w w.heap.size h.A h.len h.vs ∧ h.len ≤ h.cap ∧ (h.A = none → h.cap = 0) ∧ TyV w h.A h.len
/-- The document's shard: its struct lies in s, its keys are a slice of so many; it holds L. -/
def RsAt (w : World) (s : Nat) (A : Option Addr) (n cap : Nat) (L : Hs) : Prop := ∃ hs : List HR,
  w.heap[s]? = some (.cells #[.slice A n cap] 114 (0, 0)) ∧ RowAt HR.cells 2 w w.heap.size A n hs ∧ (∀ h ∈ hs, HrAt w h) ∧ plainR hs = L ∧ HsOk L ∧ n ≤ cap ∧ (A = none → cap = 0) ∧ TyH w A n
section
variable {w w' : World} {s n cap : Nat} {A : Option Addr} {L : Hs} {X : Nat → Prop}
theorem HrAt.kept {h : HR} (hr : HrAt w h) (k : Kept w w' X) (hX : ∀ b, X b → NoV w b) : HrAt w' h :=
  ⟨(VsAt.keptV hr.1 hr.2.2.2 k (Nat.le_refl _) hX).more k.size, hr.2.1, hr.2.2.1, hr.2.2.2.kept k hX⟩
theorem RsAt.ok (h : RsAt w s A n cap L) : HsOk L := by obtain ⟨hs, -, -, -, -, h5, -⟩ := h; exact h5
theorem RsAt.lt (h : RsAt w s A n cap L) : s < w.heap.size := by obtain ⟨hs, h1, -⟩ := h; exact blk_lt h1
theorem RsAt.len (h : RsAt w s A n cap L) : L.length = n := by
  obtain ⟨hs, -, h2, -, rfl, -⟩ := h
  have := h2.len
  simp [plainR, this]
theorem RsAt.cell (h : RsAt w s A n cap L) : w.cell? ⟨s, 0, none⟩ = some (.slice A n cap) := by obtain ⟨hs, h1, -⟩ := h; exact blk_cell h1 0
theorem RsAt.kept (h : RsAt w s A n cap L) (k : Kept w w' X) (hX : ∀ b, X b → b ≠ s ∧ NoV w b ∧ ∀ a, A = some a → 0 < n → b ≠ a.block) : RsAt w' s A n cap L := by
  obtain ⟨hs, h1, h2, h3, h4, h5, h6, h7, h8⟩ := h
  refine ⟨hs, k.blk h1 (blk_lt h1) (fun hx => (hX _ hx).1 rfl), (h2.keptB (Nat.le_refl _) k (fun a e hn hx => (hX _ hx).2.2 a e hn rfl)).more k.size, fun r hr => (h3 r hr).kept k (fun b hb => (hX b hb).2.1), h4, h5, h6, h7, fun a e hn => ?_⟩
  obtain ⟨cs, hc⟩ := h8 a e hn
  exact ⟨cs, k.blk hc (blk_lt hc) (fun hx => (hX _ hx).2.2 a e hn rfl)⟩
theorem RsAt.below (h : RsAt w s A n cap L) (hb : Below w.heap.size w w') : RsAt w' s A n cap L := h.kept (X := fun _ => False) (Kept.of_below hb) (fun b hb => hb.elim)
/-- One key as it lies in memory. -/
theorem RsAt.at_ {i : Nat} (h : RsAt w s A n cap L) (hi : i < n) : ∃ b off x, A = some ⟨b, off, none⟩ ∧ b < w.heap.size ∧ L[i]? = some (x.key, x.vs) ∧ w.cell? ⟨b, off + i * 2, none⟩ = some (.string x.key) ∧ w.cell? ⟨b, off + i * 2 + 1, none⟩ = some (.slice x.A x.len x.cap) ∧ HrAt w x ∧ chkB x.vs = true ∧ x.len ≤ 65536 := by
  obtain ⟨hs, h1, h2, h3, rfl, h5, -⟩ := h
  obtain ⟨b, off, x, e, hb, hx, hc⟩ := h2.at_ hi
  have hm := List.mem_of_getElem? hx
  have hp : (plainR hs)[i]? = some (x.key, x.vs) := by simp [plainR, hx]
  have hck := h5.chk _ (List.mem_of_getElem? hp)
  exact ⟨b, off, x, e, hb, hp, hc 0 _ rfl, hc 1 _ rfl, h3 x hm, hck, by have := (h3 x hm).1.len; have := chkB_len hck; simp only at this; omega⟩
end
set_option maxHeartbeats 2000000 in
theorem r9place_any (s : Nat) (A : Option Addr) (n cap : Nat) (L : Hs) (k : ByteArray) (w : World) (h : RsAt w s A n cap L) (hn : n ≤ 3518437208883) :
    Calls Tryz.prog 73 #[.pointer (some ⟨s, 0, none⟩), .string k] w fun e w' => e = .returned (.tuple #[.int .i64 (plN L k : Nat), .bool (plB L k)]) ∧ Below w.heap.size w w' := by
  have H := Lib.hid h
  have Hc := Lib.hid (fun X (hX : Below w.heap.size w X) => (h.below hX).cell)
  have hlen := Lib.hid h.len
  clear h
  go_enter Tryz.func73, Tryz.ntmps73
  go_wp2_with fail
  go_loopw [6] (fun i wr => ∃ j : Nat, j ≤ n ∧ i = .int .i64 j ∧ Hid (∀ p ∈ L.take j, ltB p.1 k = true) ∧ Hid (Below w.heap.size w wr)) (fun i _ => n - (RowKit.intOf i).toNat)
  case atStart => exact ⟨0, Nat.zero_le _, rfl, Lib.hid (by simp), Lib.hid (Below.refl _ _)⟩
  case round =>
    obtain ⟨j, hj, rfl, Ha, HB⟩ := hrel
    have c0 := Hc.out wr HB.out
    by_cases hlt : j < n
    · obtain ⟨b, off, x, rfl, hbl, hx, x0, -, -⟩ := (H.out.below HB.out).at_ hlt
      cases hk : ltB x.key k
      · have Hp := Lib.hid (plN_at hx hk Ha.out)
        have Hpb : Hid (plB L k = decide (x.key = k)) := Lib.hid (by unfold plB; rw [Hp.out, hx])
        have h4 : Op.bytesLess x.key.toList k.toList = false := by rw [less_eq, hk]
        have HBq : Hid (∀ m, Below w.heap.size w (wr.drewN m)) := Lib.hid (fun m => below_drewN HB.out m)
        clear hx hk
        go_upto_region 5 with fail
        go_quiet (fail)
        go_wp2_with fail
        go_ret2
        exact ⟨by rw [Hp.out, Hpb.out, ← toLk_eq]; rfl, HBq.out _⟩
      · have h4 : Op.bytesLess x.key.toList k.toList = true := by rw [less_eq, hk]
        have Ha2 : Hid (∀ p ∈ L.take (j + 1), ltB p.1 k = true) := Lib.hid (fun p hp => by
          rw [List.take_add_one, hx] at hp
          rcases List.mem_append.1 hp with hp | hp
          · exact Ha.out p hp
          · simp at hp; subst hp; exact hk)
        clear hx hk
        go_wp2_with fail
        exact ⟨⟨j + 1, by omega, by go_num, Ha2, HB⟩, by simp [RowKit.intOf]; omega⟩
    · obtain rfl : j = n := by omega
      have Hp : Hid (plN L k = j) := Lib.hid (by rw [← hlen.out]; exact plN_end (by have := Ha.out; rwa [List.take_of_length_le (by rw [hlen.out]; exact Nat.le_refl _)] at this))
      have Hpb : Hid (plB L k = false) := Lib.hid (by unfold plB; rw [Hp.out, List.getElem?_eq_none (by rw [hlen.out]; exact Nat.le_refl _)])
      go_wp2_with fail
      go_ret2
      exact ⟨by rw [Hp.out, Hpb.out]; rfl, HB.out⟩
/-- What 'at' answers. -/
def gotA (vs : List Ver) (m : Int) : ByteArray := if (getV vs m).2 then (getV vs m).1 else ⟨#[]⟩
set_option maxHeartbeats 2000000 in
theorem r9at_any (A : Option Addr) (len cap : Nat) (vs : List Ver) (m : Int) (w : World) (hw : VsAt w w.heap.size A len vs) (hl : len ≤ 65536) (hc : chkB vs = true) :
    Calls Tryz.prog 75 #[.slice A len cap, .int .i64 m] w fun e w' => e = .returned (.tuple #[.string (gotA vs m), .bool (getV vs m).2]) ∧ Below w.heap.size w w' := by
  have hat := r8at_any A len cap vs m w hw (by omega) hc
  have Hat := Lib.hid hat
  have hgd : gotA vs m = if (getV vs m).2 then (getV vs m).1 else ⟨#[]⟩ := rfl
  have Hgd := Lib.hid hgd
  have hfin : ∀ (a : ByteArray) (b : Bool) (X : World), (getV vs m).2 = b → (gotA vs m) = a → Below w.heap.size w X → (Ending.returned (.tuple #[.string a, .bool b]) = .returned (.tuple #[.string (gotA vs m), .bool (getV vs m).2]) ∧ Below w.heap.size w X) := fun a b X h1 h2 h3 => by subst h1 h2; exact ⟨rfl, h3⟩
  have Hf := Lib.hid hfin
  clear hat hw hfin hgd
  go_enter Tryz.func75, Tryz.ntmps75
  go_wp2_with fail
  refine Hat.out.mono ?_
  rintro e w1 ⟨rfl, hb1⟩
  have Hb1 := Lib.hid hb1
  clear hb1 Hat
  have hv : (atA vs m).v = .agg #[.int .i64 (atA vs m).num, .string (atA vs m).val, .bool (atA vs m).drop] := rfl
  rw [hv]
  clear hv
  cases ha : atV vs m with
  | none =>
    have hA : atA vs m = ⟨0, ⟨#[]⟩, false⟩ := by unfold atA; rw [ha]; rfl
    have Hg : Hid (getV vs m = (ByteArray.empty, false)) := Lib.hid (by unfold getV; rw [ha])
    rw [hA]
    simp only [Option.isSome_none]
    have hnew := blk_new w1 (.cells #[.int .i64 0, .string ⟨#[]⟩, .bool false] 104)
    have c2 := blk_cell hnew 2
    have Hbb : Hid (∀ o, Below w.heap.size w (w1.alloc o)) := Lib.hid (fun o => bel_alloc Hb1.out o)
    have Hbs : Hid (∀ o (a b c : Value), Below w.heap.size w ((((w1.alloc o).setCell ⟨w1.heap.size, 0, none⟩ a).setCell ⟨w1.heap.size, 1, none⟩ b).setCell ⟨w1.heap.size, 2, none⟩ c)) := Lib.hid (fun o a b c => bel_set (bel_set (bel_set (bel_alloc Hb1.out o) Hb1.out.size a) Hb1.out.size b) Hb1.out.size c)
    clear ha hA hnew
    go_wp2_with fail
    go_ret2
    refine ⟨by rw [Hgd.out, Hg.out]; rfl, ?_⟩
    first | exact Hbs.out _ _ _ _ | exact Hbb.out _ | exact Hb1.out | trace_state
  | some x =>
    have hA : atA vs m = x := by unfold atA; rw [ha]; rfl
    have Hg : Hid (getV vs m = (x.val, !x.drop)) := Lib.hid (by unfold getV; rw [ha])
    rw [hA]
    simp only [Option.isSome_some]
    obtain ⟨num, val, drop⟩ := x
    have Hbb : Hid (∀ o, Below w.heap.size w (w1.alloc o)) := Lib.hid (fun o => bel_alloc Hb1.out o)
    have Hbs : Hid (∀ o (a b c : Value), Below w.heap.size w ((((w1.alloc o).setCell ⟨w1.heap.size, 0, none⟩ a).setCell ⟨w1.heap.size, 1, none⟩ b).setCell ⟨w1.heap.size, 2, none⟩ c)) := Lib.hid (fun o a b c => bel_set (bel_set (bel_set (bel_alloc Hb1.out o) Hb1.out.size a) Hb1.out.size b) Hb1.out.size c)
    clear ha hA
    simp only at Hg ⊢
    cases drop
    · go_wp2_with fail
      go_ret2
      refine ⟨by rw [Hgd.out, Hg.out]; rfl, ?_⟩
      first | exact Hbs.out _ _ _ _ | exact Hbb.out _ | exact Hb1.out | trace_state
    · go_wp2_with fail
      go_ret2
      refine ⟨by rw [Hgd.out, Hg.out]; rfl, ?_⟩
      first | exact Hbs.out _ _ _ _ | exact Hbb.out _ | exact Hb1.out | trace_state
end Go.Proofs.YtfpcgfgofemhoaaGreat

/- towpathref09: Get, Own, All, Scan. -/

namespace Go.Proofs.YtfpcgfgofemhoaaGreat
open Go.RowKit
set_option linter.unusedVariables false
set_option linter.unusedSimpArgs false

set_option maxRecDepth 100000
set_option maxHeartbeats 2000000 in
theorem r9get_any (s : Nat) (A : Option Addr) (n cap : Nat) (L : Hs) (k : ByteArray) (m : Int) (w : World) (h : RsAt w s A n cap L) (hn : n ≤ 3518437208883) :
    Calls Tryz.prog 36 #[.pointer (some ⟨s, 0, none⟩), .string k, .int .i64 m] w fun e w' => e = .returned (.tuple #[.string (gotA (hget L k) m), .bool (getV (hget L k) m).2]) ∧ Below w.heap.size w w' := by
  have H := Lib.hid h
  have Hpl := Lib.hid (r9place_any s A n cap L k w h hn)
  have hlen := Lib.hid h.len
  have hok := Lib.hid h.ok
  clear h
  go_enter Tryz.func36, Tryz.ntmps36
  go_wp2_with fail
  refine Hpl.out.mono ?_
  rintro e w1 ⟨rfl, hb1⟩
  have HB := Lib.hid hb1
  clear hb1
  cases hp : plB L k
  · have Hg : Hid (hget L k = []) := Lib.hid (plB_nil hok.out hp)
    clear hp
    go_wp2_with fail
    go_ret2
    exact ⟨by rw [Hg.out]; rfl, HB.out⟩
  · have hat := plB_at hok.out hp
    have hlt : plN L k < n := by have := (List.getElem?_eq_some_iff.1 hat).1; rw [hlen.out] at this; exact this
    obtain ⟨b, off, x, hA, hbl, hx, x0, x1, hr, hck, hxl⟩ := (H.out.below HB.out).at_ hlt
    have hxe : x.vs = hget L k := by rw [hat] at hx; injection hx with hx; injection hx with h1 h2; exact h2.symm
    have c0 := (H.out.below HB.out).cell
    rw [hA] at c0
    have Hat := Lib.hid (r9at_any x.A x.len x.cap x.vs m w1 hr.1 hxl hck)
    rw [hxe] at Hat
    have hi1 : (0 : Int) ≤ (plN L k : Int) := by omega
    have hi2 : (plN L k : Int) < (n : Int) := by omega
    generalize plN L k = i at *
    clear hat hx hp hxe hr hck x0
    go_wp2_with fail
    refine Hat.out.mono ?_
    rintro e w2 ⟨rfl, hb2⟩
    have HB2 := Lib.hid (HB.out.trans (hb2.mono HB.out.size))
    clear hb2
    go_wp2_with fail
    go_ret2
    exact ⟨rfl, HB2.out⟩
set_option maxHeartbeats 8000000 in
theorem r9own_any (A : Option Addr) (len cap : Nat) (hs : List HR) (w : World) (hw : HdsAt w w.heap.size A len hs) (hl : len ≤ 3518437208883) (hlv : ∀ h ∈ hs, h.len ≤ 4398046511104) :
    Calls Tryz.prog 58 #[.slice A len cap] w (HeldsEnd w (plainR hs)) := by
  have Hlow := Lib.hid (fun X (hX : Below w.heap.size w X) => (hw.below hX).more hX.size)
  have Hlv := Lib.hid hlv
  have hlen := Lib.hid hw.1.len
  obtain ⟨i0, hi, hz0, hz1, hz2⟩ := info_parts info_held
  obtain ⟨i1, hv, hv0, hv1, hv2⟩ := info_parts info_ver
  clear hw hlv
  go_enter Tryz.func58, Tryz.ntmps58
  go_wp2_with fail
  go_loopw [3, 4] (fun v0 i wr => ∃ (j : Nat) (v : Value) (gs : List HR), v = v0 ∧ j ≤ len ∧ gs.length = j ∧ i = .int .i64 j ∧ Hid (HRow wr w.heap.size v gs) ∧ Hid (plainR gs = plainR (hs.take j)) ∧ Hid (Below w.heap.size w wr)) (fun _ i _ => len - (RowKit.intOf i).toNat)
  case atStart => exact ⟨0, _, [], rfl, Nat.zero_le _, rfl, rfl, Lib.hid (HRow.nil _ _), Lib.hid rfl, Lib.hid (Below.refl _ _)⟩
  case round =>
    obtain ⟨j, v, gs, rfl, hj, hgl, rfl, HR0, HP, HB⟩ := hrel
    have hsr := HB.out.size
    by_cases hlt : j < len
    · obtain ⟨b, off, x, rfl, hbl, hx, x0, x1, hxv, hxc, hxn⟩ := (Hlow.out _ HB.out).cell2 hlt
      have hxl := Hlv.out x (List.mem_of_getElem? hx)
      have Htk : Hid (plainR (hs.take (j + 1)) = plainR (hs.take j) ++ [(x.key, x.vs)]) := Lib.hid (by rw [List.take_add_one, hx]; simp [plainR])
      have hvl := hxv.len
      have HX := Lib.hid hxv
      have HN := Lib.hid hxn
      clear hx hxv hxc hxn
      have hnil : wr.ownsRow wr.heap.size 104 3 (.slice none 0 0) 0 [] := World.ownsRow_nil _ _ _ _
      have Hnil := Lib.hid hnil
      clear hnil
      go_wp2_with (at_builtin; refine wpList_append_row (cells := Ver.cells) rfl _ _ 68 rfl wr.heap.size 104 i1 (.agg #[.int .i64 0, .string ⟨#[]⟩, .bool false]) 3 32 Tryz.underlying68 hv hv0 hv1 hv2 rfl (by decide) _ 0 [] rfl Hnil.out x.A x.len x.cap _ x.vs rfl HX.out HN.out (fun _ _ => rfl) (fun y u hu => one_ver y u hu) (by unfold maxLen; omega) (by omega) (Nat.le_refl _) ?_)
      intro v3 w3 hown3 hg3
      have HO3 : Hid (OwnV w3 wr.heap.size v3 x.vs) := Lib.hid (by simpa [OwnV, hvl] using hown3)
      obtain ⟨A3, cap3, hv3, hrow3, hcap3, hnil3⟩ := own_bound HO3.out
      rw [hvl] at hv3
      subst hv3
      have HO4 : Hid (w3.ownsRow wr.heap.size 104 3 (.slice A3 x.len cap3) x.len (x.vs.flatMap Ver.cells)) := Lib.hid (by have := HO3.out; unfold OwnV at this; rwa [hvl] at this)
      have hb3 : Below wr.heap.size wr w3 := (Below.refl _ _).grown hg3 (Nat.le_refl _) (fun k hk => by cases hk)
      have Hb3 := Lib.hid (HB.out.trans (hb3.mono hsr))
      have HR3 := Lib.hid (HR0.out.below hb3)
      have hs3 : wr.heap.size ≤ w3.heap.size := hb3.size
      have x0' : w3.cell? ⟨b, off + j * 2, none⟩ = some (.string x.key) := (hb3.cell (p := ⟨b, off + j * 2, none⟩) hbl).trans x0
      have HMa : Hid (∀ o, HRow (w3.alloc o) w.heap.size v gs) := Lib.hid fun o => HR3.out.below (bel_alloc (Below.refl _ _) o)
      clear hown3 hg3 hb3 hrow3 hcap3 hnil3 x0 x1
      go_wp2_with (at_builtin; refine wpList_append_lies _ rfl (.tmp 19) (.tmp 27) 22 rfl w.heap.size 70 i0 _ 2 40 Tryz.underlying22 hi hz0 hz1 hz2 rfl (by decide) v gs.length (gs.flatMap HR.cells) rfl (HMa.out _).1 ⟨w3.heap.size, 0, none⟩ 1 1 (HR.cells ⟨x.key, A3, x.len, cap3, x.vs⟩) rfl rfl (cells_new w3 _ _) (one_hr _) (by omega) (by unfold maxLen; omega) (by omega) (by simp; omega) _ rfl ?_; intro g4 cap4 w4 hown4 hg4 hat4 hlt4)
      have HB4 : Hid (Below w.heap.size w w4) := Lib.hid (Hb3.out.trans (((Below.refl w.heap.size w3).alloc (by omega) _).grown hg4 (by simp; omega) (fun q hq => ((HMa.out (.cells #[] 0)).1.lt q hq).1)))
      have hadd := HRow.add (r := ⟨x.key, A3, x.len, cap3, x.vs⟩) (HMa.out _) ((ownsRow_base_a HO4.out (by omega)).alloc _) hvl (fun b hb hv => by
        have h1 := (HO4.out.lt b hb).1
        have h2 := (HR0.out.1.lt b hv).2
        omega) hown4 hg4 hat4 (by simp)
      rw [hgl] at hadd
      have Hadd := Lib.hid hadd
      clear hadd hown4 hg4 hat4
      go_wp2_with fail
      exact ⟨⟨j + 1, _, gs ++ [⟨x.key, A3, x.len, cap3, x.vs⟩], rfl, by omega, by simp; omega, by go_num, Hadd, Lib.hid (by rw [Htk.out, ← HP.out]; simp [plainR]), HB4⟩, by simp [RowKit.intOf]; omega⟩
    · obtain rfl : j = len := by omega
      have hP := HP.out
      rw [List.take_of_length_le (by rw [hlen.out]; exact Nat.le_refl _)] at hP
      have HP2 := Lib.hid hP
      clear hP
      go_wp2_with fail
      go_ret
      exact ⟨v, gs, rfl, HR0.out, HP2.out, HB.out⟩
theorem RsAt.hds {w : World} {s n cap : Nat} {A : Option Addr} {L : Hs} (h : RsAt w s A n cap L) : ∃ hs, HdsAt w w.heap.size A n hs ∧ plainR hs = L ∧ ∀ h ∈ hs, h.len ≤ 4398046511104 := by
  obtain ⟨hs, h1, h2, h3, rfl, h5, -⟩ := h
  refine ⟨hs, ⟨h2, fun r hr => ⟨(h3 r hr).1, (h3 r hr).2.1, (h3 r hr).2.2.1⟩⟩, rfl, fun r hr => ?_⟩
  have hck := h5.chk (r.key, r.vs) (List.mem_map.2 ⟨r, hr, rfl⟩)
  have := chkB_len hck
  have := (h3 r hr).1.len
  simp only at *
  omega
theorem r9all_any (s : Nat) (A : Option Addr) (n cap : Nat) (L : Hs) (w : World) (h : RsAt w s A n cap L) (hn : n ≤ 3518437208883) : Calls Tryz.prog 51 #[.pointer (some ⟨s, 0, none⟩)] w (HeldsEnd w L) := by
  have c0 := h.cell
  obtain ⟨hs, h1, rfl, h3⟩ := h.hds
  have Ho := Lib.hid (r9own_any A n cap hs w h1 hn h3)
  clear h h1 h3
  go_enter Tryz.func51, Tryz.ntmps51
  go_wp2_with fail
  refine Ho.out.mono ?_
  rintro e w1 ⟨v, gs, rfl, h4, h5, h6⟩
  have Hr := Lib.hid (show HeldsEnd w (plainR hs) (.returned v) w1 from ⟨v, gs, rfl, h4, h5, h6⟩)
  clear h4 h5 h6
  go_wp2_with fail
  go_ret
  exact Hr.out
set_option maxHeartbeats 8000000 in
theorem r9scan_any (s : Nat) (A : Option Addr) (n cap : Nat) (L : Hs) (key end_ : ByteArray) (mark : Int) (w : World) (h : RsAt w s A n cap L) (hn : n ≤ 3518437208883) :
    Calls Tryz.prog 37 #[.pointer (some ⟨s, 0, none⟩), .string key, .string end_, .int .i64 mark] w (ScanEnd w (scanH L key end_ mark)) := by
  have H := Lib.hid h
  have hlen := Lib.hid h.len
  have hok := Lib.hid h.ok
  have Hc := Lib.hid (fun X (hX : Below w.heap.size w X) => (h.below hX).cell)
  obtain ⟨i0, hi, hz0, hz1, hz2⟩ := info_parts info_en
  have hsl : ∀ j, (scanH (L.take j) key end_ mark).length ≤ j := fun j => Nat.le_trans (List.length_filterMap_le _ _) (by rw [List.length_take]; omega)
  have Hsl := Lib.hid hsl
  clear h hsl
  go_enter Tryz.func37, Tryz.ntmps37
  go_wp2_with fail
  go_loopw [9, 10] (fun v0 i wr => ∃ (j : Nat) (v : Value), v = v0 ∧ j ≤ n ∧ i = .int .i64 j ∧ Hid (OwnE wr w.heap.size v (scanH (L.take j) key end_ mark)) ∧ Hid (Below w.heap.size w wr)) (fun _ i _ => n - (RowKit.intOf i).toNat)
  case atStart => exact ⟨0, _, rfl, Nat.zero_le _, rfl, Lib.hid (World.ownsRow_nil _ _ _ _), Lib.hid (Below.refl _ _)⟩
  case round =>
    obtain ⟨j, v, rfl, hj, rfl, HO, HB⟩ := hrel
    have hsr := HB.out.size
    have c0 := Hc.out wr HB.out
    by_cases hlt : j < n
    · obtain ⟨b, off, x, rfl, hbl, hx, x0, x1, hr, hck, hxl⟩ := (H.out.below HB.out).at_ hlt
      have Htk := Lib.hid (scanH_take (key := key) (end_ := end_) (m := mark) hx)
      have Hat := Lib.hid (r9at_any x.A x.len x.cap x.vs mark wr hr.1 hxl hck)
      have hgd : gotA x.vs mark = if (getV x.vs mark).2 then (getV x.vs mark).1 else ⟨#[]⟩ := rfl
      have hsj := Hsl.out j
      clear hx hr hck
      generalize hS : scanH (L.take j) key end_ mark = S at *
      have hi1 : (0 : Int) ≤ (j : Int) := by omega
      have hi2 : (j : Int) < (n : Int) := by omega
      generalize hgv : getV x.vs mark = gv at *
      obtain ⟨gv1, gv2⟩ := gv
      simp only at Htk Hat hgd
      have Hgd := Lib.hid hgd
      clear hgd hgv hS
      go_wp2_with fail
      refine Hat.out.mono ?_
      rintro e w3 ⟨rfl, hb3⟩
      have x0' : w3.cell? ⟨b, off + j * 2, none⟩ = some (.string x.key) := (hb3.cell (p := ⟨b, off + j * 2, none⟩) hbl).trans x0
      have hs3 := hb3.size
      have HB3 := Lib.hid (HB.out.trans (hb3.mono hsr))
      have c0' := Hc.out w3 HB3.out
      have HO3 : Hid (OwnE w3 w.heap.size v S) := Lib.hid (ownsRow_below HO.out hb3)
      have Hin := Lib.hid (rin_any x.key key end_ w3)
      clear hb3 x0 x1 c0
      cases gv2
      · go_wp2_with fail
        exact ⟨⟨j + 1, _, rfl, by omega, by go_num, Lib.hid (by rw [Htk.out]; simpa using HO3.out), HB3⟩, by simp [RowKit.intOf]; omega⟩
      · generalize hinb : inS key end_ x.key = c at *
        have hgo : gotA x.vs mark = gv1 := by rw [Hgd.out]; rfl
        rw [hgo]
        go_wp2_with fail
        refine Hin.out.mono ?_
        rintro e w4 ⟨rfl, rfl⟩
        cases c
        · go_wp2_with fail
          exact ⟨⟨j + 1, _, rfl, by omega, by go_num, Lib.hid (by rw [Htk.out]; simpa using HO3.out), HB3⟩, by simp [RowKit.intOf]; omega⟩
        · have hbk := blk_new w3 (.cells #[.string x.key, .string gv1] 67)
          have HBk := Lib.hid hbk
          have HOa : Hid (OwnE (w3.alloc (.cells #[.string x.key, .string gv1] 67)) w.heap.size v S) := Lib.hid (HO3.out.alloc _)
          have HBa : Hid (Below w.heap.size w (w3.alloc (.cells #[.string x.key, .string gv1] 67))) := Lib.hid (bel_alloc HB3.out _)
          clear hbk
          go_wp2_with (at_builtin; refine wpList_append_row (cells := EnC) rfl _ _ 54 rfl w.heap.size 67 i0 (.agg #[.string ⟨#[]⟩, .string ⟨#[]⟩]) 2 32 Tryz.underlying54 hi hz0 hz1 hz2 rfl (by decide) v S.length _ rfl HOa.out (some ⟨w3.heap.size, 0, none⟩) 1 1 (w3.heap.size + 1) [(x.key, gv1)] rfl (rowAt_block [(x.key, gv1)] (len_en _) HBk.out (by omega) (fun j u hu => by simpa [EnC] using hu)) (fun h => by cases h) (fun _ _ => rfl) (fun y u hu => one_en y u hu) (by unfold maxLen; omega) (by omega) (by simp; omega) ?_)
          intro v' w7 hown7 hg7
          have HO7 : Hid (OwnE w7 w.heap.size v' (S ++ [(x.key, gv1)])) := Lib.hid (by simpa [OwnE, EnC] using hown7)
          have HB7 : Hid (Below w.heap.size w w7) := Lib.hid (HBa.out.trans (below_grown_own HOa.out hg7 (by simp; omega)))
          clear hown7 hg7
          go_wp2_with fail
          exact ⟨⟨j + 1, _, rfl, by omega, by go_num, Lib.hid (by rw [Htk.out]; simpa using HO7.out), HB7⟩, by simp [RowKit.intOf]; omega⟩
    · obtain rfl : j = n := by omega
      have Hs : Hid (scanH (L.take j) key end_ mark = scanH L key end_ mark) := Lib.hid (by rw [List.take_of_length_le (by rw [hlen.out]; exact Nat.le_refl _)])
      go_wp2_with fail
      go_ret
      exact ⟨v, rfl, by rw [← Hs.out]; exact HO.out, HB.out⟩
end Go.Proofs.YtfpcgfgofemhoaaGreat


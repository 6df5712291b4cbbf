/- Lemmas and contracts of functions that statements of this seat stand on, many texts in one; each holds under the premises typed in its head. -/
import Derived.Test.YtcjmppjppmiggaaGreatHs
import Derived.Test.YtcjmppjppmiggaaGreatRd
import Derived.Test.YtcjmppjppmiggaaGreatRt7
/- The document's hash and a key's shard. -/
namespace Go.Proofs.YtcjmppjppmiggaaGreat
open Go.RowKit
set_option linter.unusedVariables false
set_option linter.unusedSimpArgs false

set_option maxRecDepth 100000
theorem rhash_any (k : ByteArray) (w : World) (hk : k.size ≤ 4611686018427387904) : Calls Tryz.prog 87 #[.string k] w fun e w' => e = .returned (.int .u32 (hashB k.data.toList)) ∧ w = w' := by
  go_enter Tryz.func87, Tryz.ntmps87
  go_wp2_with fail
  go_loop [3, 4] (fun h i => ∃ n : Nat, n ≤ k.size ∧ i = .int .i64 n ∧ h = .int .u32 (hashB (k.data.toList.take n))) (fun _ i => k.size - (RowKit.intOf i).toNat)
  case atStart => exact ⟨0, Nat.zero_le _, rfl, rfl⟩
  case round =>
    obtain ⟨n, hn, rfl, rfl⟩ := hrel
    by_cases hlt : n < k.size
    · obtain ⟨b, hb⟩ : ∃ b, k.data.toList[n]? = some b := ⟨_, List.getElem?_eq_getElem (by simpa using hlt)⟩
      have hs := hash_succ hb
      have hbk : k[n] = b := by
        have h2 := hb
        rw [List.getElem?_eq_getElem (by simpa using hlt)] at h2
        exact Option.some.inj h2
      have hb8 := b.toNat_lt
      have hl := hash_lt (k.data.toList.take n)
      generalize hashB (k.data.toList.take n) = hv at hs hl ⊢
      go_wp2_with fail
      refine ⟨⟨n + 1, by omega, by go_num, ?_⟩, by simp [RowKit.intOf]; omega⟩
      rw [hs, u32_xor_nat hv b.toNat hl (by omega)]
      congr 1
    · have hnk : n = k.size := by omega
      subst hnk
      rw [List.take_of_length_le (by simp)]
      go_wp2_with fail
      go_ret
      exact ⟨rfl, rfl⟩
theorem rshard_any (c : Cfg) (k : ByteArray) (w : World) (hc : c.ok = true) (hk1 : 1 ≤ k.size) (hk2 : k.size ≤ 64) :
    Calls Tryz.prog 70 #[c.v, .string k] w fun e w' => e = .returned (.tuple #[.int .i64 (shd c k), .int .i64 0]) ∧ Below w.heap.size w w' := by
  have hcf := refcfg_any c
  rw [hc] at hcf
  have Hcf := Lib.hid hcf
  clear hcf
  have hkb : keyB k = true := by simp only [keyB, decide_eq_true hk1, decide_eq_true hk2, Bool.and_self]
  have Hk := Lib.hid (fun X : World => hkb ▸ key_any k X)
  obtain ⟨cL, cS, cW, cQ⟩ := c
  have hS : 1 ≤ cS ∧ cS ≤ 16 := by simp [Cfg.ok, inB] at hc; omega
  obtain ⟨S, rfl⟩ : ∃ S : Nat, cS = S := ⟨cS.toNat, by omega⟩
  obtain ⟨H, hH⟩ : ∃ H : Nat, H = hashB k.data.toList := ⟨_, rfl⟩
  have hsh : shd ⟨cL, S, cW, cQ⟩ k = H % S := by rw [hH]; rfl
  have hHl : H < 4294967296 := by rw [hH]; exact hash_lt _
  have Hh := Lib.hid (fun X : World => hH ▸ rhash_any k X (by omega))
  rw [hsh]
  have Hsh := Lib.hid hsh
  clear hsh hH
  unfold Cfg.v
  go_enter Tryz.func70, Tryz.ntmps70
  go_wp2_with fail
  obtain ⟨W, hW⟩ : ∃ W, W = w.alloc (.cells #[.int .i64 cL, .int .i64 S, .int .i64 cW, .int .i64 cQ] 23) := ⟨_, rfl⟩
  have hB : Below w.heap.size w W := hW ▸ (Below.refl _ _).alloc (Nat.le_refl _) _
  have hG : W.heap[w.heap.size]? = some (.cells #[.int .i64 cL, .int .i64 S, .int .i64 cW, .int .i64 cQ] 23 (0, 0)) := hW ▸ blk_new _ _
  rw [← hW]
  clear hW
  refine (Hcf.out W).mono ?_
  rintro e w1 ⟨rfl, h2⟩
  have hG1 := (h2.block _ (blk_lt hG)).trans hG
  have HB1 := Lib.hid (hB.trans (h2.mono hB.size))
  clear hG h2 hB
  rw [show errCfg true = 0 from rfl]
  go_wp2_with fail
  refine (Hk.out w1).mono ?_
  rintro e w2 ⟨rfl, rfl⟩
  go_wp2_with fail
  have k1 : ∀ q : Ext w1, q.X.cell? ⟨w.heap.size, 1, none⟩ = some (.int .i64 S) := fun q => (q.h.cell (p := ⟨w.heap.size, 1, none⟩) (blk_lt hG1)).trans (blk_cell hG1 1)
  have hN := Lib.hid (fun q : Ext w1 => Ext.same2 (Hh.out q.X))
  have e1 : (S : Int) % 4294967296 = S := by omega
  have e2 : IntKind.u32.wrap (S : Int) = S := by rw [IntKind.wrap_u32']; omega
  have e3 : ((S : Int) == 0) = false := by rw [beq_eq_false_iff_ne]; omega
  have e4 : (S : Int) ≠ 0 := by omega
  have e5 : (0 : Int) < S := by omega
  refine wp_region_ext (by kernel_rfl) (by kernel_rfl) ?_
  repeat (go_big_quiet_step ((go_at_call 87; exact hN.out _)))
  refine Ext.end_ fun X hX => ?_
  have HX := Lib.hid (HB1.out.trans (hX.mono HB1.out.size))
  clear hX
  have hm : (H : Int) % S = ((H % S : Nat) : Int) := by omega
  have hm2 : H % S < S := Nat.mod_lt _ (by omega)
  have hw : wrap64 ((H : Int) % S) = ((H % S : Nat) : Int) := by rw [hm]; unfold wrap64; omega
  go_wp2_with fail
  rw [hw]
  go_ret2
  exact ⟨rfl, HX.out⟩
end Go.Proofs.YtcjmppjppmiggaaGreat

/- The document's story: small things (in). -/
namespace Go.Proofs.YtcjmppjppmiggaaGreat
open Go.RowKit
set_option linter.unusedVariables false
set_option linter.unusedSimpArgs false

set_option maxRecDepth 100000
theorem r21in_any (B : Nat) (A : Option Addr) (n c : Nat) (l : List Int) (x : Nat) (w : World) (h : RowAt Icell 1 w B A n l) (hn : n ≤ 17592186044416) :
    Calls Tryz.prog 67 #[.slice A n c, .int .i64 x] w fun e w' => e = .returned (.bool (l.contains (x : Int))) ∧ w = w' := by
  have H := Lib.hid h
  have Hlen := Lib.hid h.len
  have hfin : ∀ (r : Bool) (w' : World), l.contains (x : Int) = r → w = w' → (Ending.returned (.bool r) = .returned (.bool (l.contains (x : Int))) ∧ w = w') := fun r w' e e2 => by subst e; exact ⟨rfl, e2⟩
  have Hf := Lib.hid hfin
  clear h hfin
  go_enter Tryz.func67, Tryz.ntmps67
  go_wp2_with fail
  go_loopw [5] (fun i wr => ∃ k : Nat, k ≤ n ∧ i = .int .i64 k ∧ w = wr ∧ Hid ((l.take k).contains (x : Int) = false)) (fun i _ => n - (RowKit.intOf i).toNat)
  case atStart => exact ⟨0, Nat.zero_le _, rfl, rfl, Lib.hid (by simp)⟩
  case round =>
    obtain ⟨k, hk, rfl, rfl, HC⟩ := hrel
    by_cases hlt : k < n
    · obtain ⟨b, off, y, rfl, hbl, hy, hyc⟩ := H.out.at_ hlt
      have y0 : w.cell? ⟨b, off + k, none⟩ = some (.int .i64 y) := by simpa using hyc 0 _ rfl
      have Hy := Lib.hid hy
      clear hy hyc
      by_cases hyx : y = (x : Int)
      · subst hyx
        go_wp2_with fail
        go_ret
        exact Hf.out true _ (by simp only [List.contains_iff_mem]; exact List.mem_of_getElem? Hy.out) rfl
      · go_wp2_with fail
        refine ⟨⟨k + 1, by omega, by go_num, by first | exact rfl | trivial, Lib.hid ?_⟩, by simp [RowKit.intOf]; omega⟩
        have h1 := HC.out
        rw [List.take_add_one, Hy.out, Option.toList_some]
        simp only [List.contains_eq_mem, decide_eq_false_iff_not, List.mem_append, List.mem_singleton, not_or] at h1 ⊢
        exact ⟨h1, fun e => hyx e.symm⟩
    · obtain rfl : n = k := by omega
      have h1 := HC.out
      rw [List.take_of_length_le (by rw [Hlen.out]; exact Nat.le_refl _)] at h1
      have H1 := Lib.hid h1
      clear h1
      go_wp2_with fail
      go_ret
      exact Hf.out false _ H1.out rfl
end Go.Proofs.YtcjmppjppmiggaaGreat


/- sum.Hash and conf.Shard: a key's shard. -/
import Derived.Test.YtcjmppjppmiggaaGreatM2
import Derived.Test.YtcjmppjppmiggaaGreatExt
import Derived.Laws.BitsAllLaws
namespace Go.Proofs.YtcjmppjppmiggaaGreat
open Go.RowKit
set_option linter.unusedVariables false
set_option linter.unusedSimpArgs false

theorem hash_lt (l : List UInt8) : hashB l < 4294967296 := by
  unfold hashB
  suffices h : ∀ (l : List UInt8) (x : Nat), x < 4294967296 → l.foldl (fun h (b : UInt8) => (h ^^^ b.toNat) * 16777619 % 4294967296) x < 4294967296 from h l _ (by omega)
  intro l
  induction l with
  | nil => intro x hx; exact hx
  | cons b r ih => intro x hx; exact ih _ (Nat.mod_lt _ (by omega))
theorem foldl_take_succ {α β : Type} (f : β → α → β) (x : β) {l : List α} {k : Nat} {b : α} (h : l[k]? = some b) : (l.take (k + 1)).foldl f x = f ((l.take k).foldl f x) b := by
  rw [List.take_add_one, h, List.foldl_append]
  rfl
theorem hash_succ {l : List UInt8} {k : Nat} {b : UInt8} (h : l[k]? = some b) : hashB (l.take (k + 1)) = (hashB (l.take k) ^^^ b.toNat) * 16777619 % 4294967296 := foldl_take_succ (fun h (b : UInt8) => (h ^^^ b.toNat) * 16777619 % 4294967296) 2166136261 h
theorem hash_any (k : ByteArray) (w : World) (hk : k.size ≤ 4611686018427387904) : Calls Tryz.prog 79 #[.string k] w fun e w' => e = .returned (.int .u32 (hashB k.data.toList)) ∧ w = w' := by
  go_enter Tryz.func79, Tryz.ntmps79
  go_wp2_with fail
  go_loop [3, 7] (fun h i => ∃ n : Nat, n ≤ k.size ∧ i = .int .i64 n ∧ h = .int .u32 (hashB (k.data.toList.take n))) (fun _ i => k.size - (RowKit.intOf i).toNat)
  case atStart => exact ⟨0, Nat.zero_le _, rfl, rfl⟩
  case round =>
    obtain ⟨n, hn, rfl, rfl⟩ := hrel
    by_cases hlt : n < k.size
    · obtain ⟨b, hb⟩ : ∃ b, k.data.toList[n]? = some b := ⟨_, List.getElem?_eq_getElem (by simpa using hlt)⟩
      have hs := hash_succ hb
      have hbk : k[n] = b := by
        have h2 := hb
        rw [List.getElem?_eq_getElem (by simpa using hlt)] at h2
        exact Option.some.inj h2
      have hb8 := b.toNat_lt
      have hl := hash_lt (k.data.toList.take n)
      generalize hashB (k.data.toList.take n) = hv at hs hl ⊢
      go_wp2_with fail
      refine ⟨⟨n + 1, by omega, by go_num, ?_⟩, by simp [RowKit.intOf]; omega⟩
      rw [hs, u32_xor_nat hv b.toNat hl (by omega)]
      congr 1
    · have hnk : n = k.size := by omega
      subst hnk
      rw [List.take_of_length_le (by simp)]
      go_wp2_with fail
      go_ret
      exact ⟨rfl, rfl⟩
theorem shard_any (c : Cfg) (k : ByteArray) (w : World) (hc : c.ok = true) (hk1 : 1 ≤ k.size) (hk2 : k.size ≤ 64) :
    Calls Tryz.prog 62 #[c.v, .string k] w fun e w' => e = .returned (.tuple #[.int .i64 (shd c k), .int .i64 0]) ∧ Below w.heap.size w w' := by
  have hcf := cfg_any c
  rw [hc] at hcf
  have Hcf := Lib.hid hcf
  clear hcf
  obtain ⟨cL, cS, cW, cQ⟩ := c
  have hS : 1 ≤ cS ∧ cS ≤ 16 := by simp [Cfg.ok, inB] at hc; omega
  obtain ⟨S, rfl⟩ : ∃ S : Nat, cS = S := ⟨cS.toNat, by omega⟩
  have hke : k.toList ≠ [] := fun e => by
    have h2 : k.toList.length = 0 := by rw [e]; rfl
    have h3 : k.toList.length = k.size := by rw [ByteArray.toList_eq, ByteArray.size, ← Array.length_toList]
    omega
  have hie : k.toList.isEmpty = false := by cases h : k.toList with | nil => exact absurd h hke | cons a r => rfl
  have h64 : decide (64 < (k.size : Int)) = false := decide_eq_false (by omega)
  obtain ⟨H, hH⟩ : ∃ H : Nat, H = hashB k.data.toList := ⟨_, rfl⟩
  have hsh : shd ⟨cL, S, cW, cQ⟩ k = H % S := by rw [hH]; rfl
  have hHl : H < 4294967296 := by rw [hH]; exact hash_lt _
  have Hh := Lib.hid (fun X : World => hH ▸ hash_any k X (by omega))
  rw [hsh]
  have Hsh := Lib.hid hsh
  clear hsh hH
  unfold Cfg.v
  go_enter Tryz.func62, Tryz.ntmps62
  go_wp2_with fail
  obtain ⟨W, hW⟩ : ∃ W, W = w.alloc (.cells #[.int .i64 cL, .int .i64 S, .int .i64 cW, .int .i64 cQ] 23) := ⟨_, rfl⟩
  have hB : Below w.heap.size w W := hW ▸ (Below.refl _ _).alloc (Nat.le_refl _) _
  have hG : W.heap[w.heap.size]? = some (.cells #[.int .i64 cL, .int .i64 S, .int .i64 cW, .int .i64 cQ] 23 (0, 0)) := hW ▸ blk_new _ _
  rw [← hW]
  clear hW
  refine (Hcf.out W).mono ?_
  rintro e w1 ⟨rfl, h2⟩
  have hG1 := (h2.block _ (blk_lt hG)).trans hG
  have HB1 := Lib.hid (hB.trans (h2.mono hB.size))
  clear hG h2 hB
  rw [show errCfg true = 0 from rfl]
  go_wp2_with fail
  have k1 : ∀ q : Ext w1, q.X.cell? ⟨w.heap.size, 1, none⟩ = some (.int .i64 S) := fun q => (q.h.cell (p := ⟨w.heap.size, 1, none⟩) (blk_lt hG1)).trans (blk_cell hG1 1)
  have hN := Lib.hid (fun q : Ext w1 => Ext.same2 (Hh.out q.X))
  have e1 : (S : Int) % 4294967296 = S := by omega
  have e2 : IntKind.u32.wrap (S : Int) = S := by rw [IntKind.wrap_u32']; omega
  have e3 : ((S : Int) == 0) = false := by rw [beq_eq_false_iff_ne]; omega
  have e4 : (S : Int) ≠ 0 := by omega
  have e5 : (0 : Int) < S := by omega
  refine wp_region_ext (by kernel_rfl) (by kernel_rfl) ?_
  repeat (go_big_quiet_step ((go_at_call 79; exact hN.out _)))
  refine Ext.end_ fun X hX => ?_
  have HX := Lib.hid (HB1.out.trans (hX.mono HB1.out.size))
  clear hX
  have hm : (H : Int) % S = ((H % S : Nat) : Int) := by omega
  have hm2 : H % S < S := Nat.mod_lt _ (by omega)
  have hw : wrap64 ((H : Int) % S) = ((H % S : Nat) : Int) := by rw [hm]; unfold wrap64; omega
  go_wp2_with fail
  rw [hw]
  go_ret2
  exact ⟨rfl, HX.out⟩
end Go.Proofs.YtcjmppjppmiggaaGreat

/- FoldSteps: bounds on the sizes that are counted; plain. -/
import Derived.Test.YtdcnaieieggclaaMD
import Derived.Test.YtdcnaieieggclaaExt
namespace Go.Proofs.Ytdcnaieieggclaa
open Go.RowKit
set_option linter.unusedVariables false
set_option linter.unusedSimpArgs false

open Go.Maps
theorem wsz_bd : ∀ (ws : List Wr) (n : Int), 0 ≤ n → n ≤ 1125899906842624 → (∀ x ∈ ws, x.key.size ≤ 140737488351232 ∧ x.val.size ≤ 140737488351232) → 0 ≤ wsz n ws ∧ wsz n ws ≤ 1125899906842624
  | [], n, h0, h1, _ => ⟨h0, h1⟩
  | x :: r, n, h0, h1, hs => by
    rw [wsz]
    have hx := hs x (by simp)
    split
    · exact wsz_bd r _ (by omega) (by omega) (fun y hy => hs y (by simp [hy]))
    · exact ⟨h0, h1⟩
theorem txsz_bd : ∀ (rs : List RTx) (n : Int), 0 ≤ n → n ≤ 2251799813685248 → (∀ r ∈ rs, r.ws.length ≤ 4398046511104 ∧ ∀ x ∈ r.ws, x.key.size ≤ 140737488351232 ∧ x.val.size ≤ 140737488351232) → 0 ≤ txsz n rs ∧ txsz n rs ≤ 2251799813685248
  | [], n, h0, h1, _ => ⟨h0, h1⟩
  | r :: l, n, h0, h1, hs => by
    rw [txsz]
    obtain ⟨h2, h3⟩ := hs r (by simp)
    have h4 := wsz_bd r.ws r.ws.length (by omega) (by omega) h3
    split
    · exact txsz_bd l _ (by unfold tsz; omega) (by unfold tsz; omega) (fun y hy => hs y (by simp [hy]))
    · exact ⟨h0, h1⟩
theorem scanErr_ok {rs : List RTx} (he : logErr rs 1 = 0) {k : Nat} (hk : k ≤ rs.length) : scanErr rs (k : Int) = 0 := by
  unfold scanErr argB
  rw [if_neg (by simpa using he), if_pos]
  simp only [Bool.and_eq_true, decide_eq_true_eq]; omega
theorem scanL_ok {rs : List RTx} (he : logErr rs 1 = 0) {k : Nat} (hk : k ≤ rs.length) (key fin : ByteArray) : scanL rs (k : Int) key fin = (foldE rs k).filter fun e => inB key fin e.key := by
  unfold scanL
  rw [if_pos (scanErr_ok he hk), Int.toNat_natCast]
theorem store_ok {A : Option Addr} {len cap : Nat} {rs : List RTx} (he : logErr rs 1 = 0) {k : Nat} (hk : k ≤ rs.length) (w : World) (hw : TxsAt w w.heap.size A len rs) (hl : len ≤ 4398046511104) (hc : len ≤ cap) :
    Calls Try.prog 21 #[.slice A len cap, .int .i64 (k : Int)] w fun e w' => ∃ v, e = .returned (.tuple #[v, .int .i64 0]) ∧ EntsOwn w' w.heap.size v (foldE rs k) ∧ Below w.heap.size w w' := by
  have h := fstore_any A len cap rs (k : Int) w hw hl hc
  unfold ScanPost at h
  rw [scanErr_ok he hk, scanL_ok he hk, cut_all rfl rfl] at h
  exact h
theorem scan_ok {A : Option Addr} {len cap : Nat} {rs : List RTx} (he : logErr rs 1 = 0) {k : Nat} (hk : k ≤ rs.length) (key fin : ByteArray) (w : World) (hw : TxsAt w w.heap.size A len rs) (hl : len ≤ 4398046511104) (hc : len ≤ cap) :
    Calls Try.prog 25 #[.slice A len cap, .int .i64 (k : Int), .string key, .string fin] w fun e w' => ∃ v, e = .returned (.tuple #[v, .int .i64 0]) ∧ EntsOwn w' w.heap.size v ((foldE rs k).filter fun e => inB key fin e.key) ∧ Below w.heap.size w w' := by
  have h := fscan_any A len cap rs (k : Int) key fin w hw hl hc
  unfold ScanPost at h
  rw [scanErr_ok he hk, scanL_ok he hk] at h
  exact h
theorem key_ok {rs : List RTx} (he : logErr rs 1 = 0) {n : Nat} {e : Ent} (h : e ∈ foldE rs n) : keyB e.key = true := by
  obtain ⟨r, hr, x, hx, hk⟩ := fold_written ((mem_fold _ _ _).1 h)
  obtain ⟨i, hi⟩ := List.getElem?_of_mem hr
  have h1 := (logErr_ok he hi).1
  simp only [txB, Bool.and_eq_true] at h1
  have h2 := List.all_eq_true.1 h1.2 x hx
  simp only [wrB, Bool.and_eq_true] at h2
  rw [← hk]; exact h2.1.1
theorem get_ok {A : Option Addr} {len cap : Nat} {rs : List RTx} (he : logErr rs 1 = 0) {k : Nat} (hk : k ≤ rs.length) {key : ByteArray} (hkb : keyB key = true) (w : World) (hw : TxsAt w w.heap.size A len rs) (hl : len ≤ 4398046511104) (hc : len ≤ cap) :
    Calls Try.prog 23 #[.slice A len cap, .int .i64 (k : Int), .string key] w fun e w' => e = .returned (.tuple #[.string ((mget (foldM rs k) key).getD ⟨#[]⟩), .bool (mget (foldM rs k) key).isSome, .int .i64 0]) ∧ Below w.heap.size w w' := by
  have h := fget_any A len cap rs (k : Int) key w hw hl hc
  have h1 : getErr rs (k : Int) key = 0 := by unfold getErr; rw [if_neg (by rw [scanErr_ok he hk]; simp), if_pos hkb]
  have h2 : getV rs (k : Int) key = mget (foldM rs k) key := by unfold getV; rw [if_pos h1, Int.toNat_natCast]
  rw [h1, h2] at h
  exact h
theorem filter_at {α : Type} {p : α → Bool} {l : List α} {j : Nat} {e : α} (h : l[j]? = some e) (hp : p e = true) : (l.filter p)[((l.take j).filter p).length]? = some e ∧ ((l.take j).filter p).length < (l.filter p).length := by
  have hs : l = l.take j ++ (e :: l.drop (j + 1)) := by rw [← drop_get h, List.take_append_drop]
  have hf : l.filter p = (l.take j).filter p ++ e :: (l.drop (j + 1)).filter p := by
    have h2 := congrArg (List.filter p) hs
    rw [List.filter_append, List.filter_cons, if_pos hp] at h2
    exact h2
  rw [hf]
  exact ⟨by rw [List.getElem?_append_right (Nat.le_refl _)]; simp, by simp⟩
theorem filter_take_succ {α : Type} {p : α → Bool} {l : List α} {j : Nat} {e : α} (h : l[j]? = some e) : ((l.take (j + 1)).filter p).length = ((l.take j).filter p).length + if p e = true then 1 else 0 := by
  rw [List.take_add_one, h, List.filter_append, List.length_append]
  simp only [Option.toList_some, List.filter_cons, List.filter_nil]
  split <;> simp
def endB (fin : ByteArray) (e : Ent) : Bool := decide (fin.size = 0) || ltB e.key fin
end Go.Proofs.Ytdcnaieieggclaa

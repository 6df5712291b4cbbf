/- XLg: out of XT3 XT4b XTw XTwT XTwL XConf XT5 XT6 XCore XLog (pick.py). -/
import Derived.Test.YtcjmppjppmiggaaGreatDw
namespace Go.Proofs.YtcjmppjppmiggaaGreat
open Go.RowKit
set_option linter.unusedVariables false
set_option linter.unusedSimpArgs false

def TxsAt (w : World) (B : Nat) (A : Option Addr) (n : Nat) (rs : List RTx) : Prop := RowAt RTx.cells 2 w B A n rs ∧ ∀ r ∈ rs, WsAt w B r.A r.len r.ws ∧ r.len * 40 ≤ 140737488351232
theorem TxsAt.below {w w' : World} {B n : Nat} {A : Option Addr} {rs : List RTx} (h : TxsAt w B A n rs) (hb : Below B w w') : TxsAt w' B A n rs := ⟨h.1.below hb, fun r hr => ⟨(h.2 r hr).1.below hb, (h.2 r hr).2⟩⟩
theorem TxsAt.more {w : World} {B B' n : Nat} {A : Option Addr} {rs : List RTx} (h : TxsAt w B A n rs) (hB : B ≤ B') : TxsAt w B' A n rs := ⟨h.1.more hB, fun r hr => ⟨(h.2 r hr).1.more hB, (h.2 r hr).2⟩⟩
theorem TxsAt.cell2 {w : World} {B n i : Nat} {A : Option Addr} {rs : List RTx} (h : TxsAt w B A n rs) (hi : i < n) :
    ∃ b off r, A = some ⟨b, off, none⟩ ∧ b < B ∧ rs[i]? = some r ∧ w.cell? ⟨b, off + i * 2, none⟩ = some (.int .i64 r.number) ∧ w.cell? ⟨b, off + i * 2 + 1, none⟩ = some (.slice r.A r.len r.cap) ∧ WsAt w B r.A r.len r.ws ∧ r.len * 40 ≤ 140737488351232 := by
  obtain ⟨b, off, r, e, hb, hx, hc⟩ := h.1.at_ hi
  obtain ⟨h1, h2⟩ := h.2 r (List.mem_of_getElem? hx)
  exact ⟨b, off, r, e, hb, hx, hc 0 _ rfl, hc 1 _ rfl, h1, h2⟩

def logErr : List RTx → Int → Int
  | [], _ => 0
  | r :: rest, next => if txB r.number r.ws then (if r.number = next then logErr rest (next + 1) else 6) else 1
def turnN (n : Int) (ws : List Wr) (nx : Int) : Int := if txB n ws then (if n = nx then 0 else 6) else 1
theorem logErr_drop {rs : List RTx} {k : Nat} {r : RTx} {m : Int} (h : rs[k]? = some r) : (turnN r.number r.ws m = 0 → logErr (rs.drop k) m = logErr (rs.drop (k + 1)) (m + 1)) ∧ (turnN r.number r.ws m ≠ 0 → logErr (rs.drop k) m = turnN r.number r.ws m) := by
  have : rs.drop k = r :: rs.drop (k + 1) := by
    obtain ⟨hk, e⟩ := List.getElem?_eq_some_iff.1 h
    rw [List.drop_eq_getElem_cons hk, e]
  rw [this]
  simp only [logErr, turnN]
  constructor <;> intro h <;> split <;> simp_all
theorem logErr_len {rs : List RTx} {k : Nat} {r : RTx} (h1 : logErr rs 1 = logErr (rs.drop k) ((k : Int) + 1)) (h : rs[k]? = some r) (h0 : turnN r.number r.ws ((k : Int) + 1) = 0) : (k : Int) < 65536 := by
  have : txB r.number r.ws = true ∧ r.number = (k : Int) + 1 := by
    simp only [turnN] at h0; split at h0
    · split at h0
      · exact ⟨by assumption, by assumption⟩
      · cases h0
    · cases h0
  have h2 := this.1
  simp only [txB] at h2; grind
set_option maxHeartbeats 1000000 in
theorem turn_bad (n nx : Int) (A : Option Addr) (len cap q : Nat) (ws : List Wr) (w : World) (hq : w.heap[q]? = some (.cells #[.int .i64 nx] 3 (0, 0))) (hw : WsAt w w.heap.size A len ws) (hl : len ≤ 9223372036854775807) (hbad : turnN n ws nx ≠ 0) :
    Calls Tryz.prog 57 #[.agg #[.int .i64 n, .slice A len cap], .pointer (some ⟨q, 0, none⟩)] w fun e w' => e = .returned (.int .i64 (turnN n ws nx)) ∧ Below w.heap.size w w' := by
  have hw2 : ∀ o, WsAt (w.alloc o) (w.alloc o).heap.size A len ws := fun o => (hw.below ((Below.refl _ _).alloc (Nat.le_refl _) _)).more (by simp)
  have hq0 := blk_cell hq 0
  have hqb := blk_lt hq
  have hqs := blk_frozen hq 0
  go_enter Tryz.func57, Tryz.ntmps57
  go_wp2_with fail
  refine (check_any n _ _ _ ws _ (hw2 _) hl).mono ?_
  rintro e w1 ⟨rfl, hb1⟩
  have B1 : Below (w.heap.size + 1) _ w1 := hb1.mono (by simp)
  have hs1 := size_box B1
  have c0 := cell_box B1 0 rfl
  have q1 : w1.cell? ⟨q, 0, none⟩ = some (.int .i64 nx) := ((below_box B1).cell (p := ⟨q, 0, none⟩) hqb).trans hq0
  have Hb1 := Lib.hid (below_box B1)
  clear hb1 B1 hq0 hq
  cases h : txB n ws
  · have H := Lib.hid h
    clear h
    rw [show errOf false = 1 from rfl]
    go_wp2_with fail
    go_ret
    exact ⟨ret_int (by simp [turnN, H.out]), Hb1.out⟩
  · have hne : (n == nx) = false := by
      rw [beq_eq_false_iff_ne]; intro e; subst e; exact hbad (by simp [turnN, h])
    have Hne := Lib.hid hne
    have hne2 : (n != nx) = true := by simpa using hne
    have H := Lib.hid h
    clear h hne
    rw [show errOf true = 0 from rfl]
    go_wp2_with fail
    go_ret
    exact ⟨ret_int (by have := Hne.out; simp at this; simp [turnN, H.out, this]), Hb1.out⟩

set_option maxHeartbeats 1000000 in
theorem turn_good (n nx : Int) (A : Option Addr) (len cap q : Nat) (ws : List Wr) (w : World) (hq : w.heap[q]? = some (.cells #[.int .i64 nx] 3 (0, 0))) (hw : WsAt w w.heap.size A len ws) (hl : len ≤ 9223372036854775807) (hnx : 0 ≤ nx ∧ nx ≤ 100000) (hgood : turnN n ws nx = 0) :
    Calls Tryz.prog 57 #[.agg #[.int .i64 n, .slice A len cap], .pointer (some ⟨q, 0, none⟩)] w fun e w' => e = .returned (.int .i64 0) ∧ w'.heap[q]? = some (.cells #[.int .i64 (nx + 1)] 3 (0, 0)) ∧ w.grownBy w' (some q) := by
  have hw2 : ∀ o, WsAt (w.alloc o) (w.alloc o).heap.size A len ws := fun o => (hw.below ((Below.refl _ _).alloc (Nat.le_refl _) _)).more (by simp)
  have hq0 := blk_cell hq 0
  have hqb := blk_lt hq
  have hqs := blk_frozen hq 0
  have hn0 := hnx.1
  have hn1 := hnx.2
  have htx : txB n ws = true := by cases h : txB n ws <;> simp_all [turnN]
  have hnn : n = nx := by have h := hgood; simp only [turnN, htx] at h; simpa using h
  subst hnn
  clear hgood hnx
  have Htx := Lib.hid htx
  clear htx
  go_enter Tryz.func57, Tryz.ntmps57
  go_wp2_with fail
  refine (check_any n _ _ _ ws _ (hw2 _) hl).mono ?_
  rintro e w1 ⟨rfl, hb1⟩
  have B1 : Below (w.heap.size + 1) _ w1 := hb1.mono (by simp)
  have hs1 := size_box B1
  have c0 := cell_box B1 0 rfl
  have q1 : w1.cell? ⟨q, 0, none⟩ = some (.int .i64 n) := ((below_box B1).cell (p := ⟨q, 0, none⟩) hqb).trans hq0
  have q2 : w1.frozen? ⟨q, 0, none⟩ = false := ((below_box B1).frozen (p := ⟨q, 0, none⟩) hqb).trans hqs
  have Hq := Lib.hid (((below_box B1).block q hqb).trans hq)
  have Hb1 := Lib.hid (below_box B1)
  clear hb1 B1 hq0 hq hqs
  rw [Htx.out, show errOf true = 0 from rfl]
  go_wp2_with fail
  go_ret
  refine ⟨rfl, ?_, only_setCell (only_of_below Hb1.out _) (Or.inl rfl) _⟩
  simpa using blk_set Hq.out 0 (.int .i64 (n + 1))

theorem turns_any (w : World) : Calls Tryz.prog 35 #[] w fun e w' => e = .returned (.func (.func 57) #[] #[.pointer (some ⟨w.heap.size, 0, none⟩)]) ∧ w.alloc (.cells #[.int .i64 1] 3) = w' := by
  go_enter Tryz.func35, Tryz.ntmps35
  go_wp2
  go_ret
  exact ⟨rfl, rfl⟩

set_option maxHeartbeats 1000000 in
theorem logcheck_any (A : Option Addr) (len cap : Nat) (rs : List RTx) (w : World) (hw : TxsAt w w.heap.size A len rs) (hl : len ≤ 4398046511104) :
    Calls Tryz.prog 17 #[.slice A len cap] w fun e w' => e = .returned (.int .i64 (logErr rs 1)) ∧ Below w.heap.size w w' := by
  have hlen := Lib.hid hw.1.len
  have hfin : ∀ (x : Int) (w' : World), logErr rs 1 = x → Below w.heap.size w w' → (Ending.returned (.int .i64 x) = .returned (.int .i64 (logErr rs 1)) ∧ Below w.heap.size w w') := fun x w' h h' => ⟨by rw [h], h'⟩
  have Hf := Lib.hid hfin
  clear hfin
  go_enter Tryz.func17, Tryz.ntmps17
  go_wp2_with (go_at_call 35; refine (turns_any _).mono ?_; rintro e w' ⟨rfl, rfl⟩)
  go_loopw [10] (fun i wr => ∃ k : Nat, k ≤ len ∧ i = .int .i64 k ∧ logErr rs 1 = logErr (rs.drop k) ((k : Int) + 1) ∧ wr.heap[w.heap.size]? = some (.cells #[.int .i64 ((k : Int) + 1)] 3 (0, 0)) ∧ Below w.heap.size w wr) (fun i _ => len - (RowKit.intOf i).toNat)
  case atStart => exact ⟨0, Nat.zero_le _, rfl, rfl, heap_alloc_new w _, (Below.refl _ _).alloc (Nat.le_refl _) _⟩
  case round =>
    obtain ⟨k, hk, rfl, herr, hq, hb⟩ := hrel
    have hr := hw.below hb
    have Hb := Lib.hid hb
    have Herr := Lib.hid herr
    have hs := hb.size
    have hqb := blk_lt hq
    clear hb herr
    by_cases hlt : k < len
    · obtain ⟨b, off, r, rfl, hbl, hx, x0, x1, hws, hrl⟩ := hr.cell2 hlt
      have Hx := Lib.hid hx
      clear hx
      have hq2 : ∀ o, (wr.alloc o).heap[w.heap.size]? = some (.cells #[.int .i64 ((k : Int) + 1)] 3 (0, 0)) := fun o => (Below.heap_alloc _ _ _ hqb).trans hq
      have hws2 : ∀ o, WsAt (wr.alloc o) (wr.alloc o).heap.size r.A r.len r.ws := fun o => (hws.below ((Below.refl _ _).alloc hs _)).more (by simp; omega)
      have Hq2 := Lib.hid hq2
      clear hq hq2
      by_cases ht : turnN r.number r.ws ((k : Int) + 1) = 0
      · have hk6 := logErr_len Herr.out Hx.out ht
        have Ht := Lib.hid ht
        clear ht
        go_wp2_with (go_at_call 57; refine (turn_good r.number ((k : Int) + 1) r.A r.len r.cap _ r.ws _ (Hq2.out _) (hws2 _) (by omega) ⟨by omega, by omega⟩ Ht.out).mono ?_; rintro e w1 ⟨rfl, hq1, hg1⟩)
        have hsz1 := hg1.size
        simp only [World.size_alloc] at hsz1
        refine ⟨⟨k + 1, by omega, by go_num, ?_, by simpa using hq1, ?_⟩, by simp [RowKit.intOf]; omega⟩
        · rw [Herr.out, (logErr_drop Hx.out).1 Ht.out]; simp
        · exact (Hb.out.alloc hs _).grown hg1 (by simp; omega) (fun j hj => by injection hj; omega)
      · have Ht := Lib.hid ht
        have hne : (turnN r.number r.ws ((k : Int) + 1) != 0) = true := by simpa using ht
        clear ht
        go_wp2_with (go_at_call 57; refine (turn_bad r.number ((k : Int) + 1) r.A r.len r.cap _ r.ws _ (Hq2.out _) (hws2 _) (by omega) Ht.out).mono ?_; rintro e w1 ⟨rfl, hb1⟩)
        go_ret
        refine Hf.out _ _ ?_ ((Hb.out.alloc hs _).trans (hb1.mono (by simp; omega)))
        rw [Herr.out, (logErr_drop Hx.out).2 Ht.out]
    · have hkl : k = len := by omega
      subst hkl
      go_wp2_with fail
      go_ret
      refine Hf.out _ _ ?_ Hb.out
      rw [Herr.out, List.drop_of_length_le (by have := hlen.out; omega)]; rfl
end Go.Proofs.YtcjmppjppmiggaaGreat

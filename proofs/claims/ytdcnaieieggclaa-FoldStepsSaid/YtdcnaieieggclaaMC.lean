/- Lemmas and contracts of functions that statements of this seat stand on, many texts in one; each holds under the premises typed in its head. -/
import Derived.Test.YtdcnaieieggclaaMA
import Derived.Maps.Own
import Derived.Deep.RegionHeld3
import Derived.Sort.KeysCollected
import Derived.Lib.SlKeysI
import Derived.StringKeys
namespace Go.Proofs.Ytdcnaieieggclaa
open Go.RowKit
set_option linter.unusedVariables false
set_option linter.unusedSimpArgs false

set_option maxHeartbeats 1000000 in
theorem foldcheck_any (A : Option Addr) (len cap : Nat) (rs : List RTx) (w : World) (hw : TxsAt w w.heap.size A len rs) (hl : len ≤ 4398046511104) :
    Calls Try.prog 41 #[.slice A len cap] w fun e w' => e = .returned (.int .i64 (logErr rs 1)) ∧ Below w.heap.size w w' := by
  have hlen := Lib.hid hw.1.len
  have hfin : ∀ (x : Int) (w' : World), logErr rs 1 = x → Below w.heap.size w w' → (Ending.returned (.int .i64 x) = .returned (.int .i64 (logErr rs 1)) ∧ Below w.heap.size w w') := fun x w' h h' => ⟨by rw [h], h'⟩
  have Hf := Lib.hid hfin
  clear hfin
  go_enter Try.func41, Try.ntmps41
  go_wp2_with fail
  go_loopw [8] (fun i wr => ∃ k : Nat, k ≤ len ∧ i = .int .i64 k ∧ logErr rs 1 = logErr (rs.drop k) ((k : Int) + 1) ∧ Below w.heap.size w wr) (fun i _ => len - (RowKit.intOf i).toNat)
  case atStart => exact ⟨0, Nat.zero_le _, rfl, rfl, Below.refl _ _⟩
  case round =>
    obtain ⟨k, hk, rfl, herr, hb⟩ := hrel
    have hr := hw.below hb
    have Hb := Lib.hid hb
    have Herr := Lib.hid herr
    have hs := hb.size
    clear hb herr
    by_cases hlt : k < len
    · obtain ⟨b, off, r, rfl, hbl, hx, x0, x1, hws, hrl⟩ := hr.cell2 hlt
      have Hx := Lib.hid hx
      have hws2 : ∀ o, WsAt (wr.alloc o) (wr.alloc o).heap.size r.A r.len r.ws := fun o => (hws.below ((Below.refl _ _).alloc hs _)).more (by simp; omega)
      clear hx
      go_wp2_with fail
      refine (check_any r.number r.A r.len r.cap r.ws _ (hws2 _) (by omega)).mono ?_
      rintro e w1 ⟨rfl, hb1⟩
      have c0 : w1.cell? ⟨wr.heap.size, 0, none⟩ = some (.int .i64 r.number) := (hb1.cell (p := ⟨wr.heap.size, 0, none⟩) (by simp)).trans (by simp [go_sem])
      have Hb1 := Lib.hid ((Hb.out.alloc hs _).trans (hb1.mono (by simp; omega)))
      clear hb1 hws2
      cases ht : txB r.number r.ws
      · have Ht := Lib.hid ht
        clear ht
        rw [show errOf false = 1 from rfl]
        go_wp2_with fail
        go_ret
        refine Hf.out _ _ ?_ Hb1.out
        rw [Herr.out, (logErr_drop Hx.out).2 (by simp [turnN, Ht.out])]; simp [turnN, Ht.out]
      · have Ht := Lib.hid ht
        clear ht
        rw [show errOf true = 0 from rfl]
        by_cases hn : r.number = (k : Int) + 1
        · have h0 : turnN r.number r.ws ((k : Int) + 1) = 0 := by unfold turnN; rw [if_pos Ht.out, if_pos hn]
          have h1 := (logErr_drop Hx.out).1 h0
          have H1 := Lib.hid h1
          have hnb : (r.number != (k : Int) + 1) = false := by simp [hn]
          clear hn h0 h1
          go_wp2_with fail
          exact ⟨⟨k + 1, by omega, by go_num, by rw [Herr.out, H1.out]; simp, Hb1.out⟩, by simp [RowKit.intOf]; omega⟩
        · have h0 : turnN r.number r.ws ((k : Int) + 1) = 6 := by unfold turnN; rw [if_pos Ht.out, if_neg hn]
          have h1 := (logErr_drop Hx.out).2 (by rw [h0]; decide)
          rw [h0] at h1
          have H1 := Lib.hid h1
          have hnb : (r.number != (k : Int) + 1) = true := by simpa using hn
          clear hn h0 h1
          go_wp2_with fail
          go_ret
          exact Hf.out _ _ (by rw [Herr.out, H1.out]) Hb1.out
    · have hkl : k = len := by omega
      subst hkl
      go_wp2_with fail
      go_ret
      refine Hf.out _ _ ?_ Hb.out
      rw [Herr.out, List.drop_of_length_le (by have := hlen.out; omega)]; rfl

set_option maxHeartbeats 1000000 in
theorem ref07check_any (A : Option Addr) (len cap : Nat) (rs : List RTx) (w : World) (hw : TxsAt w w.heap.size A len rs) (hl : len ≤ 4398046511104) :
    Calls Try.prog 45 #[.slice A len cap] w fun e w' => e = .returned (.int .i64 (logErr rs 1)) ∧ Below w.heap.size w w' := by
  have hlen := Lib.hid hw.1.len
  have hfin : ∀ (x : Int) (w' : World), logErr rs 1 = x → Below w.heap.size w w' → (Ending.returned (.int .i64 x) = .returned (.int .i64 (logErr rs 1)) ∧ Below w.heap.size w w') := fun x w' h h' => ⟨by rw [h], h'⟩
  have Hf := Lib.hid hfin
  clear hfin
  go_enter Try.func45, Try.ntmps45
  go_wp2_with fail
  go_loopw [3] (fun i wr => ∃ k : Nat, k ≤ len ∧ i = .int .i64 k ∧ logErr rs 1 = logErr (rs.drop k) ((k : Int) + 1) ∧ Below w.heap.size w wr) (fun i _ => len - (RowKit.intOf i).toNat)
  case atStart => exact ⟨0, Nat.zero_le _, rfl, rfl, Below.refl _ _⟩
  case round =>
    obtain ⟨k, hk, rfl, herr, hb⟩ := hrel
    have hr := hw.below hb
    have Hb := Lib.hid hb
    have Herr := Lib.hid herr
    have hs := hb.size
    clear hb herr
    by_cases hlt : k < len
    · obtain ⟨b, off, r, rfl, hbl, hx, x0, x1, hws, hrl⟩ := hr.cell2 hlt
      have Hx := Lib.hid hx
      have hws2 := hws.more hs
      clear hx
      go_wp2_with fail
      refine (refcheck_any r.number r.A r.len r.cap r.ws _ hws2).mono ?_
      rintro e w1 ⟨rfl, hb1⟩
      have hbl1 : b < wr.heap.size := by omega
      have y0 := (hb1.cell (p := ⟨b, off + k * 2, none⟩) hbl1).trans x0
      have Hb1 := Lib.hid (Hb.out.trans (hb1.mono hs))
      clear hb1
      cases ht : txB r.number r.ws
      · have Ht := Lib.hid ht
        clear ht
        rw [show errOf false = 1 from rfl]
        go_wp2_with fail
        go_ret
        refine Hf.out _ _ ?_ Hb1.out
        rw [Herr.out, (logErr_drop Hx.out).2 (by simp [turnN, Ht.out])]; simp [turnN, Ht.out]
      · have Ht := Lib.hid ht
        clear ht
        rw [show errOf true = 0 from rfl]
        by_cases hn : r.number = (k : Int) + 1
        · have h0 : turnN r.number r.ws ((k : Int) + 1) = 0 := by unfold turnN; rw [if_pos Ht.out, if_pos hn]
          have h1 := (logErr_drop Hx.out).1 h0
          have H1 := Lib.hid h1
          have hnb : (r.number != (k : Int) + 1) = false := by simp [hn]
          clear hn h0 h1
          go_wp2_with fail
          exact ⟨⟨k + 1, by omega, by go_num, by rw [Herr.out, H1.out]; simp, Hb1.out⟩, by simp [RowKit.intOf]; omega⟩
        · have h0 : turnN r.number r.ws ((k : Int) + 1) = 6 := by unfold turnN; rw [if_pos Ht.out, if_neg hn]
          have h1 := (logErr_drop Hx.out).2 (by rw [h0]; decide)
          rw [h0] at h1
          have H1 := Lib.hid h1
          have hnb : (r.number != (k : Int) + 1) = true := by simpa using hn
          clear hn h0 h1
          go_wp2_with fail
          go_ret
          exact Hf.out _ _ (by rw [Herr.out, H1.out]) Hb1.out
    · have hkl : k = len := by omega
      subst hkl
      go_wp2_with fail
      go_ret
      refine Hf.out _ _ ?_ Hb.out
      rw [Herr.out, List.drop_of_length_le (by have := hlen.out; omega)]; rfl
end Go.Proofs.Ytdcnaieieggclaa

namespace Go.Proofs.Ytdcnaieieggclaa
open Go.RowKit
set_option linter.unusedVariables false
set_option linter.unusedSimpArgs false

open Go.Maps
/-- slices.IndexFunc over writes, of a closure with one captured value. -/
theorem indexw_reach (c : Value) (p : Wr → Bool) (A : Option Addr) (len cap : Nat) (ws : List Wr) (w : World) (hw : WsAt w w.heap.size A len ws) (hl : len ≤ 4398046511104)
    (hcall : ∀ (x : Wr) (W : World), Below w.heap.size w W → Calls Try.prog 44 #[.agg #[.string x.key, .string x.val, .bool x.drop], c] W fun e w' => e = .returned (.bool (p x)) ∧ Below W.heap.size W w') :
    Calls Try.prog 69 #[.slice A len cap, .func (.func 44) #[] #[c]] w (IdxEnd w (ws.any p)) := by
  have hlen := Lib.hid hw.len
  have Hcall := Lib.hid hcall
  clear hcall
  go_enter Try.func69, Try.ntmps69
  go_wp2_with fail
  go_loopw [8] (fun i wr => ∃ k : Nat, k ≤ len ∧ i = .int .i64 k ∧ (ws.take k).any p = false ∧ Below w.heap.size w wr) (fun i _ => len - (RowKit.intOf i).toNat)
  case atStart => exact ⟨0, Nat.zero_le _, rfl, rfl, Below.refl _ _⟩
  case round =>
    obtain ⟨k, hk, rfl, hany, hb⟩ := hrel
    have Hany := Lib.hid hany
    clear hany
    have hr := hw.below hb
    have Hb := Lib.hid hb
    have hs := hb.size
    clear hb
    by_cases hlt : k < len
    · obtain ⟨b, off, x, rfl, hbl, hx, x0, x1, x2⟩ := WsAt.cell3 hr hlt
      have Hx := Lib.hid hx
      clear hx
      go_wp2_with fail
      refine (Hcall.out x _ Hb.out).mono ?_
      rintro e w' ⟨rfl, hb'⟩
      cases hp : p x
      · have Hp := Lib.hid hp
        clear hp
        go_wp2_with fail
        exact ⟨⟨k + 1, by omega, by go_num, by rw [any_take_succ Hx.out, Hany.out, Hp.out]; rfl, Hb.out.trans (hb'.mono (by omega))⟩, by simp [RowKit.intOf]; omega⟩
      · have Hp := Lib.hid hp
        clear hp
        go_wp2_with fail
        go_ret
        refine ⟨k, rfl, by omega, ?_, Hb.out.trans (hb'.mono (by omega))⟩
        rw [any_of (p := p) Hx.out Hp.out]
        simp
    · have hkl : k = len := by omega
      go_wp2
      go_ret
      have h2 := Hany.out
      have h3 := hlen.out
      rw [List.take_of_length_le (by omega)] at h2
      exact ⟨-1, rfl, by omega, by rw [h2]; simp, Hb.out⟩
theorem containsw_reach (c : Value) (p : Wr → Bool) (A : Option Addr) (len cap : Nat) (ws : List Wr) (w : World) (hw : WsAt w w.heap.size A len ws) (hl : len ≤ 4398046511104)
    (hcall : ∀ (x : Wr) (W : World), Below w.heap.size w W → Calls Try.prog 44 #[.agg #[.string x.key, .string x.val, .bool x.drop], c] W fun e w' => e = .returned (.bool (p x)) ∧ Below W.heap.size W w') :
    Calls Try.prog 43 #[.slice A len cap, .func (.func 44) #[] #[c]] w fun e w' => e = .returned (.bool (ws.any p)) ∧ Below w.heap.size w w' := by
  have hfin : ∀ (b : Bool) (w' : World), b = ws.any p → Below w.heap.size w w' → (Ending.returned (.bool b) = .returned (.bool (ws.any p)) ∧ Below w.heap.size w w') := fun b w' h h' => ⟨by rw [h], h'⟩
  have Hf := Lib.hid hfin
  have Hcall := Lib.hid hcall
  clear hfin hcall
  go_enter Try.func43, Try.ntmps43
  go_wp2_with (go_at_call 69; refine (indexw_reach c p _ _ _ ws _ hw hl Hcall.out).mono ?_; rintro e w' ⟨r, rfl, hr1, hr2, hb'⟩; have Hr2 := Lib.hid hr2; clear hr2)
  go_ret
  exact Hf.out _ _ (by have := Hr2.out; simpa using this) hb'

/-! ### The keys that a chain has reached -/
def keysB (m : List (ByteArray × Bool)) (k : ByteArray) : Bool := (mget m k).getD false
theorem kstr : Keying Try.prog 9 Value.string := keying_string Try.underlying9
theorem zbool (w : World) : (zeroValue 4).run Try.prog w = .ok (.bool false) w := by kernel_rfl
/-- The variable g holds the map b, which is m. -/
def KeysAt (w : World) (g b : Nat) (m : List (ByteArray × Bool)) : Prop := w.heap[g]? = some (.cells #[.map (some b)] 75 (0, 0)) ∧ OwnM Value.string Value.bool w b m ∧ g ≠ b
theorem KeysAt.below {w w' : World} {g b B : Nat} {m : List (ByteArray × Bool)} (h : KeysAt w g b m) (hb : Below B w w') (hg : g < B) (hB : b < B) : KeysAt w' g b m := ⟨(hb.block g hg).trans h.1, h.2.1.below hb hB, h.2.2⟩
theorem KeysAt.lt {w : World} {g b : Nat} {m : List (ByteArray × Bool)} (h : KeysAt w g b m) : g < w.heap.size ∧ b < w.heap.size := ⟨blk_lt h.1, h.2.1.lt⟩

theorem haskey_any (g b : Nat) (m : List (ByteArray × Bool)) (x : Wr) (w : World) (hk : KeysAt w g b m) :
    Calls Try.prog 44 #[.agg #[.string x.key, .string x.val, .bool x.drop], .pointer (some ⟨g, 0, none⟩)] w fun e w' => e = .returned (.bool (keysB m x.key)) ∧ Below w.heap.size w w' := by
  have hown := hk.2.1
  have hlt := hk.lt.1
  have c0 := blk_cell hk.1 0
  simp only [List.getElem?_toArray, List.getElem?_cons_zero] at c0
  have hfin : ∀ (v : Value) (w' : World), v = .bool (keysB m x.key) → Below w.heap.size w w' → (Ending.returned v = .returned (.bool (keysB m x.key)) ∧ Below w.heap.size w w') := fun v w' h h' => ⟨by rw [h], h'⟩
  have Hf := Lib.hid hfin
  clear hfin hk
  go_enter Try.func44, Try.ntmps44
  go_wp2_with (at_lookup; refine wpList_lookup_M (κ := Value.string) (ν := Value.bool) (b := b) (m := m) rfl _ _ rfl (hown.alloc _) kstr Try.underlying75 zbool x.key rfl rfl ?_)
  go_ret
  refine Hf.out _ _ ?_ ((Below.refl _ _).alloc (Nat.le_refl _) _)
  unfold keysB
  cases mget m x.key <;> rfl
theorem reached_any (g b : Nat) (m : List (ByteArray × Bool)) (n : Int) (A : Option Addr) (len cap : Nat) (ws : List Wr) (w : World) (hk : KeysAt w g b m) (hw : WsAt w w.heap.size A len ws) (hl : len ≤ 4398046511104) :
    Calls Try.prog 42 #[.agg #[.int .i64 n, .slice A len cap], .pointer (some ⟨g, 0, none⟩)] w fun e w' => e = .returned (.bool (ws.any fun x => keysB m x.key)) ∧ Below w.heap.size w w' := by
  have hw2 : ∀ o, WsAt (w.alloc o) (w.alloc o).heap.size A len ws := fun o => (hw.below ((Below.refl _ _).alloc (Nat.le_refl _) _)).more (by simp)
  obtain ⟨h1, h2⟩ := hk.lt
  have hcall : ∀ (o : Obj) (x : Wr) (W : World), Below (w.alloc o).heap.size (w.alloc o) W → Calls Try.prog 44 #[.agg #[.string x.key, .string x.val, .bool x.drop], .pointer (some ⟨g, 0, none⟩)] W fun e w' => e = .returned (.bool (keysB m x.key)) ∧ Below W.heap.size W w' := fun o x W hb =>
    haskey_any g b m x W ((hk.below ((Below.refl _ _).alloc (Nat.le_refl _) o) h1 h2).below hb (by simp; omega) (by simp; omega))
  have Hcall := Lib.hid hcall
  clear hcall hk
  go_enter Try.func42, Try.ntmps42
  go_wp2_with fail
  refine (containsw_reach (.pointer (some ⟨g, 0, none⟩)) (fun x => keysB m x.key) A len cap ws _ (hw2 _) hl (Hcall.out _)).mono ?_
  rintro e w1 ⟨rfl, hb1⟩
  have Hb1 := Lib.hid (((Below.refl _ _).alloc (Nat.le_refl _) _).trans (hb1.mono (by simp)))
  clear hb1
  go_wp2_with fail
  go_ret
  exact ⟨rfl, Hb1.out⟩
end Go.Proofs.Ytdcnaieieggclaa


namespace Go.Proofs.Ytdcnaieieggclaa
open Go.RowKit
set_option linter.unusedVariables false
set_option linter.unusedSimpArgs false

open Go.Maps
def puts (m : List (ByteArray × Bool)) (ws : List Wr) : List (ByteArray × Bool) := ws.foldl (fun m x => mput m x.key true) m
theorem puts_snoc {m : List (ByteArray × Bool)} {ws : List Wr} {k : Nat} {x : Wr} (h : ws[k]? = some x) : puts m (ws.take (k + 1)) = mput (puts m (ws.take k)) x.key true := by
  unfold puts; rw [List.take_add_one, h]; simp [List.foldl_append]
/-- The keys reached from the transaction at place a, behind t places. -/
def chainM (rs : List RTx) (a : Nat) : Nat → List (ByteArray × Bool)
  | 0 => []
  | t + 1 => match rs[a + t]? with
    | none => chainM rs a t
    | some r => if t = 0 ∨ (r.ws.any fun x => keysB (chainM rs a t) x.key) = true then puts (chainM rs a t) r.ws else chainM rs a t
theorem chainM_hit {rs : List RTx} {a t : Nat} {r : RTx} (h : rs[a + t]? = some r) (hc : t = 0 ∨ (r.ws.any fun x => keysB (chainM rs a t) x.key) = true) : chainM rs a (t + 1) = puts (chainM rs a t) r.ws := by
  rw [chainM, h]; simp only []; rw [if_pos hc]
theorem chainM_miss {rs : List RTx} {a t : Nat} {r : RTx} (h : rs[a + t]? = some r) (h0 : t ≠ 0) (hc : (r.ws.any fun x => keysB (chainM rs a t) x.key) = false) : chainM rs a (t + 1) = chainM rs a t := by
  rw [chainM, h]; simp only []; rw [if_neg (by simp [h0, hc])]
theorem KeysAt.upd {w w' : World} {g b : Nat} {m m' : List (ByteArray × Bool)} (h : KeysAt w g b m) (ho : OwnM Value.string Value.bool w' b m') (hg : w.grownBy w' (some b)) : KeysAt w' g b m' :=
  ⟨(hg.block g (blk_lt h.1) (by intro e; injection e with e; exact h.2.2 e)).trans h.1, ho, h.2.2⟩
theorem KeysAt.alloc {w : World} {g b : Nat} {m : List (ByteArray × Bool)} (h : KeysAt w g b m) (o : Obj) : KeysAt (w.alloc o) g b m := ⟨(Below.heap_alloc _ _ _ (blk_lt h.1)).trans h.1, h.2.1.alloc o, h.2.2⟩

theorem chained_err (A : Option Addr) (len cap : Nat) (rs : List RTx) (i j : Int) (w : World) (hw : TxsAt w w.heap.size A len rs) (hl : len ≤ 4398046511104) (he : logErr rs 1 ≠ 0) :
    Calls Try.prog 15 #[.slice A len cap, .int .i64 i, .int .i64 j] w fun e w' => e = .returned (.tuple #[.bool false, .int .i64 (logErr rs 1)]) ∧ Below w.heap.size w w' := by
  have hne : (logErr rs 1 != 0) = true := by simpa using he
  go_enter Try.func15, Try.ntmps15
  go_wp2_with fail
  refine (foldcheck_any A len cap rs _ hw hl).mono ?_
  rintro e w1 ⟨rfl, hb1⟩
  go_wp2_with fail
  go_ret2
  exact ⟨rfl, hb1⟩
theorem chained_arg (A : Option Addr) (len cap : Nat) (rs : List RTx) (i j : Int) (w : World) (hw : TxsAt w w.heap.size A len rs) (hl : len ≤ 4398046511104) (he : logErr rs 1 = 0) (ha : i < 1 ∨ j ≤ i ∨ (len : Int) < j) :
    Calls Try.prog 15 #[.slice A len cap, .int .i64 i, .int .i64 j] w fun e w' => e = .returned (.tuple #[.bool false, .int .i64 1]) ∧ Below w.heap.size w w' := by
  have He := Lib.hid he
  clear he
  by_cases h1 : i < 1 <;> by_cases h2 : j ≤ i <;> by_cases h3 : (len : Int) < j
  all_goals first
    | (exfalso; omega)
    | (go_enter Try.func15, Try.ntmps15
       go_wp2_with fail
       refine (foldcheck_any A len cap rs _ hw hl).mono ?_
       rintro e w1 ⟨rfl, hb1⟩
       rw [He.out]
       go_wp2_with fail
       go_ret2
       exact ⟨rfl, hb1⟩)

set_option maxHeartbeats 2000000 in
theorem chained_good (A : Option Addr) (len cap : Nat) (rs : List RTx) (a b : Nat) (w : World) (hw : TxsAt w w.heap.size A len rs) (hl : len ≤ 4398046511104) (he : logErr rs 1 = 0) (hab : a < b) (hbl : b < len) :
    Calls Try.prog 15 #[.slice A len cap, .int .i64 ((a : Int) + 1), .int .i64 ((b : Int) + 1)] w fun e w' => e = .returned (.tuple #[.bool (((rs[b]?).map fun r => r.ws.any fun x => keysB (chainM rs a (b - a)) x.key).getD false), .int .i64 0]) ∧ Below w.heap.size w w' := by
  have He := Lib.hid he
  clear he
  have hmm := @run_makeMap Try.prog
  have hd1 : decide ((a : Int) + 1 < 1) = false := by rw [decide_eq_false_iff_not]; omega
  have hd2 : decide (b ≤ a) = false := by rw [decide_eq_false_iff_not]; omega
  have hd3 : decide ((len : Int) < (b : Int) + 1) = false := by rw [decide_eq_false_iff_not]; omega
  go_enter Try.func15, Try.ntmps15
  go_wp2_with fail
  refine (foldcheck_any A len cap rs _ hw hl).mono ?_
  rintro e w1 ⟨rfl, hb1⟩
  rw [He.out]
  have hs1 := hb1.size
  have Hb1 := Lib.hid hb1
  clear hb1
  go_wp2_with fail
  have hk0 : KeysAt ((w1.alloc (.map #[] 0)).alloc (.cells #[.map (some w1.heap.size)] 75)) (w1.heap.size + 1) w1.heap.size [] :=
    ⟨blk_new2 _ _ _, (OwnM.made _ _ _).alloc _, by omega⟩
  go_loopw [11] (fun n wr => ∃ t p m : Nat, p = a + t ∧ p ≤ b ∧ n = .int .i64 ((p : Int) + 1) ∧ KeysAt wr (w1.heap.size + 1) w1.heap.size (chainM rs a t) ∧ Below w1.heap.size w1 wr) (fun n _ => b + 1 - (RowKit.intOf n).toNat)
  case atStart => exact ⟨0, a, 0, rfl, by omega, rfl, hk0, ((Below.refl _ _).alloc (Nat.le_refl _) _).alloc (by simp) _⟩
  case round =>
    obtain ⟨t, p, -, hp, hpb, rfl, hks, hb⟩ := hrel
    obtain ⟨wo, hwo⟩ : ∃ wo : World, wo = wr := ⟨_, rfl⟩
    subst hwo
    have hz := hb.size
    obtain ⟨hkl1, hkl2⟩ := hks.lt
    have hbw : Below w.heap.size w wo := Hb1.out.trans (hb.mono hs1)
    have hr := hw.below hbw
    have Hks := Lib.hid hks
    have Hb := Lib.hid hb
    have Hbw := Lib.hid hbw
    have Hp := Lib.hid hp
    clear hks hb hbw
    by_cases hlt : p < b
    · obtain ⟨bb, off, r, rfl, hbl2, hx, x0, x1, hws, hrl⟩ := hr.cell2 (show p < len by omega)
      have hws2 : WsAt wo wo.heap.size r.A r.len r.ws := hws.more (by omega)
      have Hx := Lib.hid hx
      have Hws := Lib.hid hws
      clear hx hr hws
      by_cases ht : t = 0
      · obtain rfl : p = a := by omega
        subst ht
        clear hp Hp
        go_wp2_with fail
        go_loopw [59] (fun q wi => ∃ qn : Nat, qn ≤ r.len ∧ q = .int .i64 qn ∧ KeysAt wi (w1.heap.size + 1) w1.heap.size (puts (chainM rs p 0) (r.ws.take qn)) ∧ Below w1.heap.size w1 wi) (fun q _ => r.len - (RowKit.intOf q).toNat)
        case atStart => exact ⟨0, by omega, rfl, Hks.out, Hb.out⟩
        case round =>
          obtain ⟨qn, hq, rfl, hki, hbi⟩ := hrel
          have hbiw : Below w.heap.size w wr := Hb1.out.trans (hbi.mono hs1)
          have hri : WsAt wr w.heap.size r.A r.len r.ws := ((hw.below hbiw).2 r (List.mem_of_getElem? Hx.out)).1
          have c0 := blk_cell hki.1 0
          simp only [List.getElem?_toArray, List.getElem?_cons_zero] at c0
          have hzi := hbi.size
          obtain ⟨hkl1, hkl2⟩ := hki.lt
          have Hki := Lib.hid hki
          have Hbi := Lib.hid hbi
          clear hki hbi hbiw
          by_cases hq2 : qn < r.len
          · obtain ⟨b2, off2, x, hA2, hbl3, hx2, y0, y1, y2⟩ := WsAt.cell3 hri hq2
            have Hx2 := Lib.hid hx2
            clear hx2 hri
            rw [hA2]
            go_wp2_with (at_mapUpdate; refine wpList_update_M (κ := Value.string) (ν := Value.bool) (b := w1.heap.size) (m := puts (chainM rs p 0) (r.ws.take qn)) rfl _ _ _ rfl (Hki.out.2.1.alloc _) kstr Try.underlying75 x.key true rfl rfl rfl ?_; intro w' hown' hg')
            refine ⟨⟨qn + 1, by omega, by go_num, by rw [puts_snoc Hx2.out]; exact (Hki.out.alloc _).upd hown' hg', ?_⟩, by simp [RowKit.intOf]; omega⟩
            exact (Hbi.out.alloc (by omega) _).grown hg' (by simp; omega) (fun q hq => by injection hq; omega)
          · have hqr : qn = r.len := by omega
            have hfull : r.ws.take qn = r.ws := List.take_of_length_le (by rw [hri.len]; omega)
            have Hfull := Lib.hid hfull
            clear hfull hri
            go_wp2_with fail
            refine ⟨⟨0 + 1, p + 1, 0, by omega, by omega, by go_num, ?_, Hbi.out⟩, by simp [RowKit.intOf]; omega⟩
            have h1 := Hki.out
            rw [Hfull.out, ← chainM_hit (rs := rs) (a := p) (t := 0) (by simpa using Hx.out) (Or.inl rfl)] at h1
            exact h1
      · have hne : ((p : Int) + 1 == (a : Int) + 1) = false := by rw [beq_eq_false_iff_ne]; omega
        have hne2 : ¬p = a := by omega
        clear hp
        go_wp2_with fail
        refine (reached_any (w1.heap.size + 1) w1.heap.size (chainM rs a t) r.number r.A r.len r.cap r.ws _ Hks.out hws2 (by omega)).mono ?_
        rintro e w2 ⟨rfl, hb2⟩
        have hblw : bb < wo.heap.size := by omega
        have z1 := (hb2.cell (p := ⟨bb, off + p * 2 + 1, none⟩) hblw).trans x1
        have hk2 := Hks.out.below hb2 hkl1 hkl2
        have hb12 := Hb.out.trans (hb2.mono hz)
        have Hk2 := Lib.hid hk2
        have Hb12 := Lib.hid hb12
        clear hk2 hb12 hb2 Hks
        cases hc : r.ws.any fun x => keysB (chainM rs a t) x.key
        · have Hc := Lib.hid hc
          clear hc
          go_wp2_with fail
          refine ⟨⟨t + 1, p + 1, 0, by have := Hp.out; omega, by omega, by go_num, ?_, Hb12.out⟩, by simp [RowKit.intOf]; omega⟩
          rw [chainM_miss (by rw [← Hp.out]; exact Hx.out) ht Hc.out]
          exact Hk2.out
        · have Hc := Lib.hid hc
          clear hc
          go_wp2_with fail
          go_loopw [59] (fun q wi => ∃ qn : Nat, qn ≤ r.len ∧ q = .int .i64 qn ∧ KeysAt wi (w1.heap.size + 1) w1.heap.size (puts (chainM rs a t) (r.ws.take qn)) ∧ Below w1.heap.size w1 wi) (fun q _ => r.len - (RowKit.intOf q).toNat)
          case atStart => exact ⟨0, by omega, rfl, Hk2.out, Hb12.out⟩
          case round =>
            obtain ⟨qn, hq, rfl, hki, hbi⟩ := hrel
            have hbiw : Below w.heap.size w wr := Hb1.out.trans (hbi.mono hs1)
            have hri : WsAt wr w.heap.size r.A r.len r.ws := ((hw.below hbiw).2 r (List.mem_of_getElem? Hx.out)).1
            have c0 := blk_cell hki.1 0
            simp only [List.getElem?_toArray, List.getElem?_cons_zero] at c0
            have hzi := hbi.size
            obtain ⟨hkl1, hkl2⟩ := hki.lt
            have Hki := Lib.hid hki
            have Hbi := Lib.hid hbi
            clear hki hbi hbiw
            by_cases hq2 : qn < r.len
            · obtain ⟨b2, off2, x, hA2, hbl3, hx2, y0, y1, y2⟩ := WsAt.cell3 hri hq2
              have Hx2 := Lib.hid hx2
              clear hx2 hri
              rw [hA2]
              go_wp2_with (at_mapUpdate; refine wpList_update_M (κ := Value.string) (ν := Value.bool) (b := w1.heap.size) (m := puts (chainM rs a t) (r.ws.take qn)) rfl _ _ _ rfl (Hki.out.2.1.alloc _) kstr Try.underlying75 x.key true rfl rfl rfl ?_; intro w' hown' hg')
              refine ⟨⟨qn + 1, by omega, by go_num, by rw [puts_snoc Hx2.out]; exact (Hki.out.alloc _).upd hown' hg', ?_⟩, by simp [RowKit.intOf]; omega⟩
              exact (Hbi.out.alloc (by omega) _).grown hg' (by simp; omega) (fun q hq => by injection hq; omega)
            · have hqr : qn = r.len := by omega
              have hfull : r.ws.take qn = r.ws := List.take_of_length_le (by rw [hri.len]; omega)
              have Hfull := Lib.hid hfull
              clear hfull hri
              go_wp2_with fail
              refine ⟨⟨t + 1, p + 1, 0, by have := Hp.out; omega, by omega, by go_num, ?_, Hbi.out⟩, by simp [RowKit.intOf]; omega⟩
              have h1 := Hki.out
              rw [Hfull.out, ← chainM_hit (rs := rs) (a := a) (t := t) (by rw [← Hp.out]; exact Hx.out) (Or.inr Hc.out)] at h1
              exact h1
    · obtain rfl : p = b := by omega
      obtain ⟨bb, off, r, rfl, hbl2, hx, x0, x1, hws, hrl⟩ := hr.cell2 hbl
      have hws2 : WsAt wo wo.heap.size r.A r.len r.ws := hws.more (by omega)
      have hfin : Value.bool (r.ws.any fun x => keysB (chainM rs a t) x.key) = .bool (((rs[p]?).map fun r => r.ws.any fun x => keysB (chainM rs a (p - a)) x.key).getD false) := by
        rw [hx, show p - a = t from by have := Hp.out; omega]; rfl
      have Hfin := Lib.hid hfin
      clear hx hr hws hp hfin
      go_wp2_with fail
      refine (reached_any (w1.heap.size + 1) w1.heap.size (chainM rs a t) r.number r.A r.len r.cap r.ws _ Hks.out hws2 (by omega)).mono ?_
      rintro e w2 ⟨rfl, hb2⟩
      have Hb2 := Lib.hid (Hbw.out.trans (hb2.mono (by omega)))
      clear hb2
      rw [Hfin.out]
      go_wp2_with fail
      go_ret2
      exact ⟨rfl, Hb2.out⟩
end Go.Proofs.Ytdcnaieieggclaa

namespace Go.Proofs.Ytdcnaieieggclaa
open Go.RowKit
set_option linter.unusedVariables false
set_option linter.unusedSimpArgs false

open Go.Maps
theorem toList_inj {a b : ByteArray} : a.toList = b.toList ↔ a = b := by
  rw [ByteArray.toList_eq, ByteArray.toList_eq]
  constructor
  · intro h; cases a; cases b; simp_all
  · intro h; rw [h]
def keyIs (k : ByteArray) (x : Wr) : Bool := x.key.toList == k.toList
def hasKey (ws : List Wr) (k : ByteArray) : Bool := ws.any (keyIs k)
def neighB (us vs : List Wr) : Bool := us.any fun x => hasKey vs x.key

theorem writes_any (n : Int) (A : Option Addr) (len cap : Nat) (ws : List Wr) (k : ByteArray) (w : World) (hw : WsAt w w.heap.size A len ws) (hl : len ≤ 4398046511104) :
    Calls Try.prog 59 #[.agg #[.int .i64 n, .slice A len cap], .string k] w fun e w' => e = .returned (.bool (hasKey ws k)) ∧ Below w.heap.size w w' := by
  have hlen := Lib.hid hw.len
  have hfin : ∀ (b : Bool) (w' : World), b = hasKey ws k → Below w.heap.size w w' → (Ending.returned (.bool b) = .returned (.bool (hasKey ws k)) ∧ Below w.heap.size w w') := fun b w' h h' => ⟨by rw [h], h'⟩
  have Hf := Lib.hid hfin
  clear hfin
  go_enter Try.func59, Try.ntmps59
  go_wp2_with fail
  go_loopw [5] (fun i wr => ∃ j : Nat, j ≤ len ∧ i = .int .i64 j ∧ (ws.take j).any (keyIs k) = false ∧ Below (w.heap.size + 1) (w.alloc (.cells #[.int .i64 n, .slice A len cap] 37)) wr) (fun i _ => len - (RowKit.intOf i).toNat)
  case atStart => exact ⟨0, Nat.zero_le _, rfl, rfl, by simpa using Below.refl _ _⟩
  case round =>
    obtain ⟨j, hj, rfl, hany, hb⟩ := hrel
    have hr := hw.below (below_box hb)
    have c1 := cell_box hb 1 rfl
    have hs := size_box hb
    have Hany := Lib.hid hany
    have Hb := Lib.hid hb
    clear hany hb
    by_cases hlt : j < len
    · obtain ⟨b, off, x, rfl, hbl, hx, x0, x1, x2⟩ := WsAt.cell3 hr hlt
      have Hx := Lib.hid hx
      clear hx
      cases hk : keyIs k x
      · have hk2 : (x.key.toList == k.toList) = false := hk
        have Hk := Lib.hid hk
        clear hk
        go_wp2_with fail
        exact ⟨⟨j + 1, by omega, by go_num, by rw [any_take_succ Hx.out, Hany.out, Hk.out]; rfl, Hb.out⟩, by simp [RowKit.intOf]; omega⟩
      · have hk2 : (x.key.toList == k.toList) = true := hk
        have Hk := Lib.hid hk
        clear hk
        go_wp2_with fail
        go_ret
        exact Hf.out _ _ (any_of Hx.out Hk.out).symm (below_box Hb.out)
    · go_wp2_with fail
      go_ret
      refine Hf.out _ _ ?_ (below_box Hb.out)
      have := Hany.out
      rw [List.take_of_length_le (by have := hlen.out; omega)] at this
      exact this.symm

set_option maxHeartbeats 1000000 in
theorem neigh_any (n : Int) (A : Option Addr) (len cap : Nat) (us : List Wr) (n2 : Int) (A2 : Option Addr) (len2 cap2 : Nat) (vs : List Wr) (w : World) (hw : WsAt w w.heap.size A len us) (hw2 : WsAt w w.heap.size A2 len2 vs) (hl : len ≤ 4398046511104) (hl2 : len2 ≤ 4398046511104) :
    Calls Try.prog 46 #[.agg #[.int .i64 n, .slice A len cap], .agg #[.int .i64 n2, .slice A2 len2 cap2]] w fun e w' => e = .returned (.bool (neighB us vs)) ∧ Below w.heap.size w w' := by
  have hlen := Lib.hid hw.len
  have hfin : ∀ (b : Bool) (w' : World), b = neighB us vs → Below w.heap.size w w' → (Ending.returned (.bool b) = .returned (.bool (neighB us vs)) ∧ Below w.heap.size w w') := fun b w' h h' => ⟨by rw [h], h'⟩
  have Hf := Lib.hid hfin
  clear hfin
  obtain ⟨W2, hW2⟩ : ∃ W2 : World, W2 = (w.alloc (.cells #[.int .i64 n, .slice A len cap] 37)).alloc (.cells #[.int .i64 n2, .slice A2 len2 cap2] 37) := ⟨_, rfl⟩
  have hz : W2.heap.size = w.heap.size + 2 := by rw [hW2]; simp
  have hB : Below w.heap.size w W2 := by rw [hW2]; exact ((Below.refl _ _).alloc (Nat.le_refl _) _).alloc (by simp) _
  have d1 : W2.cell? ⟨w.heap.size, 1, none⟩ = some (.slice A len cap) := by rw [hW2]; simp [go_sem]
  have e0 : W2.cell? ⟨w.heap.size + 1, 0, none⟩ = some (.int .i64 n2) := by rw [hW2]; simp [go_sem]
  have e1 : W2.cell? ⟨w.heap.size + 1, 1, none⟩ = some (.slice A2 len2 cap2) := by rw [hW2]; simp [go_sem]
  have hlt0 : w.heap.size < W2.heap.size := by omega
  have hlt1 : w.heap.size + 1 < W2.heap.size := by omega
  have HW2 := Lib.hid hW2
  have HB := Lib.hid hB
  have hD := fun (X : World) (h : Below W2.heap.size W2 X) => And.intro ((h.cell (p := ⟨w.heap.size, 1, none⟩) hlt0).trans d1) (And.intro ((h.cell (p := ⟨w.heap.size + 1, 0, none⟩) hlt1).trans e0) ((h.cell (p := ⟨w.heap.size + 1, 1, none⟩) hlt1).trans e1))
  have HD := Lib.hid hD
  clear hW2 hz hB d1 e0 e1 hD
  go_enter Try.func46, Try.ntmps46
  go_wp2_with fail
  rw [← HW2.out]
  go_loopw [5] (fun i wr => ∃ j : Nat, j ≤ len ∧ i = .int .i64 j ∧ (us.take j).any (fun x => hasKey vs x.key) = false ∧ Below W2.heap.size W2 wr) (fun i _ => len - (RowKit.intOf i).toNat)
  case atStart => exact ⟨0, Nat.zero_le _, rfl, rfl, Below.refl _ _⟩
  case round =>
    obtain ⟨j, hj, rfl, hany, hb⟩ := hrel
    have hbw : Below w.heap.size w wr := HB.out.trans (hb.mono (by omega))
    have hr := hw.below hbw
    have hr2 : WsAt wr wr.heap.size A2 len2 vs := (hw2.below hbw).more (by have := hb.size; omega)
    have hr2d : WsAt wr.drew wr.drew.heap.size A2 len2 vs := hr2
    obtain ⟨d1, e0, e1⟩ := HD.out _ hb
    have hs := hb.size
    have Hany := Lib.hid hany
    have Hb := Lib.hid hb
    have Hbw := Lib.hid hbw
    clear hany hb hbw hr2
    by_cases hlt : j < len
    · obtain ⟨b, off, x, rfl, hbl, hx, x0, x1, x2⟩ := WsAt.cell3 hr hlt
      have Hx := Lib.hid hx
      clear hx
      have Hr2 := Lib.hid hr2d
      clear hr2d hr
      go_wp2_with fail
      go_region_held3 (fun w' => w'.cell? ⟨w.heap.size, 1, none⟩ = some (.slice (some ⟨b, off, none⟩) len cap) ∧ w'.cell? ⟨w.heap.size + 1, 0, none⟩ = some (.int .i64 n2) ∧ w'.cell? ⟨w.heap.size + 1, 1, none⟩ = some (.slice A2 len2 cap2) ∧ w'.cell? ⟨b, off + j * 3, none⟩ = some (.string x.key))
        (first | exact ⟨d1, e0, e1, x0⟩ | exact ⟨g1, g2, g3, g4⟩)
        (first | (go_at_call 59; refine (writes_any n2 A2 len2 cap2 vs x.key wr.drew Hr2.out hl2).mono ?_; rintro e w1 ⟨rfl, hb1⟩; have hbx : Below wr.heap.size wr w1 := (Below.refl _ _).drew.trans hb1; have Hbx := Lib.hid hbx; have g1 := (hbx.cell (p := ⟨w.heap.size, 1, none⟩) (by show w.heap.size < _; omega)).trans d1; have g2 := (hbx.cell (p := ⟨w.heap.size + 1, 0, none⟩) (by show w.heap.size + 1 < _; omega)).trans e0; have g3 := (hbx.cell (p := ⟨w.heap.size + 1, 1, none⟩) (by show w.heap.size + 1 < _; omega)).trans e1; have g4 := (hbx.cell (p := ⟨b, off + j * 3, none⟩) (by show b < _; omega)).trans x0; clear hb1 hbx))
      have hb1 : Below W2.heap.size W2 w1 := Hb.out.trans (Hbx.out.mono hs)
      have Hb1 := Lib.hid hb1
      have Hbw1 := Lib.hid (HB.out.trans (hb1.mono (by omega)))
      clear hb1
      cases hk : hasKey vs x.key
      · have Hk := Lib.hid hk
        clear hk
        go_wp2_with fail
        exact ⟨⟨j + 1, by omega, by go_num, by rw [any_take_succ Hx.out, Hany.out, Hk.out]; rfl, Hb1.out⟩, by simp [RowKit.intOf]; omega⟩
      · have Hk := Lib.hid hk
        clear hk
        go_wp2_with fail
        go_ret
        exact Hf.out _ _ (show neighB us vs = true from List.any_eq_true.2 ⟨x, List.mem_of_getElem? Hx.out, Hk.out⟩).symm Hbw1.out
    · go_wp2_with fail
      go_ret
      refine Hf.out _ _ ?_ Hbw.out
      have := Hany.out
      rw [List.take_of_length_le (by have := hlen.out; omega)] at this
      exact this.symm
end Go.Proofs.Ytdcnaieieggclaa

namespace Go.Proofs.Ytdcnaieieggclaa
open Go.RowKit
set_option linter.unusedVariables false
set_option linter.unusedSimpArgs false

open Go.Maps
def wsOf (rs : List RTx) (p : Nat) : List Wr := ((rs[p]?).map RTx.ws).getD []
def pairB (rs : List RTx) (q p : Nat) : Bool := neighB (wsOf rs q) (wsOf rs p)
/-- The places to which a chain leads from a, behind t steps. -/
def reachL (rs : List RTx) (a : Nat) : Nat → List Nat
  | 0 => [a]
  | t + 1 => if (reachL rs a t).any (fun q => pairB rs q (a + 1 + t)) = true then reachL rs a t ++ [a + 1 + t] else reachL rs a t
theorem reachL_bd (rs : List RTx) (a : Nat) : ∀ t, ∀ q ∈ reachL rs a t, a ≤ q ∧ q ≤ a + t
  | 0, q, h => by simp [reachL] at h; omega
  | t + 1, q, h => by
    rw [reachL] at h
    split at h
    · rcases List.mem_append.1 h with h | h
      · have := reachL_bd rs a t q h; omega
      · simp at h; omega
    · have := reachL_bd rs a t q h; omega
theorem reachL_len (rs : List RTx) (a : Nat) : ∀ t, 1 ≤ (reachL rs a t).length ∧ (reachL rs a t).length ≤ t + 1
  | 0 => by simp [reachL]
  | t + 1 => by
    have := reachL_len rs a t
    rw [reachL]
    split
    · simp; omega
    · omega
def placeI (q : Nat) : Int := (q : Int) + 1
abbrev Pcell (q : Nat) : List Value := [.int .i64 ((q : Int) + 1)]
theorem len_p (l : List Nat) : ∀ x ∈ l, (Pcell x).length = 1 := fun _ _ => rfl
theorem one_p (x : Nat) : ∀ (u : Value), u ∈ Pcell x → u.oneCell' = true := by
  intro u hu; simp only [Pcell, List.mem_cons, List.not_mem_nil, or_false] at hu; rw [hu]; rfl

theorem rchained_err (A : Option Addr) (len cap : Nat) (rs : List RTx) (i j : Int) (w : World) (hw : TxsAt w w.heap.size A len rs) (hl : len ≤ 4398046511104) (he : logErr rs 1 ≠ 0) :
    Calls Try.prog 16 #[.slice A len cap, .int .i64 i, .int .i64 j] w fun e w' => e = .returned (.tuple #[.bool false, .int .i64 (logErr rs 1)]) ∧ Below w.heap.size w w' := by
  have hne : (logErr rs 1 != 0) = true := by simpa using he
  go_enter Try.func16, Try.ntmps16
  go_wp2_with fail
  refine (ref07check_any A len cap rs _ hw hl).mono ?_
  rintro e w1 ⟨rfl, hb1⟩
  go_wp2_with fail
  go_ret2
  exact ⟨rfl, hb1⟩
theorem rchained_arg (A : Option Addr) (len cap : Nat) (rs : List RTx) (i j : Int) (w : World) (hw : TxsAt w w.heap.size A len rs) (hl : len ≤ 4398046511104) (he : logErr rs 1 = 0) (ha : i < 1 ∨ j ≤ i ∨ (len : Int) < j) :
    Calls Try.prog 16 #[.slice A len cap, .int .i64 i, .int .i64 j] w fun e w' => e = .returned (.tuple #[.bool false, .int .i64 1]) ∧ Below w.heap.size w w' := by
  have He := Lib.hid he
  clear he
  by_cases h1 : i < 1 <;> by_cases h2 : j ≤ i <;> by_cases h3 : (len : Int) < j
  all_goals first
    | (exfalso; omega)
    | (go_enter Try.func16, Try.ntmps16
       go_wp2_with fail
       refine (ref07check_any A len cap rs _ hw hl).mono ?_
       rintro e w1 ⟨rfl, hb1⟩
       rw [He.out]
       go_wp2_with fail
       go_ret2
       exact ⟨rfl, hb1⟩)

set_option maxHeartbeats 2000000 in
set_option maxRecDepth 4000 in
theorem rchained_good (A : Option Addr) (len cap : Nat) (rs : List RTx) (a b : Nat) (w : World) (hw : TxsAt w w.heap.size A len rs) (hl : len ≤ 4398046511104) (he : logErr rs 1 = 0) (hab : a < b) (hbl : b < len) :
    Calls Try.prog 16 #[.slice A len cap, .int .i64 ((a : Int) + 1), .int .i64 ((b : Int) + 1)] w fun e w' => e = .returned (.tuple #[.bool (decide ((reachL rs a (b - a)).getLast? = some b)), .int .i64 0]) ∧ Below w.heap.size w w' := by
  have hl6 : len ≤ 65536 := by have h1 := logErr_le he; have h2 := hw.1.len; omega
  have He := Lib.hid he
  clear he
  obtain ⟨i0, hi, hz0, hz1, hz2⟩ := info_parts info_int
  have hd1 : decide ((a : Int) + 1 < 1) = false := by rw [decide_eq_false_iff_not]; omega
  have hd2 : decide (b ≤ a) = false := by rw [decide_eq_false_iff_not]; omega
  have hd3 : decide ((len : Int) < (b : Int) + 1) = false := by rw [decide_eq_false_iff_not]; omega
  go_enter Try.func16, Try.ntmps16
  go_wp2_with fail
  refine (ref07check_any A len cap rs _ hw hl).mono ?_
  rintro e w1 ⟨rfl, hb1⟩
  rw [He.out]
  have hs1 := hb1.size
  have Hb1 := Lib.hid hb1
  clear hb1
  go_wp2_with fail
  have hown0 : (w1.alloc (.cells #[.int .i64 ((a : Int) + 1)] 3)).ownsRow w1.heap.size 3 1 (.slice (some ⟨w1.heap.size, 0, none⟩) 1 1) (reachL rs a 0).length ((reachL rs a 0).flatMap Pcell) :=
    ⟨by simp [reachL, Pcell], Or.inr ⟨w1.heap.size, 1, _, rfl, Nat.le_refl _, blk_new _ _, by simp [reachL], by simp [maxLen], by simp, by simp [reachL, Pcell]⟩⟩
  go_loopw [9, 10] (fun v n wr => ∃ t p : Nat, p = a + 1 + t ∧ p ≤ b + 1 ∧ n = .int .i64 ((p : Int) + 1) ∧ wr.ownsRow w1.heap.size 3 1 v (reachL rs a t).length ((reachL rs a t).flatMap Pcell) ∧ Below w1.heap.size w1 wr) (fun _ n _ => b + 2 - (RowKit.intOf n).toNat)
  case atStart => exact ⟨0, a + 1, by omega, by omega, by go_num, hown0, (Below.refl _ _).alloc (Nat.le_refl _) _⟩
  case round =>
    obtain ⟨t, p, hp, hpb, rfl, hown, hb⟩ := hrel
    obtain ⟨wo, hwo⟩ : ∃ wo : World, wo = wr := ⟨_, rfl⟩
    subst hwo
    have hz := hb.size
    have hbw : Below w.heap.size w wo := Hb1.out.trans (hb.mono hs1)
    have hr := hw.below hbw
    obtain ⟨hn1, hn2⟩ := reachL_len rs a t
    have hbd := reachL_bd rs a t
    obtain ⟨L, hL⟩ : ∃ L, L = reachL rs a t := ⟨_, rfl⟩
    rw [← hL] at hown hn1 hn2 hbd
    obtain ⟨Ar, capr, rfl, hrow, -, hcapr⟩ := rowAt_own (len_p _) hown
    have HL := Lib.hid hL
    have Hown := Lib.hid hown
    have Hb := Lib.hid hb
    have Hbw := Lib.hid hbw
    have Hp := Lib.hid hp
    have Hbd := Lib.hid hbd
    have Hrow := Lib.hid hrow
    clear hL hown hb hbw hbd hrow
    by_cases hlt : p ≤ b
    · obtain ⟨bb, off, rp, rfl, hbl2, hx, x0, x1, hws, hrl⟩ := hr.cell2 (show p < len by omega)
      have hwp : wsOf rs p = rp.ws := by simp [wsOf, hx]
      have Hwp := Lib.hid hwp
      have Hx := Lib.hid hx
      clear hx hr hws hwp hp
      have hdec : decide (b < p) = false := by rw [decide_eq_false_iff_not]; omega
      go_wp2_with fail
      go_loopw [9, 11] (fun v i wi => ∃ kn : Nat, kn ≤ L.length ∧ i = .int .i64 kn ∧ v = .slice Ar L.length capr ∧ (L.take kn).any (fun q => pairB rs q p) = false ∧ Below wo.heap.size wo wi) (fun _ i _ => L.length - (RowKit.intOf i).toNat)
      case atStart => exact ⟨0, Nat.zero_le _, rfl, rfl, rfl, Below.refl _ _⟩
      case round =>
        obtain ⟨kn, hkn, rfl, rfl, hany, hbi⟩ := hrel
        have hbiw : Below w.heap.size w wr := Hbw.out.trans (hbi.mono (by omega))
        have hri := hw.below hbiw
        have hrowi := Hrow.out.below hbi
        have hszi := hbi.size
        have z0 := (hbi.cell (p := ⟨bb, off + p * 2, none⟩) (by show bb < _; omega)).trans x0
        have z1 := (hbi.cell (p := ⟨bb, off + p * 2 + 1, none⟩) (by show bb < _; omega)).trans x1
        have hwsp := (hri.2 rp)
        have Hany := Lib.hid hany
        have Hbi := Lib.hid hbi
        have Hbiw := Lib.hid hbiw
        clear hany hbi hbiw hwsp
        by_cases hk2 : kn < L.length
        · obtain ⟨br, offr, q, hAr, hblr, hq, hqc⟩ := hrowi.at_ hk2
          have q0 := hqc 0 _ rfl
          simp only [Nat.mul_one, Nat.add_zero] at q0
          obtain ⟨hq1, hq2⟩ := Hbd.out q (List.mem_of_getElem? hq)
          have Hq := Lib.hid hq
          subst hAr
          have hql : q < len := by have := Hp.out; omega
          have hpl : p < len := by omega
          have htl : t ≤ len := by have := Hp.out; omega
          have hwq1 : IntKind.i64.wrap (q : Int) = q := (by rw [IntKind.wrap_i64]; omega)
          have hwp1 : IntKind.i64.wrap (p : Int) = p := (by rw [IntKind.wrap_i64]; omega)
          have hq0 : (0 : Int) ≤ (q : Int) := by omega
          have hp0 : (0 : Int) ≤ (p : Int) := by omega
          have hqI : (q : Int) < (len : Int) := by omega
          have hpI : (p : Int) < (len : Int) := by omega
          obtain ⟨b2, off2, rq, e2, hblq, hxq, y0, y1, hwsq, hrlq⟩ := hri.cell2 hql
          simp only [Option.some.injEq, Addr.mk.injEq, and_true] at e2
          obtain ⟨rfl, rfl⟩ := e2
          have hwsp := hri.2 rp (List.mem_of_getElem? Hx.out)
          have hpair : pairB rs q p = neighB rq.ws rp.ws := by unfold pairB; rw [Hwp.out]; simp [wsOf, hxq]
          have hwq : WsAt wr.drew wr.drew.heap.size rq.A rq.len rq.ws := hwsq.more (by have := Hbiw.out.size; exact this)
          have hwp2 : WsAt wr.drew wr.drew.heap.size rp.A rp.len rp.ws := hwsp.1.more (by have := Hbiw.out.size; exact this)
          have Hpair := Lib.hid hpair
          have Hwq := Lib.hid hwq
          have Hwp2 := Lib.hid hwp2
          have hzi2 : w.heap.size ≤ wr.heap.size := Hbiw.out.size
          clear hq hqc hxq hwsq hwsp hpair hwq hwp2 hrowi hri
          go_wp2_with fail
          go_region_held3 (fun w' => w'.cell? ⟨br, offr + kn, none⟩ = some (.int .i64 ((q : Int) + 1)) ∧ w'.cell? ⟨bb, off + q * 2, none⟩ = some (.int .i64 rq.number) ∧ w'.cell? ⟨bb, off + q * 2 + 1, none⟩ = some (.slice rq.A rq.len rq.cap) ∧ w'.cell? ⟨bb, off + p * 2, none⟩ = some (.int .i64 rp.number) ∧ w'.cell? ⟨bb, off + p * 2 + 1, none⟩ = some (.slice rp.A rp.len rp.cap))
            (first | exact ⟨q0, y0, y1, z0, z1⟩ | exact ⟨g1, g2, g3, g4, g5⟩)
            (first | (go_at_call 46; refine (neigh_any rq.number rq.A rq.len rq.cap rq.ws rp.number rp.A rp.len rp.cap rp.ws wr.drew Hwq.out Hwp2.out (by omega) (by omega)).mono ?_; rintro e w2 ⟨rfl, hb2⟩; have hbx : Below wr.heap.size wr w2 := (Below.refl _ _).drew.trans hb2; have Hbx := Lib.hid hbx; have g1 := (hbx.cell (p := ⟨br, offr + kn, none⟩) (by show br < _; omega)).trans q0; have g2 := (hbx.cell (p := ⟨bb, off + q * 2, none⟩) (by show bb < _; omega)).trans y0; have g3 := (hbx.cell (p := ⟨bb, off + q * 2 + 1, none⟩) (by show bb < _; omega)).trans y1; have g4 := (hbx.cell (p := ⟨bb, off + p * 2, none⟩) (by show bb < _; omega)).trans z0; have g5 := (hbx.cell (p := ⟨bb, off + p * 2 + 1, none⟩) (by show bb < _; omega)).trans z1; clear hb2 hbx))
          clear hwq1 hwp1 hq0 hp0 hqI hpI
          rw [← Hpair.out]
          have hb2 : Below wo.heap.size wo w2 := Hbi.out.trans (Hbx.out.mono hszi)
          have Hb2 := Lib.hid hb2
          have hsz2 := hb2.size
          clear hb2
          cases hc : pairB rs q p
          · have Hc := Lib.hid hc
            clear hc
            go_wp2_with fail
            exact ⟨⟨kn + 1, by omega, by go_num, rfl, by rw [any_take_succ Hq.out, Hany.out, Hc.out]; rfl, Hb2.out⟩, by simp [RowKit.intOf]; omega⟩
          · have Hc := Lib.hid hc
            clear hc
            have hown2 := ownsRow_below Hown.out Hb2.out
            go_wp2_with (at_builtin; refine wpList_append_own _ rfl _ _ 62 rfl w1.heap.size 3 i0 _ 1 8 Try.underlying62 hi hz0 hz1 hz2 rfl (by decide) _ _ _ rfl (hown2.alloc _) ⟨w2.heap.size, 0, none⟩ 1 1 (Pcell p) rfl rfl ?c1 ?c2 ?c3 ?c4 ?c5 ?_)
            case c1 => exact cells_new _ _ _
            case c2 => exact one_p p
            case c3 => simp only [maxLen]; omega
            case c4 => omega
            case c5 => simp; omega
            intro v' w' hown' hg' hn'
            have hbl2 := below_grown_new hown2 hg' (by omega)
            have Hn := Lib.hid hn'
            clear hn' hg' hown2
            go_wp2_with fail
            refine ⟨⟨t + 1, p + 1, by have := Hp.out; omega, by omega, by go_num, ?_, (Hb.out.trans (Hb2.out.mono hz)).trans (hbl2.mono (by omega))⟩, by simp [RowKit.intOf]; omega⟩
            have h1 : reachL rs a (t + 1) = L ++ [p] := by
              rw [reachL, ← HL.out, ← Hp.out, if_pos (List.any_eq_true.2 ⟨q, List.mem_of_getElem? Hq.out, Hc.out⟩)]
            rw [h1]
            simpa using hown'
        · obtain rfl : kn = L.length := by omega
          have hno : L.any (fun q => pairB rs q p) = false := by have := Hany.out; rwa [List.take_of_length_le (Nat.le_refl _)] at this
          have Hno := Lib.hid hno
          clear hno hri hrowi
          go_wp2_with fail
          refine ⟨⟨t + 1, p + 1, by have := Hp.out; omega, by omega, by go_num, ?_, Hb.out.trans (Hbi.out.mono hz)⟩, by simp [RowKit.intOf]; omega⟩
          have h1 : reachL rs a (t + 1) = L := by
            rw [reachL, ← HL.out, ← Hp.out, if_neg (by rw [Hno.out]; simp)]
          rw [h1]
          exact ownsRow_below Hown.out Hbi.out
    · obtain rfl : p = b + 1 := by omega
      have hlast : ∃ z, L.getLast? = some z := by
        cases L with
        | nil => simp at hn1
        | cons x r => exact ⟨_, List.getLast?_cons ..⟩
      obtain ⟨z, hzl⟩ := hlast
      have hzi : L[L.length - 1]? = some z := by rw [← List.getLast?_eq_getElem?]; exact hzl
      obtain ⟨br, offr, q, hAr, hblr, hq, hqc⟩ := Hrow.out.at_ (show L.length - 1 < L.length by omega)
      have hqz : q = z := by rw [hq] at hzi; injection hzi
      subst hqz
      have q0 := hqc 0 _ rfl
      simp only [Nat.mul_one, Nat.add_zero] at q0
      subst hAr
      obtain ⟨M, hM⟩ : ∃ M, L.length = M + 1 := ⟨L.length - 1, by omega⟩
      have hM6 : M ≤ 65536 := by have := Hp.out; omega
      rw [hM] at q0 ⊢
      simp only [Nat.add_sub_cancel] at q0
      have hfin : Value.bool ((q : Int) + 1 == (b : Int) + 1) = .bool (decide ((reachL rs a (b - a)).getLast? = some b)) := by
        rw [show b - a = t from by have := Hp.out; omega, ← HL.out, hzl]
        congr 1
        by_cases hqb : q = b
        · rw [hqb]; exact (beq_self_eq_true _).trans (decide_eq_true rfl).symm
        · have h1 : ((q : Int) + 1 == (b : Int) + 1) = false := by rw [beq_eq_false_iff_ne]; omega
          rw [h1]; simp [hqb]
      have Hfin := Lib.hid hfin
      clear hfin hzl hzi hq hqc hr hp hM hn1 hn2 hcapr
      go_wp2_with fail
      go_ret2
      exact ⟨congrArg (fun x => Ending.returned (.tuple #[x, .int .i64 0])) Hfin.out, Hbw.out⟩
end Go.Proofs.Ytdcnaieieggclaa


namespace Go.Proofs.Ytdcnaieieggclaa
open Go.RowKit
set_option linter.unusedVariables false
set_option linter.unusedSimpArgs false

open Go.Maps
/-! The plain law: both know the same chains. -/
theorem hasKey_iff (ws : List Wr) (k : ByteArray) : hasKey ws k = true ↔ ∃ x ∈ ws, x.key = k := by
  unfold hasKey; rw [List.any_eq_true]
  constructor
  · rintro ⟨x, hx, h⟩; exact ⟨x, hx, by simpa [keyIs, toList_inj] using h⟩
  · rintro ⟨x, hx, h⟩; exact ⟨x, hx, by simpa [keyIs, toList_inj] using h⟩
theorem neigh_iff (us vs : List Wr) : neighB us vs = true ↔ ∃ x ∈ us, ∃ y ∈ vs, y.key = x.key := by
  unfold neighB; rw [List.any_eq_true]
  constructor
  · rintro ⟨x, hx, h⟩; exact ⟨x, hx, (hasKey_iff _ _).1 h⟩
  · rintro ⟨x, hx, h⟩; exact ⟨x, hx, (hasKey_iff _ _).2 h⟩
theorem keysB_put (m : List (ByteArray × Bool)) (k j : ByteArray) : keysB (mput m k true) j = (decide (k = j) || keysB m j) := by
  unfold keysB; rw [mget_mput]
  by_cases h : k = j
  · simp [h]
  · simp [h]
theorem keysB_puts (m : List (ByteArray × Bool)) (ws : List Wr) (j : ByteArray) : keysB (puts m ws) j = true ↔ keysB m j = true ∨ ∃ x ∈ ws, x.key = j := by
  induction ws generalizing m with
  | nil => simp [puts]
  | cons x r ih =>
    rw [show puts m (x :: r) = puts (mput m x.key true) r from rfl, ih, keysB_put]
    simp only [Bool.or_eq_true, decide_eq_true_eq, List.mem_cons, exists_eq_or_imp]
    constructor
    · rintro ((h | h) | h)
      · exact Or.inr (Or.inl h)
      · exact Or.inl h
      · exact Or.inr (Or.inr h)
    · rintro (h | h | h)
      · exact Or.inl (Or.inr h)
      · exact Or.inl (Or.inl h)
      · exact Or.inr h
theorem wsOf_get {rs : List RTx} {p : Nat} {r : RTx} (h : rs[p]? = some r) : wsOf rs p = r.ws := by simp [wsOf, h]
theorem chain_hit {rs : List RTx} {a t : Nat} {r : RTx} (ih : ∀ k, keysB (chainM rs a (t + 1)) k = true ↔ ∃ q ∈ reachL rs a t, ∃ x ∈ wsOf rs q, x.key = k) (h : rs[a + 1 + t]? = some r) :
    (r.ws.any fun x => keysB (chainM rs a (t + 1)) x.key) = (reachL rs a t).any fun q => pairB rs q (a + 1 + t) := by
  rw [Bool.eq_iff_iff, List.any_eq_true, List.any_eq_true]
  unfold pairB
  rw [wsOf_get h]
  constructor
  · rintro ⟨x, hx, hk⟩
    obtain ⟨q, hq, y, hy, e⟩ := (ih _).1 hk
    exact ⟨q, hq, (neigh_iff _ _).2 ⟨y, hy, x, hx, e.symm⟩⟩
  · rintro ⟨q, hq, hn⟩
    obtain ⟨y, hy, x, hx, e⟩ := (neigh_iff _ _).1 hn
    exact ⟨x, hx, (ih _).2 ⟨q, hq, y, hy, e.symm⟩⟩
theorem chain_keys (rs : List RTx) (a : Nat) : ∀ t, a + t < rs.length → ∀ k, keysB (chainM rs a (t + 1)) k = true ↔ ∃ q ∈ reachL rs a t, ∃ x ∈ wsOf rs q, x.key = k
  | 0, h, k => by
    have hx : rs[a + 0]? = some (rs[a]'h) := List.getElem?_eq_getElem h
    have hx0 : rs[a]? = some (rs[a]'h) := List.getElem?_eq_getElem h
    rw [chainM_hit hx (Or.inl rfl), keysB_puts]
    simp [chainM, keysB, mget, reachL, wsOf_get hx0]
  | t + 1, h, k => by
    have ih := chain_keys rs a t (by omega)
    have hx : rs[a + (t + 1)]? = some (rs[a + (t + 1)]'h) := List.getElem?_eq_getElem h
    have hx2 : rs[a + 1 + t]? = some (rs[a + (t + 1)]'h) := by rw [show a + 1 + t = a + (t + 1) from by omega]; exact hx
    have hh := chain_hit ih hx2
    cases hc : (reachL rs a t).any fun q => pairB rs q (a + 1 + t)
    · rw [hc] at hh
      rw [chainM_miss hx (by omega) hh, reachL, if_neg (by rw [hc]; simp)]
      exact ih k
    · rw [hc] at hh
      rw [chainM_hit hx (Or.inr hh), reachL, if_pos hc, keysB_puts, ih k]
      constructor
      · rintro (⟨q, hq, y⟩ | y)
        · exact ⟨q, List.mem_append_left _ hq, y⟩
        · exact ⟨a + 1 + t, List.mem_append_right _ (by simp), by rw [wsOf_get hx2]; exact y⟩
      · rintro ⟨q, hq, y⟩
        rcases List.mem_append.1 hq with hq | hq
        · exact Or.inl ⟨q, hq, y⟩
        · simp at hq; subst hq
          rw [wsOf_get hx2] at y
          exact Or.inr y
theorem chains_same (rs : List RTx) (a b : Nat) (hab : a < b) (hbl : b < rs.length) :
    (((rs[b]?).map fun r => r.ws.any fun x => keysB (chainM rs a (b - a)) x.key).getD false) = decide ((reachL rs a (b - a)).getLast? = some b) := by
  obtain ⟨d, rfl⟩ : ∃ d, b = a + 1 + d := ⟨b - a - 1, by omega⟩
  have hx : rs[a + 1 + d]? = some (rs[a + 1 + d]'hbl) := List.getElem?_eq_getElem hbl
  rw [hx, show a + 1 + d - a = d + 1 from by omega]
  simp only [Option.map_some, Option.getD_some]
  rw [chain_hit (chain_keys rs a d (by omega)) hx, reachL]
  cases hc : (reachL rs a d).any fun q => pairB rs q (a + 1 + d)
  · rw [if_neg (by simp)]
    symm
    rw [decide_eq_false_iff_not]
    intro hl
    have := reachL_bd rs a d _ (List.mem_of_getLast? hl)
    omega
  · rw [if_pos rfl]; simp
end Go.Proofs.Ytdcnaieieggclaa

namespace Go.Proofs.Ytdcnaieieggclaa
open Go.RowKit
set_option linter.unusedVariables false
set_option linter.unusedSimpArgs false

open Go.Maps
/-- What both answer. -/
def chainAns (rs : List RTx) (i j : Int) : Bool × Int :=
  if logErr rs 1 ≠ 0 then (false, logErr rs 1) else if i < 1 ∨ j ≤ i ∨ (rs.length : Int) < j then (false, 1) else
    (decide ((reachL rs (i - 1).toNat ((j - 1).toNat - (i - 1).toNat)).getLast? = some (j - 1).toNat), 0)
theorem chained_any (A : Option Addr) (len cap : Nat) (rs : List RTx) (i j : Int) (w : World) (hw : TxsAt w w.heap.size A len rs) (hl : len ≤ 4398046511104) :
    Calls Try.prog 15 #[.slice A len cap, .int .i64 i, .int .i64 j] w fun e w' => e = .returned (.tuple #[.bool (chainAns rs i j).1, .int .i64 (chainAns rs i j).2]) ∧ Below w.heap.size w w' := by
  have hlen := hw.1.len
  by_cases he : logErr rs 1 = 0
  · by_cases ha : i < 1 ∨ j ≤ i ∨ (rs.length : Int) < j
    · have h1 : chainAns rs i j = (false, 1) := by unfold chainAns; rw [if_neg (by simpa using he), if_pos ha]
      rw [h1]
      exact chained_arg A len cap rs i j w hw hl he (by omega)
    · obtain ⟨a, rfl⟩ : ∃ a : Nat, i = (a : Int) + 1 := ⟨(i - 1).toNat, by omega⟩
      obtain ⟨b, rfl⟩ : ∃ b : Nat, j = (b : Int) + 1 := ⟨(j - 1).toNat, by omega⟩
      have h1 : chainAns rs ((a : Int) + 1) ((b : Int) + 1) = (((rs[b]?).map fun r => r.ws.any fun x => keysB (chainM rs a (b - a)) x.key).getD false, 0) := by
        unfold chainAns
        rw [if_neg (by simpa using he), if_neg ha, chains_same rs a b (by omega) (by omega)]
        simp
      rw [h1]
      exact chained_good A len cap rs a b w hw hl he (by omega) (by omega)
  · have h1 : chainAns rs i j = (false, logErr rs 1) := by unfold chainAns; rw [if_pos he]
    rw [h1]
    exact chained_err A len cap rs i j w hw hl he
theorem rchained_any (A : Option Addr) (len cap : Nat) (rs : List RTx) (i j : Int) (w : World) (hw : TxsAt w w.heap.size A len rs) (hl : len ≤ 4398046511104) :
    Calls Try.prog 16 #[.slice A len cap, .int .i64 i, .int .i64 j] w fun e w' => e = .returned (.tuple #[.bool (chainAns rs i j).1, .int .i64 (chainAns rs i j).2]) ∧ Below w.heap.size w w' := by
  have hlen := hw.1.len
  by_cases he : logErr rs 1 = 0
  · by_cases ha : i < 1 ∨ j ≤ i ∨ (rs.length : Int) < j
    · have h1 : chainAns rs i j = (false, 1) := by unfold chainAns; rw [if_neg (by simpa using he), if_pos ha]
      rw [h1]
      exact rchained_arg A len cap rs i j w hw hl he (by omega)
    · obtain ⟨a, rfl⟩ : ∃ a : Nat, i = (a : Int) + 1 := ⟨(i - 1).toNat, by omega⟩
      obtain ⟨b, rfl⟩ : ∃ b : Nat, j = (b : Int) + 1 := ⟨(j - 1).toNat, by omega⟩
      have h1 : chainAns rs ((a : Int) + 1) ((b : Int) + 1) = (decide ((reachL rs a (b - a)).getLast? = some b), 0) := by
        unfold chainAns
        rw [if_neg (by simpa using he), if_neg ha]
        simp
      rw [h1]
      exact rchained_good A len cap rs a b w hw hl he (by omega) (by omega)
  · have h1 : chainAns rs i j = (false, logErr rs 1) := by unfold chainAns; rw [if_pos he]
    rw [h1]
    exact rchained_err A len cap rs i j w hw hl he
theorem getLast?_snoc {α : Type} (l : List α) (x : α) : (l ++ [x]).getLast? = some x := by simp
/-- The answer hangs on the numbers and the writes alone. -/
theorem logErr_congr : ∀ {rs rs' : List RTx} {m : Int}, rs'.map (fun r => (r.number, r.ws)) = rs.map (fun r => (r.number, r.ws)) → logErr rs' m = logErr rs m
  | [], [], _, _ => rfl
  | [], _ :: _, _, h => by simp at h
  | _ :: _, [], _, h => by simp at h
  | r :: rs, r' :: rs', m, h => by
    simp only [List.map_cons, List.cons.injEq, Prod.mk.injEq] at h
    simp only [logErr]
    rw [h.1.1, h.1.2, logErr_congr (m := m + 1) h.2]
theorem wsOf_congr {rs rs' : List RTx} (h : rs'.map (fun r => (r.number, r.ws)) = rs.map (fun r => (r.number, r.ws))) (p : Nat) : wsOf rs' p = wsOf rs p := by
  have := congrArg (fun l => (l[p]?).map Prod.snd) h
  simp only [List.getElem?_map, Option.map_map] at this
  unfold wsOf
  have e : (Prod.snd ∘ fun r : RTx => (r.number, r.ws)) = RTx.ws := rfl
  rw [e] at this
  rw [this]
theorem reachL_congr {rs rs' : List RTx} (h : rs'.map (fun r => (r.number, r.ws)) = rs.map (fun r => (r.number, r.ws))) (a : Nat) : ∀ t, reachL rs' a t = reachL rs a t
  | 0 => rfl
  | t + 1 => by
    have hp : ∀ q p, pairB rs' q p = pairB rs q p := fun q p => by unfold pairB; rw [wsOf_congr h, wsOf_congr h]
    rw [reachL, reachL, reachL_congr h a t]
    simp only [hp]
theorem chainAns_congr {rs rs' : List RTx} (h : rs'.map (fun r => (r.number, r.ws)) = rs.map (fun r => (r.number, r.ws))) (i j : Int) : chainAns rs' i j = chainAns rs i j := by
  have hl : rs'.length = rs.length := by simpa using congrArg List.length h
  unfold chainAns
  rw [logErr_congr h, hl, reachL_congr h]

set_option maxHeartbeats 2000000 in
theorem lawchains_any (A : Option Addr) (len cap : Nat) (rs : List RTx) (i j : Int) (w : World) (hw : TxsAt w w.heap.size A len rs) (hl : len * 32 ≤ 140737488351232)
    (hs : ∀ r ∈ rs, ∀ x ∈ r.ws, x.key.size ≤ 140737488351232 ∧ x.val.size ≤ 140737488351232) :
    Calls Try.prog 3 #[.slice A len cap, .int .i64 i, .int .i64 j] w fun e w' => e = .returned (.bool true) ∧ Below w.heap.size w w' := by
  have hlen := Lib.hid hw.1.len
  go_enter Try.func3, Try.ntmps3
  go_wp2_with fail
  refine (txsize_any A len cap rs _ hw (by omega) hs).mono ?_
  rintro e w1 ⟨q, rfl, q0, q1, hb1⟩
  have hs1 := hb1.size
  have hq : RowAt Icell 1 (w1.alloc (.cells #[.int .i64 q] 3)) (w1.alloc (.cells #[.int .i64 q] 3)).heap.size (some ⟨w1.heap.size, 0, none⟩) 1 [q] := rowAt_block [q] (len_int _) (blk_new _ _) (by simp) (fun j u hu => by simpa [Icell] using hu)
  have Hq := Lib.hid hq
  have Hb1 := Lib.hid hb1
  clear hq hb1
  go_wp2_with fail
  refine (beyond_any _ 1 1 [q] _ Hq.out (by omega) (fun x hx => by simp at hx; omega)).mono ?_
  rintro e w2 ⟨bb, rfl, hb2⟩
  have hb2w : Below w.heap.size w w2 := Hb1.out.trans ((((Below.refl _ _).alloc (Nat.le_refl _) _).trans (hb2.mono (by simp))).mono hs1)
  have hw2 := (hw.below hb2w).more hb2w.size
  have Hb2 := Lib.hid hb2w
  clear hb2 hb2w
  cases bb
  case true =>
    go_wp2_with fail
    go_ret
    exact ⟨rfl, Hb2.out⟩
  case false =>
    go_wp2_with fail
    refine (twins_any A len cap rs _ hw2 hl).mono ?_
    rintro e w3 ⟨rs', hl', rfl, hblk, htw, hb3⟩
    have hs2 := Hb2.out.size
    have hs3 := hb3.size
    have htx3 := txs_of_twin hl' hlen.out hblk htw (fun r hr => (hw.2 r hr).2)
    have hsame := tw_same htw (by rw [hl', hlen.out])
    have hans := chainAns_congr hsame i j
    have hlt3 : w2.heap.size < w3.heap.size := blk_lt hblk
    have Hblk := Lib.hid hblk
    have Htw := Lib.hid htw
    have Hl' := Lib.hid hl'
    have Hans := Lib.hid hans
    have Hb3 := Lib.hid hb3
    clear hblk htw hl' hans hsame hb3
    go_wp2_with fail
    refine (chained_any _ len (len + 1) rs' i j _ htx3 (by omega)).mono ?_
    rintro e w4 ⟨rfl, hb4⟩
    rw [Hans.out]
    have hs4 := hb4.size
    have hb24 : Below w2.heap.size w2 w4 := Hb3.out.trans (hb4.mono hs3)
    have hb04 : Below w.heap.size w w4 := Hb2.out.trans (hb24.mono hs2)
    have hw4 := (hw.below hb04).more hb04.size
    have hblk4 := (hb4.block w2.heap.size hlt3).trans Hblk.out
    have htw4 := Htw.out.keep hs4 (fun b _ hb => hb4.block b hb)
    have Hblk4 := Lib.hid hblk4
    have Htw4 := Lib.hid htw4
    have Hb04 := Lib.hid hb04
    have Hw4 := Lib.hid hw4
    have hc2 : ∀ W : World, TxsAt W W.heap.size A len rs → Calls Try.prog 16 #[.slice A len cap, .int .i64 i, .int .i64 j] W fun e w' => e = .returned (.tuple #[.bool (chainAns rs i j).1, .int .i64 (chainAns rs i j).2]) ∧ Below W.heap.size W w' := fun W h => rchained_any A len cap rs i j W h (by omega)
    clear Hans
    generalize chainAns rs i j = an at hc2 ⊢
    obtain ⟨an1, an2⟩ := an
    simp only at hc2
    have Hc2 := Lib.hid hc2
    clear hb4 hb24 hb04 hblk4 htw4 hw4 hc2
    go_wp2_with fail
    refine (Hc2.out _ Hw4.out).mono ?_
    rintro e w5 ⟨rfl, hb5⟩
    have hs5 := hb5.size
    have hlt4 : w2.heap.size < w4.heap.size := by omega
    have hw5 := (Hw4.out.below hb5).more hs5
    have hblk5 := (hb5.block w2.heap.size hlt4).trans Hblk4.out
    have htw5 := Htw4.out.keep hs5 (fun b _ hb => hb5.block b hb)
    have Hblk5 := Lib.hid hblk5
    have Htw5 := Lib.hid htw5
    have Hw5 := Lib.hid hw5
    have Hb05 := Lib.hid (Hb04.out.trans (hb5.mono Hb04.out.size))
    clear hb5 hw5 hblk5 htw5
    go_wp2_with fail
    refine (lefts_any w2.heap.size A len cap rs rs' _ Hl'.out Hblk5.out Htw5.out Hw5.out hl).mono ?_
    rintro e w6 ⟨rfl, hb6⟩
    have Hb06 := Lib.hid (Hb05.out.trans (hb6.mono Hb05.out.size))
    clear hb6
    go_wp2_with fail
    go_ret
    exact ⟨rfl, Hb06.out⟩
end Go.Proofs.Ytdcnaieieggclaa

/- From a map that the walk keeps to what the library's iterators ask; the order of keys. Plain theorems over any program. -/
namespace Go.Proofs.Ytdcnaieieggclaa
open Go.RowKit
set_option linter.unusedVariables false
set_option linter.unusedSimpArgs false

open Go.MapKept Go.Maps Go.WideShapes Go.WideMaps
section
variable {V : Type} {ν : V → Value} {P : Program} {kt : TypeId} {w : World} {b : Nat}
theorem ownM_strs {m : List (ByteArray × V)} (hk : P.underlying kt = some .string) (h : OwnM Value.string ν w b m) (hn : m.length ≤ maxLen) (hs : ∀ p ∈ m, p.1.size ≤ maxLen) :
    ∃ D : DataW Unit, w.ownsMap P kt (fun _ => some (.nil, [])) b m.length D ∧ (strKeys D).Perm (m.map fun p => p.1.data.toList) ∧ Maps.size D = m.length := by
  obtain ⟨es, clock, hb, hst, he⟩ := h
  have hlen : es.toList.length = m.length := by simpa using congrArg List.length he
  have hsz : es.size = m.length := by rw [← Array.length_toList, hlen]
  obtain ⟨F, hF⟩ : ∃ F : Value × Value → Option (Lit × DataW Unit), F = fun q => (keyOf P kt q.1).map fun l => (l, .nil) := ⟨_, rfl⟩
  have hrd : ∀ x : MapEntry, WideElems.rd P kt (fun _ => some ((.nil : DataW Unit), [])) x = F (x.key, x.val) := fun x => by
    rw [hF]; simp only [WideElems.rd, Option.map_some]; cases keyOf P kt x.key <;> rfl
  have hFp : ∀ p ∈ m, F (.string p.1, ν p.2) = some (.string p.1.data.toList, .nil) := fun p hp => by rw [hF]; simp [keyOf_string_mk hk (hs p hp)]
  have hmap : es.toList.map (WideElems.rg P kt (fun _ => some ((.nil : DataW Unit), []))) = m.map fun p => (Lit.string p.1.data.toList, .nil) := by
    have h1 : es.toList.map (WideElems.rg P kt (fun _ => some ((.nil : DataW Unit), []))) = (es.toList.map fun e => (e.key, e.val)).map fun q => (F q).getD (.bool false, .nil) := by
      rw [List.map_map]; refine List.map_congr_left fun x _ => ?_
      simp only [WideElems.rg, hrd, Function.comp]
    rw [h1, he, List.map_map]
    refine List.map_congr_left fun p hp => ?_
    simp [Function.comp, hFp p hp]
  refine ⟨_, ⟨es, clock, hb, ⟨by omega, hst, fun x hx => ?_⟩, by omega, rfl⟩, ?_, ?_⟩
  · have h1 : (x.key, x.val) ∈ m.map (fun p => (Value.string p.1, ν p.2)) := by rw [← he]; exact List.mem_map.2 ⟨x, hx, rfl⟩
    obtain ⟨p, hp, e⟩ := List.mem_map.1 h1
    exact ⟨_, by rw [hrd, ← e]; exact hFp p hp⟩
  · rw [hmap]
    refine ((sorted_perm _).map _).trans ?_
    rw [List.map_map]
    exact List.Perm.of_eq (List.map_congr_left fun p _ => rfl)
  · rw [hmap, Maps.size_eq, (sorted_perm _).length_eq, List.length_map]
theorem ownM_ints {m : List (Int × V)} (hk : P.underlying kt = some (.int .i64)) (h : OwnM (Value.int .i64) ν w b m) (hn : m.length ≤ maxLen) (hs : ∀ p ∈ m, (Lit.int .i64 p.1).wf = true) :
    ∃ D : DataW Unit, w.ownsMap P kt (fun _ => some (.nil, [])) b m.length D ∧ (intKeys D).Perm (m.map fun p => p.1) ∧ Maps.size D = m.length := by
  obtain ⟨es, clock, hb, hst, he⟩ := h
  have hlen : es.toList.length = m.length := by simpa using congrArg List.length he
  have hsz : es.size = m.length := by rw [← Array.length_toList, hlen]
  obtain ⟨F, hF⟩ : ∃ F : Value × Value → Option (Lit × DataW Unit), F = fun q => (keyOf P kt q.1).map fun l => (l, .nil) := ⟨_, rfl⟩
  have hrd : ∀ x : MapEntry, WideElems.rd P kt (fun _ => some ((.nil : DataW Unit), [])) x = F (x.key, x.val) := fun x => by
    rw [hF]; simp only [WideElems.rd, Option.map_some]; cases keyOf P kt x.key <;> rfl
  have hFp : ∀ p ∈ m, F (.int .i64 p.1, ν p.2) = some (.int .i64 p.1, .nil) := fun p hp => by rw [hF]; simp [keyOf_int_mk hk (hs p hp)]
  have hmap : es.toList.map (WideElems.rg P kt (fun _ => some ((.nil : DataW Unit), []))) = m.map fun p => (Lit.int .i64 p.1, .nil) := by
    have h1 : es.toList.map (WideElems.rg P kt (fun _ => some ((.nil : DataW Unit), []))) = (es.toList.map fun e => (e.key, e.val)).map fun q => (F q).getD (.bool false, .nil) := by
      rw [List.map_map]; refine List.map_congr_left fun x _ => ?_
      simp only [WideElems.rg, hrd, Function.comp]
    rw [h1, he, List.map_map]
    refine List.map_congr_left fun p hp => ?_
    simp [Function.comp, hFp p hp]
  refine ⟨_, ⟨es, clock, hb, ⟨by omega, hst, fun x hx => ?_⟩, by omega, rfl⟩, ?_, ?_⟩
  · have h1 : (x.key, x.val) ∈ m.map (fun p => (Value.int .i64 p.1, ν p.2)) := by rw [← he]; exact List.mem_map.2 ⟨x, hx, rfl⟩
    obtain ⟨p, hp, e⟩ := List.mem_map.1 h1
    exact ⟨_, by rw [hrd, ← e]; exact hFp p hp⟩
  · rw [hmap]
    refine ((sorted_perm _).map _).trans ?_
    rw [List.map_map]
    exact List.Perm.of_eq (List.map_congr_left fun p _ => rfl)
  · rw [hmap, Maps.size_eq, (sorted_perm _).length_eq, List.length_map]
end

/-! ### keys in order -/
def kL (k : ByteArray) : List UInt8 := k.data.toList
theorem kL_inj {a b : ByteArray} (h : kL a = kL b) : a = b := by
  unfold kL at h; cases a; cases b; simp_all
theorem kL_mk (l : List UInt8) : kL ⟨l.toArray⟩ = l := by simp [kL]
theorem mk_kL (k : ByteArray) : (⟨(kL k).toArray⟩ : ByteArray) = k := by simp [kL]
/-- One key ahead of another one. -/
def ltB (a b : ByteArray) : Bool := decide (kL a < kL b)
theorem ltB_irr (a : ByteArray) : ltB a a = false := by simp [ltB, List.lt_irrefl]
theorem ltB_trans {a b c : ByteArray} (h : ltB a b = true) (k : ltB b c = true) : ltB a c = true := by
  simp only [ltB, decide_eq_true_eq] at *; exact List.lt_trans h k
theorem ltB_asymm {a b : ByteArray} (h : ltB a b = true) : ltB b a = false := by
  cases hb : ltB b a
  · rfl
  · have := ltB_trans h hb; rw [ltB_irr] at this; cases this
theorem ltB_total {a b : ByteArray} (h : ltB a b = false) (k : ltB b a = false) : a = b := by
  simp only [ltB, decide_eq_false_iff_not] at h k
  exact kL_inj (List.le_antisymm (List.not_lt.1 k) (List.not_lt.1 h))
theorem ltB_or (a b : ByteArray) : ltB a b = true ∨ a = b ∨ ltB b a = true := by
  cases h : ltB a b
  · cases k : ltB b a
    · exact Or.inr (Or.inl (ltB_total h k))
    · exact Or.inr (Or.inr rfl)
  · exact Or.inl rfl
theorem ltB_ne {a b : ByteArray} (h : ltB a b = true) : a ≠ b := by rintro rfl; rw [ltB_irr] at h; cases h
/-- A list of keys that rises. -/
def Rises (l : List ByteArray) : Prop := l.Pairwise fun a b => ltB a b = true
theorem Rises.nodup {l : List ByteArray} (h : Rises l) : l.Nodup := h.imp fun h => ltB_ne h
theorem rises_eq {l l' : List ByteArray} (h : Rises l) (h' : Rises l') (hm : ∀ x, x ∈ l ↔ x ∈ l') : l = l' :=
  List.Perm.eq_of_pairwise (le := fun a b => ltB a b = true) (fun a b _ _ h1 h2 => by rw [ltB_asymm h1] at h2; cases h2) h h' ((List.perm_ext_iff_of_nodup h.nodup h'.nodup).2 hm)
/-- A map's keys, rising. -/
def sortedK {V : Type} (m : List (ByteArray × V)) : List ByteArray := ((m.map fun p => kL p.1).mergeSort leB).map fun l => ⟨l.toArray⟩
theorem mem_sortedK {V : Type} (m : List (ByteArray × V)) (k : ByteArray) : k ∈ sortedK m ↔ k ∈ m.map (·.1) := by
  unfold sortedK
  simp only [List.mem_map, List.mem_mergeSort]
  constructor
  · rintro ⟨l, ⟨p, hp, rfl⟩, rfl⟩; exact ⟨p, hp, (mk_kL _).symm⟩
  · rintro ⟨p, hp, rfl⟩; exact ⟨_, ⟨p, hp, rfl⟩, mk_kL _⟩
theorem len_sortedK {V : Type} (m : List (ByteArray × V)) : (sortedK m).length = m.length := by simp [sortedK]
theorem rises_sortedK {V : Type} {m : List (ByteArray × V)} (h : (m.map (·.1)).Nodup) : Rises (sortedK m) := by
  unfold sortedK Rises
  rw [List.pairwise_map]
  have tr : ∀ a b c : List UInt8, leB a b = true → leB b c = true → leB a c = true := fun a b c h1 h2 => by simp only [leB, decide_eq_true_eq] at *; exact List.le_trans h1 h2
  have to : ∀ a b : List UInt8, (leB a b || leB b a) = true := fun a b => by simp only [leB, Bool.or_eq_true, decide_eq_true_eq]; exact List.le_total a b
  have hp := List.pairwise_mergeSort tr to (m.map fun p => kL p.1)
  have hn : ((m.map fun p => kL p.1).mergeSort leB).Nodup := (List.mergeSort_perm _ _).nodup_iff.2 (by
    have : (m.map fun p => kL p.1) = (m.map (·.1)).map kL := by simp
    rw [this]; exact List.Pairwise.map kL (fun a b hab e => hab (kL_inj e)) h)
  refine (hp.and hn).imp fun {a b} ⟨h1, h2⟩ => ?_
  simp only [ltB, kL_mk, leB, decide_eq_true_eq] at *
  exact Classical.byContradiction fun hc => h2 (List.le_antisymm h1 (List.not_lt.1 hc))
/-- What the library hands back, in these words. -/
theorem sortedK_perm {V : Type} {m : List (ByteArray × V)} {ss : List (List UInt8)} (h : ss.Perm (m.map fun p => p.1.data.toList)) : ((ss.mergeSort (fun x y => decide (x ≤ y))).map fun l => (⟨l.toArray⟩ : ByteArray)) = sortedK m := by
  unfold sortedK
  rw [show (ss.mergeSort fun x y => decide (x ≤ y)) = ss.mergeSort leB from rfl, mergeSort_of_perm h]; rfl
end Go.Proofs.Ytdcnaieieggclaa

/- The store that a log comes to, in plain lists: as a map, as entries that rise; both are one. Plain theorems over any program. -/
namespace Go.Proofs.Ytdcnaieieggclaa
open Go.RowKit
set_option linter.unusedVariables false
set_option linter.unusedSimpArgs false

structure Ent where
  key : ByteArray
  val : ByteArray
def Ent.cells (x : Ent) : List Value := [.string x.key, .string x.val]
abbrev EntsAt := RowAt Ent.cells 2
theorem len_ent (xs : List Ent) : ∀ x ∈ xs, (Ent.cells x).length = 2 := fun _ _ => rfl
theorem one_ent (x : Ent) : ∀ (u : Value), u ∈ x.cells → u.oneCell' = true := by
  intro u hu; simp only [Ent.cells, List.mem_cons, List.not_mem_nil, or_false] at hu; rcases hu with rfl | rfl <;> rfl
abbrev KV := List (ByteArray × ByteArray)
def stepM (m : KV) (x : Wr) : KV := if x.drop then mdel m x.key else mput m x.key x.val
def playM (m : KV) (ws : List Wr) : KV := ws.foldl stepM m
def stepE (st : List Ent) (x : Wr) : List Ent := st.filter (fun e => ltB e.key x.key) ++ (if x.drop then [] else [⟨x.key, x.val⟩]) ++ st.filter (fun e => ltB x.key e.key)
def playE (st : List Ent) (ws : List Wr) : List Ent := ws.foldl stepE st
def allW (rs : List RTx) (n : Nat) : List Wr := (rs.take n).flatMap RTx.ws
def foldM (rs : List RTx) (n : Nat) : KV := playM [] (allW rs n)
def foldE (rs : List RTx) (n : Nat) : List Ent := playE [] (allW rs n)
theorem allW_succ {rs : List RTx} {n : Nat} {r : RTx} (h : rs[n]? = some r) : allW rs (n + 1) = allW rs n ++ r.ws := by
  unfold allW; rw [List.take_add_one, h]; simp
theorem foldM_succ {rs : List RTx} {n : Nat} {r : RTx} (h : rs[n]? = some r) : foldM rs (n + 1) = playM (foldM rs n) r.ws := by
  unfold foldM; rw [allW_succ h]; simp [playM]
theorem foldE_succ {rs : List RTx} {n : Nat} {r : RTx} (h : rs[n]? = some r) : foldE rs (n + 1) = playE (foldE rs n) r.ws := by
  unfold foldE; rw [allW_succ h]; simp [playE]
theorem playM_snoc {m : KV} {ws : List Wr} {k : Nat} {x : Wr} (h : ws[k]? = some x) : playM m (ws.take (k + 1)) = stepM (playM m (ws.take k)) x := by
  unfold playM; rw [List.take_add_one, h]; simp [List.foldl_append]
theorem playE_snoc {st : List Ent} {ws : List Wr} {k : Nat} {x : Wr} (h : ws[k]? = some x) : playE st (ws.take (k + 1)) = stepE (playE st (ws.take k)) x := by
  unfold playE; rw [List.take_add_one, h]; simp [List.foldl_append]

def RisesE (st : List Ent) : Prop := st.Pairwise fun a b => ltB a.key b.key = true
theorem RisesE.keys {st : List Ent} (h : RisesE st) : Rises (st.map (·.key)) := List.pairwise_map.2 h
def Agree (st : List Ent) (m : KV) : Prop := RisesE st ∧ (m.map (·.1)).Nodup ∧ ∀ e : Ent, e ∈ st ↔ mget m e.key = some e.val
theorem rises_step {st : List Ent} (h : RisesE st) (x : Wr) : RisesE (stepE st x) := by
  unfold stepE RisesE
  rw [List.pairwise_append, List.pairwise_append]
  refine ⟨⟨h.filter _, ?_, ?_⟩, h.filter _, ?_⟩
  · split <;> simp
  · intro a ha b hb
    split at hb
    · simp at hb
    · simp at hb; subst hb; simpa using (List.mem_filter.1 ha).2
  · intro a ha b hb
    have h2 : ltB x.key b.key = true := by simpa using (List.mem_filter.1 hb).2
    rcases List.mem_append.1 ha with ha | ha
    · have h1 : ltB a.key x.key = true := by simpa using (List.mem_filter.1 ha).2
      exact ltB_trans h1 h2
    · split at ha
      · simp at ha
      · simp at ha; subst ha; exact h2
theorem mem_step (st : List Ent) (x : Wr) (e : Ent) : e ∈ stepE st x ↔ (e ∈ st ∧ e.key ≠ x.key) ∨ (x.drop = false ∧ e = ⟨x.key, x.val⟩) := by
  unfold stepE
  simp only [List.mem_append, List.mem_filter]
  have hmid : e ∈ (if x.drop then ([] : List Ent) else [⟨x.key, x.val⟩]) ↔ (x.drop = false ∧ e = ⟨x.key, x.val⟩) := by
    cases x.drop <;> simp
  rw [hmid]
  constructor
  · rintro ((⟨h1, h2⟩ | h) | ⟨h1, h2⟩)
    · exact Or.inl ⟨h1, ltB_ne h2⟩
    · exact Or.inr h
    · exact Or.inl ⟨h1, fun e => ltB_ne h2 e.symm⟩
  · rintro (⟨h1, h2⟩ | h)
    · rcases ltB_or e.key x.key with h3 | h3 | h3
      · exact Or.inl (Or.inl ⟨h1, h3⟩)
      · exact absurd h3 h2
      · exact Or.inr ⟨h1, h3⟩
    · exact Or.inl (Or.inr h)
theorem agree_step {st : List Ent} {m : KV} (h : Agree st m) (x : Wr) : Agree (stepE st x) (stepM m x) := by
  refine ⟨rises_step h.1 x, ?_, fun e => ?_⟩
  · unfold stepM; split
    · exact nodup_mdel _ h.2.1
    · exact nodup_mput _ _ h.2.1
  · rw [mem_step, h.2.2]
    unfold stepM
    cases hd : x.drop
    · simp only [Bool.false_eq_true, if_false, true_and]
      rw [mget_mput]
      by_cases hk : x.key = e.key
      · rw [if_pos hk]
        constructor
        · rintro (⟨-, h2⟩ | h2)
          · exact absurd hk.symm h2
          · rw [h2]
        · intro h2; injection h2 with h2; right; cases e; simp_all
      · rw [if_neg hk]
        constructor
        · rintro (⟨h1, -⟩ | h2)
          · exact h1
          · subst h2; exact absurd rfl hk
        · intro h2; exact Or.inl ⟨h2, fun e => hk e.symm⟩
    · simp only [if_true, Bool.true_eq_false, false_and, or_false]
      rw [mget_mdel h.2.1]
      by_cases hk : x.key = e.key
      · rw [if_pos hk]; simp [hk]
      · rw [if_neg hk]; exact ⟨fun h => h.1, fun h => ⟨h, fun e => hk e.symm⟩⟩
theorem agree_play {st : List Ent} {m : KV} (h : Agree st m) (ws : List Wr) : Agree (playE st ws) (playM m ws) := by
  induction ws generalizing st m with
  | nil => exact h
  | cons x r ih => exact ih (agree_step h x)
theorem agree_fold (rs : List RTx) (n : Nat) : Agree (foldE rs n) (foldM rs n) := agree_play (st := []) (m := []) ⟨List.Pairwise.nil, by simp, fun e => by simp [mget]⟩ _
/-- A map's entries, rising. -/
def entsOf (m : KV) : List Ent := (sortedK m).map fun k => ⟨k, (mget m k).getD ⟨#[]⟩⟩
theorem agree_ents {st : List Ent} {m : KV} (h : Agree st m) : entsOf m = st := by
  have hk : sortedK m = st.map (·.key) := by
    refine rises_eq (rises_sortedK h.2.1) h.1.keys fun k => ?_
    rw [mem_sortedK]
    constructor
    · intro hm
      cases hg : mget m k with
      | none => exact absurd hm ((mget_none_iff _ _).1 hg)
      | some v => exact List.mem_map.2 ⟨⟨k, v⟩, (h.2.2 _).2 hg, rfl⟩
    · intro hm
      obtain ⟨e, he, rfl⟩ := List.mem_map.1 hm
      have := (h.2.2 e).1 he
      exact Classical.byContradiction fun hc => by rw [(mget_none_iff _ _).2 hc] at this; cases this
  unfold entsOf
  rw [hk, List.map_map]
  conv => rhs; rw [← List.map_id st]
  refine List.map_congr_left fun e he => ?_
  simp [(h.2.2 e).1 he]
theorem ents_fold (rs : List RTx) (n : Nat) : entsOf (foldM rs n) = foldE rs n := agree_ents (agree_fold rs n)

/-! ### where a key stands -/
/-- p is the place of a key among entries; hit: is it there? -/
def PlaceOf (st : List Ent) (k : ByteArray) (p : Nat) (hit : Bool) : Prop :=
  p ≤ st.length ∧ (∀ (i : Nat) (x : Ent), st[i]? = some x → (i < p ↔ ltB x.key k = true)) ∧ hit = (((st[p]?).map fun x => x.key.toList == k.toList).getD false)
theorem toL_eq (a b : ByteArray) : (a.toList == b.toList) = decide (a = b) := by
  rw [ByteArray.toList_eq, ByteArray.toList_eq]
  by_cases h : a = b
  · simp [h]
  · simp only [h, decide_false, beq_eq_false_iff_ne]
    exact fun e => h (kL_inj e)
theorem PlaceOf.take {st : List Ent} {k : ByteArray} {p : Nat} {hit : Bool} (h : PlaceOf st k p hit) : st.take p = st.filter fun e => ltB e.key k := by
  conv => rhs; rw [← List.take_append_drop p st]
  rw [List.filter_append, List.filter_eq_self.2, List.filter_eq_nil_iff.2, List.append_nil]
  · intro x hx
    obtain ⟨i, hi⟩ := List.getElem?_of_mem hx
    rw [List.getElem?_drop] at hi
    intro hc
    have := (h.2.1 _ x hi).2 hc
    omega
  · intro x hx
    obtain ⟨i, hi⟩ := List.getElem?_of_mem hx
    have hl := (List.getElem?_eq_some_iff.1 hi).1
    have hl := Nat.lt_min.1 (by rw [List.length_take] at hl; exact hl)
    rw [List.getElem?_take_of_lt hl.1] at hi
    exact (h.2.1 _ x hi).1 hl.1
theorem rises_lt {st : List Ent} (h : RisesE st) {i j : Nat} {x y : Ent} (hi : st[i]? = some x) (hj : st[j]? = some y) (hij : i < j) : ltB x.key y.key = true := by
  obtain ⟨h1, rfl⟩ := List.getElem?_eq_some_iff.1 hi
  obtain ⟨h2, rfl⟩ := List.getElem?_eq_some_iff.1 hj
  exact List.pairwise_iff_getElem.1 h i j h1 h2 hij
theorem PlaceOf.drop {st : List Ent} {k : ByteArray} {p : Nat} {hit : Bool} (hr : RisesE st) (h : PlaceOf st k p hit) : st.drop (p + if hit then 1 else 0) = st.filter fun e => ltB k e.key := by
  conv => rhs; rw [← List.take_append_drop (p + if hit then 1 else 0) st]
  rw [List.filter_append, List.filter_eq_nil_iff.2, List.nil_append, List.filter_eq_self.2]
  · intro x hx
    obtain ⟨i, hi⟩ := List.getElem?_of_mem hx
    rw [List.getElem?_drop] at hi
    have hn : ltB x.key k = false := by
      cases hc : ltB x.key k
      · rfl
      · have := (h.2.1 _ x hi).2 hc; omega
    rcases ltB_or x.key k with h1 | h1 | h1
    · rw [hn] at h1; cases h1
    · exfalso
      have hpl : p < st.length := by have := (List.getElem?_eq_some_iff.1 hi).1; omega
      have hp : st[p]? = some st[p] := List.getElem?_eq_getElem hpl
      have hh := h.2.2
      rw [hp] at hh
      simp only [Option.map_some, Option.getD_some, toL_eq] at hh
      by_cases hip : p < p + (if hit then 1 else 0) + i
      · have h2 := rises_lt hr hp hi hip
        rw [h1] at h2
        have := (h.2.1 p _ hp).2 h2
        omega
      · have e0 : (p + (if hit then 1 else 0) + i) = p := by omega
        rw [e0, hp] at hi
        injection hi with hi
        rw [hi, h1] at hh
        simp only [decide_true] at hh
        rw [hh] at e0; simp only [if_true] at e0; omega
    · exact h1
  · intro x hx hc
    obtain ⟨i, hi⟩ := List.getElem?_of_mem hx
    have hl := (List.getElem?_eq_some_iff.1 hi).1
    have hl := Nat.lt_min.1 (by rw [List.length_take] at hl; exact hl)
    rw [List.getElem?_take_of_lt hl.1] at hi
    by_cases hip : i < p
    · have := (h.2.1 _ x hi).1 hip
      rw [ltB_asymm this] at hc; cases hc
    · have hih : hit = true := by cases hit <;> simp_all <;> omega
      have e0 : i = p := by have := hl.1; rw [hih] at this; simp at this; omega
      subst e0
      have hh := h.2.2
      rw [hi, hih] at hh
      simp only [Option.map_some, Option.getD_some, toL_eq] at hh
      have := of_decide_eq_true hh.symm
      rw [this, ltB_irr] at hc; cases hc
/-- What a write makes of the entries, by the place. -/
theorem PlaceOf.write {st : List Ent} {x : Wr} {p : Nat} {hit : Bool} (hr : RisesE st) (h : PlaceOf st x.key p hit) :
    st.take p ++ (if x.drop then [] else [⟨x.key, x.val⟩]) ++ st.drop (p + if hit then 1 else 0) = stepE st x := by
  rw [h.take, h.drop hr]; rfl
/-- What is read at the place. -/
theorem PlaceOf.get {st : List Ent} {m : KV} {k : ByteArray} {p : Nat} {hit : Bool} (ha : Agree st m) (h : PlaceOf st k p hit) :
    (hit = true ∧ ∃ x, st[p]? = some x ∧ mget m k = some x.val) ∨ (hit = false ∧ mget m k = none) := by
  have hh := h.2.2
  cases hit
  · right; refine ⟨rfl, ?_⟩
    cases hg : mget m k with
    | none => rfl
    | some v =>
      exfalso
      have hm := (ha.2.2 ⟨k, v⟩).2 hg
      have h1 : (⟨k, v⟩ : Ent) ∈ st.drop p := by
        rw [← List.take_append_drop p st] at hm
        rcases List.mem_append.1 hm with h2 | h2
        · rw [h.take] at h2
          have := (List.mem_filter.1 h2).2
          simp [ltB_irr] at this
        · exact h2
      have := h.drop ha.1
      simp only [Bool.false_eq_true, if_false, Nat.add_zero] at this
      rw [this] at h1
      have := (List.mem_filter.1 h1).2
      simp [ltB_irr] at this
  · left; refine ⟨rfl, ?_⟩
    cases hp : st[p]? with
    | none => rw [hp] at hh; cases hh
    | some x =>
      rw [hp] at hh
      simp only [Option.map_some, Option.getD_some, toL_eq] at hh
      have hk := of_decide_eq_true hh.symm
      exact ⟨x, rfl, by have := (ha.2.2 x).1 (List.mem_of_getElem? hp); rwa [hk] at this⟩
/-- Does a key lie in a stretch? -/
def inB (key fin k : ByteArray) : Bool := !ltB k key && (decide (fin.size = 0) || ltB k fin)
/-- The last write of a key. -/
def lastW (ws : List Wr) (k : ByteArray) : Option Wr := ws.reverse.find? fun x => decide (x.key = k)
theorem lastW_snoc (ws : List Wr) (x : Wr) (k : ByteArray) : lastW (ws ++ [x]) k = if x.key = k then some x else lastW ws k := by
  unfold lastW; rw [List.reverse_append]; simp [List.find?_cons]; split <;> simp_all
theorem mget_playM {m : KV} (hn : (m.map (·.1)).Nodup) (ws : List Wr) (k : ByteArray) : mget (playM m ws) k = match lastW ws k with | none => mget m k | some x => if x.drop then none else some x.val := by
  have hnd : ∀ (m : KV), (m.map (·.1)).Nodup → ∀ ws, ((playM m ws).map (·.1)).Nodup := fun m h ws => by
    induction ws generalizing m with
    | nil => exact h
    | cons x r ih => refine ih _ ?_; unfold stepM; split; exact nodup_mdel _ h; exact nodup_mput _ _ h
  obtain ⟨l, rfl⟩ : ∃ l : List Wr, ws = l.reverse := ⟨ws.reverse, by simp⟩
  induction l with
  | nil => simp [lastW, playM]
  | cons x r ih =>
    rw [List.reverse_cons, lastW_snoc, show playM m (r.reverse ++ [x]) = stepM (playM m r.reverse) x from by simp [playM]]
    unfold stepM
    by_cases hk : x.key = k
    · rw [if_pos hk]
      cases hd : x.drop
      · simp [mget_mput, hk, hd]
      · simp [mget_mdel (hnd m hn _), hk, hd]
    · rw [if_neg hk]
      cases hd : x.drop
      · simp only [Bool.false_eq_true, if_false]; rw [mget_mput, if_neg hk, ih]
      · simp only [if_true]; rw [mget_mdel (hnd m hn _), if_neg hk, ih]
end Go.Proofs.Ytdcnaieieggclaa

/- Chains as the transitive closure: plain theorems on what fold.Chained answers. -/

namespace Go.Proofs.Ytdcnaieieggclaa
open Go.RowKit
set_option linter.unusedVariables false
set_option linter.unusedSimpArgs false

/-- Is place b reached from place a? -/
def CB (rs : List RTx) (a b : Nat) : Bool := decide ((reachL rs a (b - a)).getLast? = some b)
theorem reach_mem (rs : List RTx) (a : Nat) : ∀ t q, q ∈ reachL rs a t ↔ q = a ∨ (a < q ∧ q ≤ a + t ∧ CB rs a q = true)
  | 0, q => by
    simp only [reachL, List.mem_singleton, Nat.add_zero]
    constructor
    · exact Or.inl
    · rintro (h | ⟨h1, h2, -⟩)
      · exact h
      · omega
  | t + 1, q => by
    have ih := reach_mem rs a t q
    by_cases hq : q = a + 1 + t
    · subst hq
      have hbd := reachL_bd rs a t
      have hcb : CB rs a (a + 1 + t) = (reachL rs a t).any fun q => pairB rs q (a + 1 + t) := by
        unfold CB
        rw [show a + 1 + t - a = t + 1 from by omega, reachL]
        cases hc : (reachL rs a t).any fun q => pairB rs q (a + 1 + t)
        · rw [if_neg (by simp), decide_eq_false_iff_not]
          intro hl
          have := hbd _ (List.mem_of_getLast? hl)
          omega
        · rw [if_pos rfl]; simp
      rw [hcb, reachL]
      cases hc : (reachL rs a t).any fun q => pairB rs q (a + 1 + t)
      · rw [if_neg (by simp)]
        simp only [Bool.false_eq_true, and_false, or_false]
        constructor
        · intro h; have := hbd _ h; omega
        · intro h; omega
      · rw [if_pos rfl]
        constructor
        · intro _; exact Or.inr ⟨by omega, by omega, rfl⟩
        · intro _; exact List.mem_append_right _ (by simp)
    · rw [reachL]
      split
      · rw [List.mem_append, ih]
        simp only [List.mem_singleton]
        constructor
        · rintro ((h | h) | h)
          · exact Or.inl h
          · exact Or.inr ⟨h.1, by omega, h.2.2⟩
          · exact absurd h hq
        · rintro (h | ⟨h1, h2, h3⟩)
          · exact Or.inl (Or.inl h)
          · exact Or.inl (Or.inr ⟨h1, by omega, h3⟩)
      · rw [ih]
        constructor
        · rintro (h | ⟨h1, h2, h3⟩)
          · exact Or.inl h
          · exact Or.inr ⟨h1, by omega, h3⟩
        · rintro (h | ⟨h1, h2, h3⟩)
          · exact Or.inl h
          · exact Or.inr ⟨h1, by omega, h3⟩
theorem CB_rec (rs : List RTx) {a b : Nat} (hab : a < b) : CB rs a b = true ↔ pairB rs a b = true ∨ ∃ q, a < q ∧ q < b ∧ CB rs a q = true ∧ pairB rs q b = true := by
  obtain ⟨t, rfl⟩ : ∃ t, b = a + 1 + t := ⟨b - a - 1, by omega⟩
  have hcb : CB rs a (a + 1 + t) = (reachL rs a t).any fun q => pairB rs q (a + 1 + t) := by
    unfold CB
    rw [show a + 1 + t - a = t + 1 from by omega, reachL]
    cases hc : (reachL rs a t).any fun q => pairB rs q (a + 1 + t)
    · rw [if_neg (by simp), decide_eq_false_iff_not]
      intro hl
      have := reachL_bd rs a t _ (List.mem_of_getLast? hl)
      omega
    · rw [if_pos rfl]; simp
  rw [hcb, List.any_eq_true]
  constructor
  · rintro ⟨q, hq, hp⟩
    rcases (reach_mem rs a t q).1 hq with rfl | ⟨h1, h2, h3⟩
    · exact Or.inl hp
    · exact Or.inr ⟨q, h1, by omega, h3, hp⟩
  · rintro (hp | ⟨q, h1, h2, h3, hp⟩)
    · exact ⟨a, (reach_mem rs a t a).2 (Or.inl rfl), hp⟩
    · exact ⟨q, (reach_mem rs a t q).2 (Or.inr ⟨h1, by omega, h3⟩), hp⟩
theorem CB_trans (rs : List RTx) {a k : Nat} (hak : a < k) (h1 : CB rs a k = true) : ∀ n b, b ≤ n → k < b → CB rs k b = true → CB rs a b = true
  | 0, b, hb, hk, _ => by omega
  | n + 1, b, hb, hk, h => by
    rw [CB_rec rs (by omega)]
    rcases (CB_rec rs hk).1 h with hp | ⟨q, h2, h3, h4, h5⟩
    · exact Or.inr ⟨k, hak, hk, h1, hp⟩
    · exact Or.inr ⟨q, by omega, h3, CB_trans rs hak h1 n q (by omega) h2 h4, h5⟩
/-- The law. -/
theorem CB_link (rs : List RTx) {a b : Nat} (hab : a < b) : CB rs a b = (pairB rs a b || (List.range (b - a - 1)).any fun t => CB rs a (a + 1 + t) && CB rs (a + 1 + t) b) := by
  rw [Bool.eq_iff_iff, Bool.or_eq_true, List.any_eq_true]
  constructor
  · intro h
    rcases (CB_rec rs hab).1 h with hp | ⟨q, h1, h2, h3, h4⟩
    · exact Or.inl hp
    · refine Or.inr ⟨q - a - 1, List.mem_range.2 (by omega), ?_⟩
      rw [show a + 1 + (q - a - 1) = q from by omega, h3, (CB_rec rs h2).2 (Or.inl h4)]; rfl
  · rintro (hp | ⟨t, h1, h2⟩)
    · exact (CB_rec rs hab).2 (Or.inl hp)
    · rw [Bool.and_eq_true] at h2
      have := List.mem_range.1 h1
      exact CB_trans rs (by omega) h2.1 b b (Nat.le_refl _) (by omega) h2.2
end Go.Proofs.Ytdcnaieieggclaa

/- Plain laws of folds: what one more transaction changes, stretches, last writers, the writes that count. -/

namespace Go.Proofs.Ytdcnaieieggclaa
open Go.RowKit
set_option linter.unusedVariables false
set_option linter.unusedSimpArgs false

theorem risesE_eq {st st' : List Ent} (h : RisesE st) (h' : RisesE st') (hm : ∀ e, e ∈ st ↔ e ∈ st') : st = st' :=
  List.Perm.eq_of_pairwise (le := fun a b : Ent => ltB a.key b.key = true) (fun a b _ _ h1 h2 => by rw [ltB_asymm h1] at h2; cases h2) h h'
    ((List.perm_ext_iff_of_nodup (List.Pairwise.imp (fun {a b} hab e => ltB_ne hab (congrArg Ent.key e)) h) (List.Pairwise.imp (fun {a b} hab e => ltB_ne hab (congrArg Ent.key e)) h')).2 hm)
theorem foldM_nodup (rs : List RTx) (n : Nat) : ((foldM rs n).map (·.1)).Nodup := (agree_fold rs n).2.1
theorem mem_fold (rs : List RTx) (n : Nat) (e : Ent) : e ∈ foldE rs n ↔ mget (foldM rs n) e.key = some e.val := (agree_fold rs n).2.2 e
theorem mget_fold_succ {rs : List RTx} {n : Nat} {r : RTx} (h : rs[n]? = some r) (k : ByteArray) :
    mget (foldM rs (n + 1)) k = match lastW r.ws k with | none => mget (foldM rs n) k | some x => if x.drop then none else some x.val := by
  rw [foldM_succ h]; exact mget_playM (foldM_nodup rs n) _ _
theorem foldE_ext {rs rs' : List RTx} {n n' : Nat} (h : ∀ k, mget (foldM rs' n') k = mget (foldM rs n) k) : foldE rs' n' = foldE rs n :=
  risesE_eq (agree_fold rs' n').1 (agree_fold rs n).1 fun e => by rw [mem_fold, mem_fold, h]
/-! ### one more -/
theorem step_x {rs : List RTx} {n : Nat} {r : RTx} (h : rs[n]? = some r) {e : Ent} (he : e ∈ foldE rs (n + 1)) :
    (lastW r.ws e.key = none → mget (foldM rs n) e.key = some e.val) ∧ (∀ x, lastW r.ws e.key = some x → x.drop = false ∧ x.val = e.val) := by
  have h1 := (mem_fold _ _ _).1 he
  rw [mget_fold_succ h] at h1
  refine ⟨fun hl => by rw [hl] at h1; exact h1, fun x hl => ?_⟩
  rw [hl] at h1
  simp only at h1
  split at h1
  · cases h1
  · injection h1 with h1; rename_i hd; exact ⟨by simpa using hd, h1⟩
theorem step_y {rs : List RTx} {n : Nat} {r : RTx} (h : rs[n]? = some r) {e : Ent} (he : e ∈ foldE rs n) :
    (lastW r.ws e.key = none → mget (foldM rs (n + 1)) e.key = some e.val) ∧ (∀ x, lastW r.ws e.key = some x → (mget (foldM rs (n + 1)) e.key).isSome = !x.drop) := by
  have h1 := (mem_fold _ _ _).1 he
  rw [mget_fold_succ h]
  refine ⟨fun hl => by rw [hl]; exact h1, fun x hl => ?_⟩
  rw [hl]
  cases hd : x.drop <;> simp [hd]
/-! ### stretches -/
theorem ltB_nil {k fin : ByteArray} (h : fin.size = 0) : ltB k fin = false := by
  have : kL fin = [] := List.eq_nil_of_length_eq_zero (by unfold kL; rw [Array.length_toList]; exact h)
  unfold ltB; rw [this, decide_eq_false_iff_not]; exact List.not_lt_nil _
theorem inB_all {key fin : ByteArray} (h : key.size = 0) (h' : fin.size = 0) (k : ByteArray) : inB key fin k = true := by simp [inB, ltB_nil h, h']
theorem low_high {st : List Ent} (h : RisesE st) (k : ByteArray) : st.filter (fun e => ltB e.key k) ++ st.filter (fun e => !ltB e.key k) = st := by
  induction st with
  | nil => rfl
  | cons x r ih =>
    obtain ⟨h1, h2⟩ := List.pairwise_cons.1 h
    cases hx : ltB x.key k
    · have hr : ∀ y ∈ x :: r, ltB y.key k = false := fun y hy => by
        rcases List.mem_cons.1 hy with rfl | hy
        · exact hx
        · cases hc : ltB y.key k
          · rfl
          · rw [ltB_trans (h1 y hy) hc] at hx; cases hx
      rw [List.filter_eq_nil_iff.2 (fun y hy => by rw [hr y hy]; simp), List.filter_eq_self.2 (fun y hy => by rw [hr y hy]; rfl)]; rfl
    · rw [List.filter_cons_of_pos (by simpa using hx), List.filter_cons_of_neg (by simp [hx]), List.cons_append, ih h2]
theorem cut_all {rs : List RTx} {n : Nat} {key fin : ByteArray} (h : key.size = 0) (h' : fin.size = 0) : (foldE rs n).filter (fun e => inB key fin e.key) = foldE rs n :=
  List.filter_eq_self.2 fun e _ => inB_all h h' _
theorem cut_both {rs : List RTx} {n : Nat} {key z : ByteArray} (hz : z.size = 0) (hk : key.size ≠ 0) :
    (foldE rs n).filter (fun e => inB z key e.key) ++ (foldE rs n).filter (fun e => inB key z e.key) = foldE rs n := by
  have h1 : ∀ k, inB z key k = ltB k key := fun k => by simp [inB, ltB_nil hz, hk]
  have h2 : ∀ k, inB key z k = !ltB k key := fun k => by simp [inB, hz]
  simp only [h1, h2]
  exact low_high (agree_fold rs n).1 key
theorem cut_part {rs : List RTx} {n : Nat} {key fin z : ByteArray} (hz : z.size = 0) :
    (foldE rs n).filter (fun e => inB key fin e.key) = ((foldE rs n).filter (fun e => inB key z e.key)).filter (fun e => decide (fin.size = 0) || ltB e.key fin) := by
  rw [List.filter_filter]
  refine List.filter_congr fun e _ => ?_
  simp only [inB, hz, decide_true, Bool.true_or, Bool.and_true]
  exact Bool.and_comm _ _
/-! ### last writers -/
def lastN (rs : List RTx) (k : ByteArray) : Nat → Nat
  | 0 => 0
  | n + 1 => if hasKey (wsOf rs n) k = true then n + 1 else lastN rs k n
theorem lastN_le (rs : List RTx) (k : ByteArray) : ∀ n, lastN rs k n ≤ n
  | 0 => Nat.le_refl _
  | n + 1 => by rw [lastN]; have := lastN_le rs k n; split <;> omega
theorem lastN_has (rs : List RTx) (k : ByteArray) : ∀ n, 0 < lastN rs k n → hasKey (wsOf rs (lastN rs k n - 1)) k = true
  | 0, h => by simp [lastN] at h
  | n + 1, h => by
    rw [lastN] at h ⊢
    split
    · assumption
    · rename_i hc; rw [if_neg hc] at h; exact lastN_has rs k n h
theorem lastN_gap (rs : List RTx) (k : ByteArray) : ∀ n q, lastN rs k n ≤ q → q < n → hasKey (wsOf rs q) k = false
  | 0, q, _, h => by omega
  | n + 1, q, h, h' => by
    rw [lastN] at h
    split at h
    · omega
    · rename_i hc
      by_cases hq : q = n
      · subst hq; simpa using hc
      · exact lastN_gap rs k n q h (by omega)
theorem lastW_cons (x : Wr) (r : List Wr) (k : ByteArray) : lastW (x :: r) k = match lastW r k with | some y => some y | none => if x.key = k then some x else none := by
  unfold lastW
  rw [List.reverse_cons, List.find?_append]
  cases (r.reverse.find? fun x => decide (x.key = k)) with
  | some y => rfl
  | none => simp [List.find?_cons]; split <;> simp_all
theorem lastW_some {ws : List Wr} {k : ByteArray} {x : Wr} (h : lastW ws k = some x) : x ∈ ws ∧ x.key = k := by
  unfold lastW at h
  exact ⟨List.mem_reverse.1 (List.mem_of_find?_eq_some h), by simpa using List.find?_some h⟩
theorem lastW_has (ws : List Wr) (k : ByteArray) : (lastW ws k).isSome = hasKey ws k := by
  rw [Bool.eq_iff_iff, hasKey_iff, Option.isSome_iff_exists]
  constructor
  · rintro ⟨x, hx⟩; exact ⟨x, lastW_some hx⟩
  · rintro ⟨x, hx, rfl⟩
    cases hl : lastW ws x.key with
    | some y => exact ⟨y, rfl⟩
    | none =>
      unfold lastW at hl
      have := List.find?_eq_none.1 hl x (List.mem_reverse.2 hx)
      simp at this
def lastWr (rs : List RTx) (k : ByteArray) (n : Nat) : Option Wr := if lastN rs k n = 0 then none else lastW (wsOf rs (lastN rs k n - 1)) k
theorem mget_last (rs : List RTx) (k : ByteArray) : ∀ n, n ≤ rs.length → mget (foldM rs n) k = (lastWr rs k n).bind fun x => if x.drop then none else some x.val
  | 0, _ => by simp [foldM, allW, playM, mget, lastWr, lastN]
  | n + 1, h => by
    have hx : rs[n]? = some (rs[n]'(by omega)) := List.getElem?_eq_getElem _
    rw [mget_fold_succ hx]
    have h1 : wsOf rs n = (rs[n]'(by omega)).ws := wsOf_get hx
    cases hl : lastW (rs[n]'(by omega)).ws k with
    | none =>
      have hk : hasKey (wsOf rs n) k = false := by rw [h1, ← lastW_has, hl]; rfl
      have h2 : lastN rs k (n + 1) = lastN rs k n := by rw [lastN, if_neg (by rw [hk]; simp)]
      simp only
      rw [mget_last rs k n (by omega)]
      unfold lastWr; rw [h2]
    | some x =>
      have hk : hasKey (wsOf rs n) k = true := by rw [h1, ← lastW_has, hl]; rfl
      have h2 : lastN rs k (n + 1) = n + 1 := by rw [lastN, if_pos hk]
      unfold lastWr
      rw [h2, if_neg (by omega), Nat.add_sub_cancel, h1, hl]; rfl
theorem mem_allW {rs : List RTx} {n : Nat} {x : Wr} (h : x ∈ allW rs n) : ∃ r ∈ rs, x ∈ r.ws := by
  unfold allW at h
  obtain ⟨r, hr, hx⟩ := List.mem_flatMap.1 h
  exact ⟨r, List.mem_of_mem_take hr, hx⟩
theorem fold_written {rs : List RTx} {n : Nat} {k : ByteArray} {v : ByteArray} (h : mget (foldM rs n) k = some v) : ∃ r ∈ rs, ∃ x ∈ r.ws, x.key = k := by
  unfold foldM at h
  rw [mget_playM (m := []) (by simp)] at h
  cases hl : lastW (allW rs n) k with
  | none => rw [hl] at h; simp [mget] at h
  | some x =>
    obtain ⟨h1, h2⟩ := lastW_some hl
    obtain ⟨r, hr, hx⟩ := mem_allW h1
    exact ⟨r, hr, x, hx, h2⟩
theorem found_all {rs : List RTx} {n : Nat} {seen : List ByteArray} (hn : seen.Nodup) (hm : ∀ r ∈ rs, ∀ x ∈ r.ws, x.key ∈ seen) :
    (seen.filter fun k => (mget (foldM rs n) k).isSome).length = (foldE rs n).length := by
  have hp : (seen.filter fun k => (mget (foldM rs n) k).isSome).Perm ((foldE rs n).map (·.key)) := by
    refine (List.perm_ext_iff_of_nodup (hn.filter _) (agree_fold rs n).1.keys.nodup).2 fun k => ?_
    rw [List.mem_filter, List.mem_map]
    constructor
    · rintro ⟨-, h⟩
      obtain ⟨v, hv⟩ := Option.isSome_iff_exists.1 h
      exact ⟨⟨k, v⟩, (mem_fold _ _ _).2 hv, rfl⟩
    · rintro ⟨e, he, rfl⟩
      have h1 := (mem_fold _ _ _).1 he
      obtain ⟨r, hr, x, hx, e2⟩ := fold_written h1
      exact ⟨e2 ▸ hm r hr x hx, by rw [h1]; rfl⟩
  rw [hp.length_eq, List.length_map]
/-! ### the writes that count -/
/-- Those of the first k that no later one of all writes again. -/
def cntU (ws : List Wr) : Nat → List Wr
  | 0 => []
  | k + 1 => match ws[k]? with
    | none => cntU ws k
    | some x => if (ws.drop (k + 1)).any (keyIs x.key) = true then cntU ws k else cntU ws k ++ [x]
theorem cntU_cons (x : Wr) (r : List Wr) : ∀ k, cntU (x :: r) (k + 1) = (if r.any (keyIs x.key) = true then [] else [x]) ++ cntU r k
  | 0 => by simp [cntU]
  | k + 1 => by
    rw [cntU, cntU_cons x r k]
    simp only [List.getElem?_cons_succ, List.drop_succ_cons]
    rw [cntU]
    cases hk : r[k]? with
    | none => simp
    | some y =>
      simp only
      split <;> simp
theorem cntU_len (ws : List Wr) : ∀ k, (cntU ws k).length ≤ k
  | 0 => by simp [cntU]
  | k + 1 => by
    rw [cntU]
    have := cntU_len ws k
    cases ws[k]? with
    | none => simp only; omega
    | some x => simp only; split <;> simp <;> omega
theorem cntU_sub (ws : List Wr) : ∀ k, ∀ x ∈ cntU ws k, x ∈ ws
  | 0, x, h => by simp [cntU] at h
  | k + 1, x, h => by
    rw [cntU] at h
    cases hk : ws[k]? with
    | none => rw [hk] at h; exact cntU_sub ws k x h
    | some y =>
      rw [hk] at h
      simp only at h
      split at h
      · exact cntU_sub ws k x h
      · rcases List.mem_append.1 h with h | h
        · exact cntU_sub ws k x h
        · simp at h; subst h; exact List.mem_of_getElem? hk
abbrev cnt (ws : List Wr) : List Wr := cntU ws ws.length
theorem lastW_cnt (ws : List Wr) (k : ByteArray) : lastW (cnt ws) k = lastW ws k := by
  induction ws with
  | nil => rfl
  | cons x r ih =>
    have h1 : cnt (x :: r) = (if r.any (keyIs x.key) = true then [] else [x]) ++ cnt r := by
      unfold cnt; rw [List.length_cons, cntU_cons]
    rw [h1, lastW_cons]
    by_cases hc : r.any (keyIs x.key) = true
    · rw [if_pos hc, List.nil_append, ih]
      by_cases hk : x.key = k
      · have : (lastW r k).isSome = true := by rw [lastW_has, ← hk]; exact hc
        obtain ⟨y, hy⟩ := Option.isSome_iff_exists.1 this
        rw [hy]
      · rw [if_neg hk]; cases lastW r k <;> rfl
    · rw [if_neg hc, List.singleton_append, lastW_cons, ih]
theorem hasKey_cnt (ws : List Wr) (k : ByteArray) : hasKey (cnt ws) k = hasKey ws k := by rw [← lastW_has, lastW_cnt, lastW_has]
theorem neigh_cnt (us vs : List Wr) : neighB (cnt us) (cnt vs) = neighB us vs := by
  rw [Bool.eq_iff_iff, neigh_iff, neigh_iff]
  have h : ∀ (ws : List Wr) (k : ByteArray), (∃ x ∈ cnt ws, x.key = k) ↔ ∃ x ∈ ws, x.key = k := fun ws k => by rw [← hasKey_iff, hasKey_cnt, hasKey_iff]
  constructor
  · rintro ⟨x, hx, y, hy, e⟩
    obtain ⟨x', hx', e'⟩ := (h us x.key).1 ⟨x, hx, rfl⟩
    obtain ⟨y', hy', e''⟩ := (h vs y.key).1 ⟨y, hy, rfl⟩
    exact ⟨x', hx', y', hy', by rw [e'', e, e']⟩
  · rintro ⟨x, hx, y, hy, e⟩
    obtain ⟨x', hx', e'⟩ := (h us x.key).2 ⟨x, hx, rfl⟩
    obtain ⟨y', hy', e''⟩ := (h vs y.key).2 ⟨y, hy, rfl⟩
    exact ⟨x', hx', y', hy', by rw [e'', e, e']⟩
/-- rs' is rs, of each just the writes that count. -/
def CutTo (rs rs' : List RTx) : Prop := rs'.map (fun r => (r.number, r.ws)) = rs.map (fun r => (r.number, cnt r.ws))
theorem CutTo.len {rs rs' : List RTx} (h : CutTo rs rs') : rs'.length = rs.length := by simpa using congrArg List.length h
theorem CutTo.at_ {rs rs' : List RTx} (h : CutTo rs rs') {i : Nat} {r : RTx} (hr : rs'[i]? = some r) : ∃ q, rs[i]? = some q ∧ r.number = q.number ∧ r.ws = cnt q.ws := by
  have h1 := congrArg (fun l => l[i]?) h
  simp only [List.getElem?_map, hr, Option.map_some] at h1
  cases hq : rs[i]? with
  | none => rw [hq] at h1; cases h1
  | some q => rw [hq] at h1; simp only [Option.map_some, Option.some.injEq, Prod.mk.injEq] at h1; exact ⟨q, rfl, h1.1, h1.2⟩
theorem logErr_of : ∀ {rs : List RTx} {m : Int}, (∀ (k : Nat) (r : RTx), rs[k]? = some r → txB r.number r.ws = true ∧ r.number = m + k) → logErr rs m = 0
  | [], _, _ => rfl
  | r :: rest, m, h => by
    obtain ⟨h1, h2⟩ := h 0 r rfl
    simp only [logErr]
    rw [if_pos h1, if_pos (by simpa using h2)]
    exact logErr_of fun k x hx => by
      obtain ⟨h3, h4⟩ := h (k + 1) x (by simpa using hx)
      exact ⟨h3, by rw [h4]; omega⟩
theorem txB_cnt {n : Int} {ws : List Wr} (h : txB n ws = true) : txB n (cnt ws) = true := by
  simp only [txB, Bool.and_eq_true, decide_eq_true_eq, List.all_eq_true] at h ⊢
  exact ⟨⟨h.1.1, Nat.le_trans (cntU_len _ _) h.1.2⟩, fun x hx => h.2 x (cntU_sub _ _ x hx)⟩
theorem CutTo.err {rs rs' : List RTx} (h : CutTo rs rs') (he : logErr rs 1 = 0) : logErr rs' 1 = 0 := logErr_of fun k r hr => by
  obtain ⟨q, hq, h1, h2⟩ := h.at_ hr
  have := logErr_ok he hq
  rw [h1, h2]
  exact ⟨txB_cnt this.1, this.2⟩
theorem CutTo.mget {rs rs' : List RTx} (h : CutTo rs rs') : ∀ n, n ≤ rs.length → ∀ k, mget (foldM rs' n) k = mget (foldM rs n) k
  | 0, _, k => rfl
  | n + 1, hn, k => by
    have hx : rs'[n]? = some (rs'[n]'(by have := h.len; omega)) := List.getElem?_eq_getElem _
    obtain ⟨q, hq, h1, h2⟩ := h.at_ hx
    rw [mget_fold_succ hx, mget_fold_succ hq, h2, lastW_cnt, CutTo.mget h n (by omega)]
theorem CutTo.fold {rs rs' : List RTx} (h : CutTo rs rs') {n : Nat} (hn : n ≤ rs.length) : foldE rs' n = foldE rs n := foldE_ext (h.mget n hn)
theorem CutTo.ws {rs rs' : List RTx} (h : CutTo rs rs') (p : Nat) : wsOf rs' p = cnt (wsOf rs p) := by
  cases hp : rs'[p]? with
  | none =>
    have : rs[p]? = none := by rw [List.getElem?_eq_none_iff] at hp ⊢; rw [← h.len]; exact hp
    simp [wsOf, hp, this, cnt, cntU]
  | some r =>
    obtain ⟨q, hq, h1, h2⟩ := h.at_ hp
    rw [wsOf_get hp, wsOf_get hq, h2]
theorem CutTo.reach {rs rs' : List RTx} (h : CutTo rs rs') (a : Nat) : ∀ t, reachL rs' a t = reachL rs a t
  | 0 => rfl
  | t + 1 => by
    have hp : ∀ q p, pairB rs' q p = pairB rs q p := fun q p => by unfold pairB; rw [h.ws, h.ws, neigh_cnt]
    rw [reachL, reachL, CutTo.reach h a t]
    simp only [hp]
end Go.Proofs.Ytdcnaieieggclaa

/- Who waits for whom, in plain words: the last writers of one's keys; what has ended. -/

namespace Go.Proofs.Ytdcnaieieggclaa
open Go.RowKit
set_option linter.unusedVariables false
set_option linter.unusedSimpArgs false

/-- Transaction a (numbers from 1 on) depends on b: b is the last one ahead of a that writes some key of a's. -/
def dep (rs : List RTx) (a b : Nat) : Prop := 1 ≤ b ∧ ∃ x ∈ wsOf rs (a - 1), lastN rs x.key (a - 1) = b
theorem dep_lt {rs : List RTx} {a b : Nat} (h : dep rs a b) : 1 ≤ b ∧ b < a := by
  obtain ⟨h1, x, hx, h2⟩ := h
  have := lastN_le rs x.key (a - 1)
  omega
theorem dep_pair {rs : List RTx} {a b : Nat} (h : dep rs a b) : pairB rs (b - 1) (a - 1) = true := by
  obtain ⟨h1, x, hx, h2⟩ := h
  have h3 := lastN_has rs x.key (a - 1) (by omega)
  rw [h2] at h3
  obtain ⟨y, hy, e⟩ := (hasKey_iff _ _).1 h3
  exact (neigh_iff _ _).2 ⟨y, hy, x, hx, e.symm⟩
theorem pair_dep {rs : List RTx} {i a : Nat} (hi : 1 ≤ i) (hia : i < a) (h : pairB rs (i - 1) (a - 1) = true) : ∃ b, dep rs a b ∧ i ≤ b ∧ (b = i ∨ pairB rs (i - 1) (b - 1) = true) := by
  obtain ⟨x, hx, y, hy, e⟩ := (neigh_iff _ _).1 h
  have hk : hasKey (wsOf rs (i - 1)) y.key = true := (hasKey_iff _ _).2 ⟨x, hx, e.symm⟩
  have hb : i ≤ lastN rs y.key (a - 1) := by
    apply Classical.byContradiction
    intro hc
    have := lastN_gap rs y.key (a - 1) (i - 1) (by omega) (by omega)
    rw [hk] at this; cases this
  refine ⟨lastN rs y.key (a - 1), ⟨by omega, y, hy, rfl⟩, hb, ?_⟩
  by_cases hbi : lastN rs y.key (a - 1) = i
  · exact Or.inl hbi
  · right
    have h3 := lastN_has rs y.key (a - 1) (by omega)
    obtain ⟨z, hz, e2⟩ := (hasKey_iff _ _).1 h3
    exact (neigh_iff _ _).2 ⟨x, hx, z, hz, by rw [e2, e]⟩
/-- None has ended ahead of one that it depends on. -/
def Closed (rs : List RTx) (n : Nat) (E : Nat → Bool) : Prop := ∀ a, 1 ≤ a → a ≤ n → E a = true → ∀ b, dep rs a b → E b = true
theorem near_ended {rs : List RTx} {n : Nat} {E : Nat → Bool} (hc : Closed rs n E) {i : Nat} (hi : 1 ≤ i) : ∀ m a, a ≤ m → a ≤ n → i < a → pairB rs (i - 1) (a - 1) = true → (∀ b, dep rs a b → E b = true) → E i = true
  | 0, a, hm, _, hia, _, _ => by omega
  | m + 1, a, hm, han, hia, hp, hd => by
    obtain ⟨b, hb, hib, he⟩ := pair_dep hi hia hp
    rcases he with rfl | hp2
    · exact hd _ hb
    · by_cases hbi : b = i
      · rw [← hbi]; exact hd _ hb
      · have hlt := (dep_lt hb).2
        exact near_ended hc hi m b (by omega) (by omega) (by omega) hp2 (hc b (by omega) (by omega) (hd _ hb))
theorem chain_open {rs : List RTx} {n : Nat} {E : Nat → Bool} (hc : Closed rs n E) {i : Nat} (hi : 1 ≤ i) (ho : E i = false) : ∀ m a, a ≤ m → a ≤ n → i < a → CB rs (i - 1) (a - 1) = true → ∃ b, dep rs a b ∧ E b = false
  | 0, a, hm, _, hia, _ => by omega
  | m + 1, a, hm, han, hia, h => by
    have hfin : ∀ q, 1 ≤ q → q < a → pairB rs (q - 1) (a - 1) = true → E q = false → ∃ b, dep rs a b ∧ E b = false := fun q hq hqa hp hqo => by
      apply Classical.byContradiction
      intro hno
      have h1 : ∀ b, dep rs a b → E b = true := fun b hb => by
        cases he : E b
        · exact absurd ⟨b, hb, he⟩ hno
        · rfl
      rw [near_ended hc hq a a (Nat.le_refl _) han hqa hp h1] at hqo; cases hqo
    rcases (CB_rec rs (by omega)).1 h with hp | ⟨q, h1, h2, h3, h4⟩
    · exact hfin i hi hia hp ho
    · cases hq : E (q + 1)
      · exact hfin (q + 1) (by omega) (by omega) (by rw [Nat.add_sub_cancel]; exact h4) hq
      · exfalso
        obtain ⟨b, hb, hbo⟩ := chain_open hc hi ho m (q + 1) (by omega) (by omega) (by omega) (by rw [Nat.add_sub_cancel]; exact h3)
        rw [hc (q + 1) (by omega) (by omega) hq b hb] at hbo; cases hbo
theorem open_chain {rs : List RTx} {a b : Nat} (h : dep rs a b) : CB rs (b - 1) (a - 1) = true := by
  have := dep_lt h
  exact (CB_rec rs (by omega)).2 (Or.inl (dep_pair h))
end Go.Proofs.Ytdcnaieieggclaa


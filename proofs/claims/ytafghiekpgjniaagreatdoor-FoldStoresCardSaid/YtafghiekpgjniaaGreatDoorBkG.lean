/- towpathlaw01.Book: Writes, Txn, Txns, Entries. -/
import Derived.Test.YtafghiekpgjniaaGreatDoorBkF
import Derived.Test.YtafghiekpgjniaaGreatDoorTwD
namespace Go.Proofs.YtafghiekpgjniaaGreatDoor
open Go.RowKit
set_option linter.unusedVariables false
set_option linter.unusedSimpArgs false

set_option maxRecDepth 100000
/-- The block g, and those of certain types. -/
def TyX (w : World) (g : Nat) (P : TypeId → Prop) (b : Nat) : Prop := b = g ∨ ∃ cs t, P t ∧ w.heap[b]? = some (.cells cs t (0, 0))
theorem TyX.trans {a b c : World} {g : Nat} {P : TypeId → Prop} (h : Kept a b (TyX a g P)) (k : Kept b c (TyX b g P)) : Kept a c (TyX a g P) :=
  h.trans2 k fun i hi => by
    by_cases hs : i < a.heap.size
    · refine Or.inl ?_
      by_cases hx : TyX a g P i
      · exact hx
      · rcases hi with hi | ⟨cs, t, ht, hi⟩
        · exact Or.inl hi
        · exact Or.inr ⟨cs, t, ht, by rw [← h.block i hs hx]; exact hi⟩
    · exact Or.inr (by omega)
theorem TyX.ne {w : World} {g b : Nat} {P : TypeId → Prop} {cs : Array Value} {t : TypeId} (hb : w.heap[b]? = some (.cells cs t (0, 0))) (hg : b ≠ g) (hP : ¬ P t) : ¬ TyX w g P b := fun h => by
  rcases h with h | ⟨c, u, hu, h⟩
  · exact hg h
  · rw [hb] at h; injection h with h; injection h with _ h; subst h; exact hP hu
theorem TyX.one {w : World} {g : Nat} {P : TypeId → Prop} {H : TypeId} (hH : P H) (b : Nat) (h : b = g ∨ ∃ cs, w.heap[b]? = some (.cells cs H (0, 0))) : TyX w g P b := h.imp id fun ⟨cs, h⟩ => ⟨cs, H, hH, h⟩
theorem TkAt.empty {α β : Type} {f : α → List Value} {f' : β → List Value} {size n cap B : Nat} {t : TypeId} {w : World} {A : Option Addr} {l : List α} (h : TkAt f size t w B A n cap l) : TkAt f' size t w B A 0 cap ([] : List β) := by
  obtain ⟨h1, h2, h3⟩ := h
  exact ⟨rfl, Nat.zero_le _, h3.imp id fun ⟨g, o, cur, a1, a2, a3, a4, a5⟩ => ⟨g, o, cur, a1, a2, a3, a4, fun i x hi => by simp at hi⟩⟩
/-- What a book has been told of transactions. -/
def tellW : Nat → List RTx → List BkE
  | _, [] => []
  | c, r :: rs => ⟨r.A, r.len, r.cap, c + 1, none, 0, 0⟩ :: tellW (c + 1) rs
theorem tellW_snoc : ∀ (l : List RTx) (c : Nat) (r : RTx), tellW c (l ++ [r]) = tellW c l ++ [⟨r.A, r.len, r.cap, c + l.length + 1, none, 0, 0⟩]
  | [], c, r => rfl
  | x :: l, c, r => by
    rw [List.cons_append, tellW, tellW, tellW_snoc l (c + 1) r]
    simp [Nat.add_assoc, Nat.add_comm, Nat.add_left_comm]
theorem tellW_len : ∀ (l : List RTx) (c : Nat), (tellW c l).length = l.length
  | [], _ => rfl
  | x :: l, c => by rw [tellW, List.length_cons, tellW_len l, List.length_cons]
theorem tellW_mem : ∀ (l : List RTx) (c : Nat) (e : BkE), e ∈ tellW c l → ∃ r ∈ l, e.A = r.A
  | [], _, e, h => by simp [tellW] at h
  | x :: l, c, e, h => by
    rw [tellW, List.mem_cons] at h
    rcases h with rfl | h
    · exact ⟨x, by simp, rfl⟩
    · obtain ⟨r, h1, h2⟩ := tellW_mem l _ e h
      exact ⟨r, by simp [h1], h2⟩
theorem writesF_any (g Bo cnt : Nat) (xW xE xT : List BkE) (A : Option Addr) (len cap : Nat) (w : World) (h : BkAtF w g Bo cnt xW xE xT) (hp : P0 mkWrite 3 87 3518437208812 w Bo ⟨A, len, cap, cnt + 1, none, 0, 0⟩) (hd : ∀ e ∈ xW, ∀ a c, e.A = some a → A = some c → a.block ≠ c.block) (hc : cnt + 1 ≤ 1152921504606846976) (hl : xW.length + 1 ≤ 2199023255552) :
    Calls Tryz.prog 139 #[.pointer (some ⟨g, 0, none⟩), .slice A len cap] w fun e w' => e = .returned (.tuple #[]) ∧ BkAtF w' g Bo (cnt + 1) (xW ++ [⟨A, len, cap, cnt + 1, none, 0, 0⟩]) xE xT ∧ Kept w w' (TyX w g (· = 196)) ∧ Below Bo w w' := by
  have HK := Lib.hid (tellWriteF_any g Bo cnt xW xE xT A len cap w h hp hd hc hl)
  clear h hp hd
  go_enter Tryz.func139, Tryz.ntmps139
  go_wp2_with fail
  refine HK.out.mono ?_
  rintro e w' ⟨rfl, h1, h2, h3⟩
  have H := Lib.hid (And.intro h1 (And.intro (h2.mono fun b hb => TyX.one (P := (· = 196)) rfl b hb) h3))
  clear h1 h2 h3
  go_wp2_with fail
  exact bodyPost_end (results_none rfl _ _ _) rfl ⟨rfl, H.out⟩
theorem entriesF_any (g Bo cnt : Nat) (xW xE xT : List BkE) (A : Option Addr) (len cap : Nat) (w : World) (h : BkAtF w g Bo cnt xW xE xT) (hp : P0 mkEntry 2 116 4398046511033 w Bo ⟨A, len, cap, cnt + 1, none, 0, 0⟩) (hd : ∀ e ∈ xE, ∀ a c, e.A = some a → A = some c → a.block ≠ c.block) (hc : cnt + 1 ≤ 1152921504606846976) (hl : xE.length + 1 ≤ 2199023255552) :
    Calls Tryz.prog 15 #[.pointer (some ⟨g, 0, none⟩), .slice A len cap] w fun e w' => e = .returned (.tuple #[]) ∧ BkAtF w' g Bo (cnt + 1) xW (xE ++ [⟨A, len, cap, cnt + 1, none, 0, 0⟩]) xT ∧ Kept w w' (TyX w g (· = 185)) ∧ Below Bo w w' := by
  have HK := Lib.hid (tellEntryF_any g Bo cnt xW xE xT A len cap w h hp hd hc hl)
  clear h hp hd
  go_enter Tryz.func15, Tryz.ntmps15
  go_wp2_with fail
  refine HK.out.mono ?_
  rintro e w' ⟨rfl, h1, h2, h3⟩
  have H := Lib.hid (And.intro h1 (And.intro (h2.mono fun b hb => TyX.one (P := (· = 185)) rfl b hb) h3))
  clear h1 h2 h3
  go_wp2_with fail
  exact bodyPost_end (results_none rfl _ _ _) rfl ⟨rfl, H.out⟩
theorem txnF_any (g Bo cnt : Nat) (xW xE xT : List BkE) (n : Int) (A : Option Addr) (len cap : Nat) (w : World) (h : BkAtF w g Bo cnt xW xE xT) (hp : P0 mkWrite 3 87 3518437208812 w Bo ⟨A, len, cap, cnt + 1, none, 0, 0⟩) (hd : ∀ e ∈ xW, ∀ a c, e.A = some a → A = some c → a.block ≠ c.block) (hc : cnt + 1 ≤ 1152921504606846976) (hl : xW.length + 1 ≤ 2199023255552) :
    Calls Tryz.prog 48 #[.pointer (some ⟨g, 0, none⟩), .agg #[.int .i64 n, .slice A len cap]] w fun e w' => e = .returned (.tuple #[]) ∧ BkAtF w' g Bo (cnt + 1) (xW ++ [⟨A, len, cap, cnt + 1, none, 0, 0⟩]) xE xT ∧ Kept w w' (TyX w g (· = 196)) ∧ Below Bo w w' := by
  have hb : ∀ o, Below w.heap.size w (w.alloc o) := fun o => (Below.refl _ _).alloc (Nat.le_refl _) _
  have HK := Lib.hid (fun o => writesF_any g Bo cnt xW xE xT A len cap (w.alloc o) (h.kept (Kept.of_below (X := fun _ => False) (hb o)) (fun _ h => h.elim)) (hp.more (Kept.of_below (X := fun _ => False) (hb o)) (fun _ _ h => h.elim)) hd hc hl)
  have HB := Lib.hid hb
  have Hlo := Lib.hid h.lo
  clear h hp hd hb
  go_enter Tryz.func48, Tryz.ntmps48
  go_wp2_with fail
  refine (HK.out _).mono ?_
  rintro e w' ⟨rfl, h1, h2, h3⟩
  have H := Lib.hid (And.intro h1 (And.intro (TyX.trans (Kept.of_below (HB.out _)) h2) (((HB.out _).mono Hlo.out.2).trans h3)))
  clear h1 h2 h3
  go_wp2_with fail
  exact bodyPost_end (results_none rfl _ _ _) rfl ⟨rfl, H.out⟩
set_option maxHeartbeats 4000000 in
theorem txnsF_any (g Bo cnt : Nat) (xW xE xT : List BkE) (A : Option Addr) (len cap : Nat) (rs : List RTx) (w : World) (h : BkAtF w g Bo cnt xW xE xT) (hw : TkAt RTx.cells 2 64 w Bo A len cap rs)
    (hr : ∀ r ∈ rs, r.len ≤ r.cap ∧ r.len ≤ 3518437208812 ∧ TkAt mkWrite 3 87 w Bo r.A 0 r.cap []) (hrd : DisT rs) (hd : ∀ e ∈ xW, ∀ r ∈ rs, ∀ a c, e.A = some a → r.A = some c → a.block ≠ c.block) (hdT : ∀ e ∈ xT, ∀ a c, e.A = some a → A = some c → a.block ≠ c.block)
    (hc : cnt + len + 1 ≤ 1152921504606846976) (hl : xW.length + len ≤ 2199023255552) (hlT : xT.length + 1 ≤ 2199023255552) :
    Calls Tryz.prog 14 #[.pointer (some ⟨g, 0, none⟩), .slice A len cap] w fun e w' => e = .returned (.tuple #[]) ∧ BkAtF w' g Bo (cnt + len + 1) (xW ++ tellW cnt rs) xE (xT ++ [⟨A, len, cap, cnt + len + 1, none, 0, 0⟩]) ∧ Kept w w' (TyX w g (fun t => t = 196 ∨ t = 183)) ∧ Below Bo w w' := by
  have Hlo := Lib.hid h.lo
  have HG : Hid (∃ cs, w.heap[g]? = some (.cells cs 44 (0, 0))) := Lib.hid (by obtain ⟨cs, hg, -⟩ := h.st; exact ⟨cs, hg⟩)
  have H0 := Lib.hid h
  have Hw := Lib.hid hw
  have Hr := Lib.hid hr
  have Hrd := Lib.hid hrd
  have Hd := Lib.hid hd
  have HdT := Lib.hid hdT
  have Hlen := Lib.hid hw.len
  clear h hw hr hrd hd hdT
  go_enter Tryz.func14, Tryz.ntmps14
  go_wp2_with fail
  go_loopw [4] (fun i wr => ∃ k : Nat, k ≤ len ∧ i = .int .i64 k ∧ Hid (BkAtF wr g Bo (cnt + k) (xW ++ tellW cnt (rs.take k)) xE xT) ∧ Hid (Kept w wr (TyX w g (fun t => t = 196 ∨ t = 183))) ∧ Hid (Below Bo w wr)) (fun i _ => len - (RowKit.intOf i).toNat)
  case atStart => exact ⟨0, Nat.zero_le _, rfl, by simpa [tellW] using H0, Lib.hid (Kept.refl _ _), Lib.hid (Below.refl _ _)⟩
  case round =>
    obtain ⟨k, hk, rfl, HK, HX, HB⟩ := hrel
    have hty : ∀ b cs t, w.heap[b]? = some (.cells cs t (0, 0)) → t ≠ 44 → t ≠ 196 → t ≠ 183 → ¬ TyX w g (fun t => t = 196 ∨ t = 183) b := fun b cs t hb h1 h2 h3 => by
      obtain ⟨c, hg⟩ := HG.out
      exact TyX.ne hb (blk_ne2 hb hg h1) (fun h => h.elim h2 h3)
    have hwr : TkAt RTx.cells 2 64 wr Bo A len cap rs := Hw.out.kept HX.out (fun a ea => by
      obtain ⟨c1, h1⟩ := Hw.out.ty ea
      exact hty _ _ _ h1 (by decide) (by decide) (by decide))
    have Hty := Lib.hid hty
    have Hwr := Lib.hid hwr
    clear hty hwr
    by_cases hlt : k < len
    · obtain ⟨b, off, r, rfl, hbl, hx, hcell⟩ := Hwr.out.row.at_ hlt
      have x0 := hcell 0 _ rfl
      have x1 := hcell 1 _ rfl
      simp only [Nat.add_zero] at x0
      have hsn : rs.take (k + 1) = rs.take k ++ [r] := by
        obtain ⟨hk2, e⟩ := List.getElem?_eq_some_iff.1 hx
        rw [List.take_add_one, hx]; rfl
      obtain ⟨r1, r2, r3⟩ := Hr.out r (List.mem_of_getElem? hx)
      have hp : P0 mkWrite 3 87 3518437208812 wr Bo ⟨r.A, r.len, r.cap, cnt + k + 1, none, 0, 0⟩ := ⟨r1, r2, by simp only; omega, r3.kept HX.out (fun a ea => by
        obtain ⟨c1, h1⟩ := r3.ty ea
        exact Hty.out _ _ _ h1 (by decide) (by decide) (by decide))⟩
      have hdd : ∀ e ∈ xW ++ tellW cnt (rs.take k), ∀ a c, e.A = some a → r.A = some c → a.block ≠ c.block := fun e he a c ea ec => by
        rcases List.mem_append.1 he with he | he
        · exact Hd.out e he r (List.mem_of_getElem? hx) a c ea ec
        · obtain ⟨q, hq, eq⟩ := tellW_mem _ _ _ he
          obtain ⟨i, hi⟩ := List.getElem?_of_mem hq
          have hik : i < k := by have := (List.getElem?_eq_some_iff.1 hi).1; simp at this; omega
          rw [List.getElem?_take_of_lt hik] at hi
          obtain ⟨hi1, hi2⟩ := List.getElem?_eq_some_iff.1 hi
          obtain ⟨hx1, hx2⟩ := List.getElem?_eq_some_iff.1 hx
          have := List.pairwise_iff_getElem.1 Hrd.out i k hi1 hx1 hik
          rw [hi2, hx2] at this
          exact this a c (eq ▸ ea) ec
      have HT := Lib.hid (txnF_any g Bo (cnt + k) (xW ++ tellW cnt (rs.take k)) xE xT r.number r.A r.len r.cap wr HK.out hp hdd (by omega) (by simp [tellW_len]; omega))
      have Hsn := Lib.hid hsn
      clear hp hdd hcell hx hsn r1 r2 r3
      go_wp2_with fail
      refine HT.out.mono ?_
      rintro e w' ⟨rfl, h1, h2, h3⟩
      have H1 : Hid (BkAtF w' g Bo (cnt + (k + 1)) (xW ++ tellW cnt (rs.take (k + 1))) xE xT) := Lib.hid (by
        rw [Hsn.out, tellW_snoc, ← List.append_assoc, List.length_take, Hlen.out, Nat.min_eq_left (by omega)]; exact h1)
      have H2 := Lib.hid (TyX.trans HX.out (h2.mono fun b hb => hb.imp id fun ⟨cs, t, ht, hh⟩ => ⟨cs, t, Or.inl ht, hh⟩))
      have H3 := Lib.hid (HB.out.trans h3)
      clear h1 h2 h3
      go_wp2_with fail
      exact ⟨⟨k + 1, by omega, by go_num, H1, H2, H3⟩, by simp [RowKit.intOf]; omega⟩
    · obtain rfl : k = len := by omega
      have ht : rs.take k = rs := List.take_of_length_le (by rw [Hlen.out]; exact Nat.le_refl _)
      have HT := Lib.hid (tellTxnF_any g Bo (cnt + k) (xW ++ tellW cnt rs) xE xT A k cap wr (by have := HK.out; rwa [ht] at this) ⟨Hwr.out.le, by simp only; omega, by simp only; omega, Hwr.out.empty⟩ HdT.out (by omega) hlT)
      clear ht
      go_wp2_with fail
      refine HT.out.mono ?_
      rintro e w' ⟨rfl, h1, h2, h3⟩
      have H := Lib.hid (And.intro h1 (And.intro (TyX.trans HX.out (h2.mono fun b hb => TyX.one (P := fun t => t = 196 ∨ t = 183) (Or.inr rfl) b hb)) (HB.out.trans h3)))
      clear h1 h2 h3
      go_wp2_with fail
      exact bodyPost_end (results_none rfl _ _ _) rfl ⟨rfl, H.out⟩
end Go.Proofs.YtafghiekpgjniaaGreatDoor

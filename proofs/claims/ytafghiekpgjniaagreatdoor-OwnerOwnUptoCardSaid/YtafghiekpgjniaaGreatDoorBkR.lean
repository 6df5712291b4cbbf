/- towpathlaw01.Book: Entries, Versions, Helds, Resp. -/
import Derived.Test.YtafghiekpgjniaaGreatDoorBkP
import Derived.Test.YtafghiekpgjniaaGreatDoorBkX
import Derived.Test.YtafghiekpgjniaaGreatDoorOl5
namespace Go.Proofs.YtafghiekpgjniaaGreatDoor
open Go.RowKit
set_option linter.unusedVariables false
set_option linter.unusedSimpArgs false

set_option maxRecDepth 100000
def bookZ : Array Value := #[.int .i64 0, .slice none 0 0, .slice none 0 0, .slice none 0 0, .slice none 0 0, .slice none 0 0, .slice none 0 0, .slice none 0 0, .slice none 0 0, .slice none 0 0, .slice none 0 0, .slice none 0 0]
theorem book_newP {w : World} {g Bo : Nat} (h : w.heap[g]? = some (.cells bookZ 44 (0, 0))) (lo : Bo ≤ g) : BkAtP w g Bo 0 [] [] [] := by
  refine ⟨⟨lo, Nat.le_trans lo (Nat.le_of_lt (blk_lt h))⟩, by omega, ⟨bookZ, h, rfl, rfl, rfl, rfl, rfl, rfl, rfl, rfl, rfl, rfl, ?_, ?_, ?_⟩, by simp, by simp, by simp⟩
  all_goals exact ⟨none, 0, rfl, TkAt.nil _ _, by simp, List.Pairwise.nil⟩
theorem BkAtP.blk {w : World} {g Bo cnt : Nat} {xE xV xH : List BkE} (h : BkAtP w g Bo cnt xE xV xH) : ∃ cs, w.heap[g]? = some (.cells cs 44 (0, 0)) := by
  obtain ⟨cs, hg, -⟩ := h.st; exact ⟨cs, hg⟩
/-- The types of a book's own blocks. -/
def HdP (t : TypeId) : Prop := t = 185 ∨ t = 200 ∨ t = 204
/-- The lists lie below n. -/
def Und (x : List BkE) (n : Nat) : Prop := ∀ e ∈ x, ∀ a, e.A = some a → a.block < n
theorem Und.nil (n : Nat) : Und [] n := fun e he => by cases he
theorem Und.more {x : List BkE} {n m : Nat} (h : Und x n) (hm : n ≤ m) : Und x m := fun e he a ea => Nat.lt_of_lt_of_le (h e he a ea) hm
theorem Und.snoc {x : List BkE} {n : Nat} {A : Option Addr} {l c k : Nat} (h : Und x n) (hA : ∀ a, A = some a → a.block < n) : Und (x ++ [⟨A, l, c, k, none, 0, 0⟩]) n := fun e he a ea => by
  rcases List.mem_append.1 he with he | he
  · exact h e he a ea
  · simp at he; subst he; exact hA a ea
theorem entriesP_any (g Bo cnt : Nat) (xE xV xH : List BkE) (A : Option Addr) (len cap : Nat) (w : World) (h : BkAtP w g Bo cnt xE xV xH) (hp : P0 mkEntry 2 116 4398046511033 w Bo ⟨A, len, cap, cnt + 1, none, 0, 0⟩) (hd : ∀ e ∈ xE, ∀ a c, e.A = some a → A = some c → a.block ≠ c.block) (hc : cnt + 1 ≤ 1152921504606846976) (hl : xE.length + 1 ≤ 2199023255552) :
    Calls Tryz.prog 15 #[.pointer (some ⟨g, 0, none⟩), .slice A len cap] w fun e w' => e = .returned (.tuple #[]) ∧ BkAtP w' g Bo (cnt + 1) (xE ++ [⟨A, len, cap, cnt + 1, none, 0, 0⟩]) xV xH ∧ Kept w w' (TyX w g HdP) ∧ Below Bo w w' := by
  have HK := Lib.hid (tellEntryP_any g Bo cnt xE xV xH A len cap w h hp hd hc hl)
  clear h hp hd
  go_enter Tryz.func15, Tryz.ntmps15
  go_wp2_with fail
  refine HK.out.mono ?_
  rintro e w' ⟨rfl, h1, h2, h3⟩
  have H := Lib.hid (And.intro h1 (And.intro (h2.mono fun b hb => TyX.one (P := HdP) (Or.inl rfl) b hb) h3))
  clear h1 h2 h3
  go_wp2_with fail
  exact bodyPost_end (results_none rfl _ _ _) rfl ⟨rfl, H.out⟩
theorem versionsP_any (g Bo cnt : Nat) (xE xV xH : List BkE) (A : Option Addr) (len cap : Nat) (w : World) (h : BkAtP w g Bo cnt xE xV xH) (hp : P0 mkVersion 3 140 4398046511033 w Bo ⟨A, len, cap, cnt + 1, none, 0, 0⟩) (hd : ∀ e ∈ xV, ∀ a c, e.A = some a → A = some c → a.block ≠ c.block) (hc : cnt + 1 ≤ 1152921504606846976) (hl : xV.length + 1 ≤ 2199023255552) :
    Calls Tryz.prog 105 #[.pointer (some ⟨g, 0, none⟩), .slice A len cap] w fun e w' => e = .returned (.tuple #[]) ∧ BkAtP w' g Bo (cnt + 1) xE (xV ++ [⟨A, len, cap, cnt + 1, none, 0, 0⟩]) xH ∧ Kept w w' (TyX w g HdP) ∧ Below Bo w w' := by
  have HK := Lib.hid (tellVersionP_any g Bo cnt xE xV xH A len cap w h hp hd hc hl)
  clear h hp hd
  go_enter Tryz.func105, Tryz.ntmps105
  go_wp2_with fail
  refine HK.out.mono ?_
  rintro e w' ⟨rfl, h1, h2, h3⟩
  have H := Lib.hid (And.intro h1 (And.intro (h2.mono fun b hb => TyX.one (P := HdP) (Or.inr (Or.inl rfl)) b hb) h3))
  clear h1 h2 h3
  go_wp2_with fail
  exact bodyPost_end (results_none rfl _ _ _) rfl ⟨rfl, H.out⟩
/-- What a book has been told of keys with versions. -/
def tellH : Nat → List HR → List BkE
  | _, [] => []
  | c, r :: rs => ⟨r.A, r.len, r.cap, c + 1, none, 0, 0⟩ :: tellH (c + 1) rs
theorem tellH_snoc : ∀ (l : List HR) (c : Nat) (r : HR), tellH c (l ++ [r]) = tellH c l ++ [⟨r.A, r.len, r.cap, c + l.length + 1, none, 0, 0⟩]
  | [], c, r => rfl
  | x :: l, c, r => by
    rw [List.cons_append, tellH, tellH, tellH_snoc l (c + 1) r]
    simp [Nat.add_assoc, Nat.add_comm, Nat.add_left_comm]
theorem tellH_len : ∀ (l : List HR) (c : Nat), (tellH c l).length = l.length
  | [], _ => rfl
  | x :: l, c => by rw [tellH, List.length_cons, tellH_len l, List.length_cons]
theorem tellH_mem : ∀ (l : List HR) (c : Nat) (e : BkE), e ∈ tellH c l → ∃ r ∈ l, e.A = r.A
  | [], _, e, h => by simp [tellH] at h
  | x :: l, c, e, h => by
    rw [tellH, List.mem_cons] at h
    rcases h with rfl | h
    · exact ⟨x, by simp, rfl⟩
    · obtain ⟨r, h1, h2⟩ := tellH_mem l _ e h
      exact ⟨r, by simp [h1], h2⟩
theorem own_blk {w : World} {B m n c size : Nat} {t : TypeId} {A : Option Addr} {xs : List Value} (h : w.ownsRow B t size (.slice A m c) n xs) {a : Addr} (ea : A = some a) : (Value.slice A m c).ownBlock = some a.block := by subst ea; rfl
/-- The versions of a key, as the book takes them. -/
theorem HRow.vers {w : World} {B Bo : Nat} {v : Value} {hs : List HR} (h : HRow w B v hs) (hB : Bo ≤ B) : ∀ r ∈ hs, r.len ≤ r.cap ∧ TkAt mkVersion 3 140 w Bo r.A 0 r.cap [] ∧ ∀ a, r.A = some a → B ≤ a.block := fun r hr => by
  obtain ⟨o1, o2, -⟩ := h.2.1 r hr
  have o3 : w.ownsRow B 140 3 (.slice r.A r.len r.cap) r.vs.length (r.vs.flatMap Ver.cells) := by rw [o2]; exact o1
  obtain ⟨A', cap', e, hal, htk⟩ := TkAt.own (cells := Ver.cells) (len_ver _) o3 hB
  injection e with e1 e2 e3
  subst e1 e3
  exact ⟨by have := htk.le; omega, htk.empty, hal⟩
theorem HRow.tk {w : World} {B Bo n c : Nat} {A : Option Addr} {hs : List HR} (h : HRow w B (.slice A n c) hs) (hB : Bo ≤ B) : n = hs.length ∧ TkAt HR.cells 2 132 w Bo A n c hs ∧ ∀ a, A = some a → B ≤ a.block := by
  obtain ⟨A', cap', e, hal, htk⟩ := TkAt.own (cells := HR.cells) (len_hr _) h.1 hB
  injection e with e1 e2 e3
  subst e1 e2 e3
  exact ⟨rfl, htk, hal⟩
set_option maxHeartbeats 4000000 in
theorem heldsP_any (g Bo cnt base : Nat) (xE xV xH : List BkE) (A : Option Addr) (len cap : Nat) (hs : List HR) (w : World) (h : BkAtP w g Bo cnt xE xV xH) (hw : HRow w base (.slice A len cap) hs) (hB : Bo ≤ base) (uV : Und xV base) (uH : Und xH base)
    (hv : ∀ r ∈ hs, r.len ≤ 4398046511033) (hc : cnt + len + 1 ≤ 1152921504606846976) (hl : xV.length + len ≤ 2199023255552) (hlH : xH.length + 1 ≤ 2199023255552) :
    Calls Tryz.prog 27 #[.pointer (some ⟨g, 0, none⟩), .slice A len cap] w fun e w' => e = .returned (.tuple #[]) ∧ BkAtP w' g Bo (cnt + len + 1) xE (xV ++ tellH cnt hs) (xH ++ [⟨A, len, cap, cnt + len + 1, none, 0, 0⟩]) ∧ Kept w w' (TyX w g HdP) ∧ Below Bo w w' := by
  obtain ⟨hn, htk, hal⟩ := hw.tk hB
  have Hn := Lib.hid hn
  have Hw := Lib.hid htk
  have Hal := Lib.hid hal
  have Hvs := Lib.hid (hw.vers hB)
  have Hdis := Lib.hid hw.2.2
  have Hbk := Lib.hid h.blk
  have H0 := Lib.hid h
  have Hv := Lib.hid hv
  have HuV := Lib.hid uV
  have HuH := Lib.hid uH
  clear h hw hn htk hal hv uV uH
  go_enter Tryz.func27, Tryz.ntmps27
  go_wp2_with fail
  go_loopw [4] (fun i wr => ∃ k : Nat, k ≤ len ∧ i = .int .i64 k ∧ Hid (BkAtP wr g Bo (cnt + k) xE (xV ++ tellH cnt (hs.take k)) xH) ∧ Hid (Kept w wr (TyX w g HdP)) ∧ Hid (Below Bo w wr)) (fun i _ => len - (RowKit.intOf i).toNat)
  case atStart => exact ⟨0, Nat.zero_le _, rfl, by simpa [tellH] using H0, Lib.hid (Kept.refl _ _), Lib.hid (Below.refl _ _)⟩
  case round =>
    obtain ⟨k, hk, rfl, HK, HX, HB⟩ := hrel
    have hty : ∀ b cs t, w.heap[b]? = some (.cells cs t (0, 0)) → t ≠ 44 → ¬ HdP t → ¬ TyX w g HdP b := fun b cs t hb h1 h2 => by
      obtain ⟨c, hg⟩ := Hbk.out
      exact TyX.ne hb (blk_ne2 hb hg h1) h2
    have hwr : TkAt HR.cells 2 132 wr Bo A len cap hs := Hw.out.kept HX.out (fun a ea => by
      obtain ⟨c1, h1⟩ := Hw.out.ty ea
      exact hty _ _ _ h1 (by decide) (by unfold HdP; decide))
    have Hty := Lib.hid hty
    have Hwr := Lib.hid hwr
    clear hty hwr
    by_cases hlt : k < len
    · obtain ⟨b, off, r, rfl, hbl, hx, hcell⟩ := Hwr.out.row.at_ hlt
      have x0 := hcell 0 _ rfl
      have x1 := hcell 1 _ rfl
      simp only [Nat.add_zero] at x0
      have hsn : hs.take (k + 1) = hs.take k ++ [r] := by rw [List.take_add_one, hx]; rfl
      obtain ⟨r1, r2, r3⟩ := Hvs.out r (List.mem_of_getElem? hx)
      have hrl := Hv.out r (List.mem_of_getElem? hx)
      have hp : P0 mkVersion 3 140 4398046511033 wr Bo ⟨r.A, r.len, r.cap, cnt + k + 1, none, 0, 0⟩ := ⟨r1, hrl, by simp only; omega, r2.kept HX.out (fun a ea => by
        obtain ⟨c1, h1⟩ := r2.ty ea
        exact Hty.out _ _ _ h1 (by decide) (by unfold HdP; decide))⟩
      have hdd : ∀ e ∈ xV ++ tellH cnt (hs.take k), ∀ a c, e.A = some a → r.A = some c → a.block ≠ c.block := fun e he a c ea ec => by
        rcases List.mem_append.1 he with he | he
        · have h1 := HuV.out e he a ea
          have h2 := r3 c ec
          omega
        · obtain ⟨q, hq, eq⟩ := tellH_mem _ _ _ he
          obtain ⟨i, hi⟩ := List.getElem?_of_mem hq
          have hik : i < k := by have := (List.getElem?_eq_some_iff.1 hi).1; simp at this; omega
          rw [List.getElem?_take_of_lt hik] at hi
          obtain ⟨hi1, hi2⟩ := List.getElem?_eq_some_iff.1 hi
          obtain ⟨hx1, hx2⟩ := List.getElem?_eq_some_iff.1 hx
          have h7 := List.pairwise_iff_getElem.1 Hdis.out i k hi1 hx1 hik
          rw [hi2, hx2] at h7
          have e1 : q.A = some a := by rw [← eq]; exact ea
          have h8 := h7 a.block (by rw [e1]; rfl)
          rw [ec] at h8
          intro e9
          exact h8 (by rw [e9]; rfl)
      have HT := Lib.hid (versionsP_any g Bo (cnt + k) xE (xV ++ tellH cnt (hs.take k)) xH r.A r.len r.cap wr HK.out hp hdd (by omega) (by simp [tellH_len]; omega))
      have Hsn := Lib.hid hsn
      clear hp hdd hcell hx hsn r1 r2 r3
      go_wp2_with fail
      refine HT.out.mono ?_
      rintro e w' ⟨rfl, h1, h2, h3⟩
      have H1 : Hid (BkAtP w' g Bo (cnt + (k + 1)) xE (xV ++ tellH cnt (hs.take (k + 1))) xH) := Lib.hid (by
        rw [Hsn.out, tellH_snoc, ← List.append_assoc, List.length_take, ← Hn.out, Nat.min_eq_left (by omega)]; exact h1)
      have H2 := Lib.hid (TyX.trans HX.out h2)
      have H3 := Lib.hid (HB.out.trans h3)
      clear h1 h2 h3
      go_wp2_with fail
      exact ⟨⟨k + 1, by omega, by go_num, H1, H2, H3⟩, by simp [RowKit.intOf]; omega⟩
    · obtain rfl : k = len := by omega
      have ht : hs.take k = hs := List.take_of_length_le (by rw [Hn.out]; exact Nat.le_refl _)
      have HT := Lib.hid (tellHeldP_any g Bo (cnt + k) xE (xV ++ tellH cnt hs) xH A k cap wr (by have := HK.out; rwa [ht] at this) ⟨Hwr.out.le, by simp only; omega, by simp only; omega, Hwr.out.empty⟩ (fun e he a c ea ec => by have h1 := HuH.out e he a ea; have h2 := Hal.out c ec; omega) (by omega) hlH)
      clear ht
      go_wp2_with fail
      refine HT.out.mono ?_
      rintro e w' ⟨rfl, h1, h2, h3⟩
      have H := Lib.hid (And.intro h1 (And.intro (TyX.trans HX.out (h2.mono fun b hb => TyX.one (P := HdP) (Or.inr (Or.inr rfl)) b hb)) (HB.out.trans h3)))
      clear h1 h2 h3
      go_wp2_with fail
      exact bodyPost_end (results_none rfl _ _ _) rfl ⟨rfl, H.out⟩
end Go.Proofs.YtafghiekpgjniaaGreatDoor

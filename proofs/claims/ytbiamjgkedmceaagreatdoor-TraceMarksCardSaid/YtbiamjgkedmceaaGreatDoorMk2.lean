/- TraceMarks: the walk of its law. -/
import Derived.Test.YtbiamjgkedmceaaGreatDoorMk1
import Derived.Test.YtbiamjgkedmceaaGreatDoorSameM
import Derived.Test.YtbiamjgkedmceaaGreatDoorTl1
import Derived.Test.YtbiamjgkedmceaaGreatDoorBkAI
namespace Go.Proofs.YtbiamjgkedmceaaGreatDoor
open Go.RowKit
set_option linter.unusedVariables false
set_option linter.unusedSimpArgs false

set_option maxRecDepth 100000
def bookZ : Array Value := #[.int .i64 0, .slice none 0 0, .slice none 0 0, .slice none 0 0, .slice none 0 0, .slice none 0 0, .slice none 0 0, .slice none 0 0, .slice none 0 0, .slice none 0 0, .slice none 0 0, .slice none 0 0]
theorem book_newI {w : World} {g Bo : Nat} (h : w.heap[g]? = some (.cells bookZ 38 (0, 0))) (lo : Bo ≤ g) : BkAtI w g Bo 0 [] := by
  refine ⟨⟨lo, Nat.le_trans lo (Nat.le_of_lt (blk_lt h))⟩, by omega, ⟨bookZ, h, rfl, rfl, rfl, rfl, rfl, rfl, rfl, rfl, rfl, rfl, rfl, rfl, ?_⟩, by simp⟩
  exact ⟨none, 0, rfl, TkAt.nil _ _, by simp, List.Pairwise.nil⟩
theorem ints_any (g Bo cnt : Nat) (xInt : List BkE) (A : Option Addr) (len cap : Nat) (w : World) (h : BkAtI w g Bo cnt xInt) (hp : P0 mkInt 1 3 17592186044345 w Bo ⟨A, len, cap, cnt + 1, none, 0, 0⟩) (hd : ∀ e ∈ xInt, ∀ a c, e.A = some a → A = some c → a.block ≠ c.block) (hc : cnt + 1 ≤ 1152921504606846976) (hl : xInt.length + 1 ≤ 2199023255552) :
    Calls Tryz.prog 7 #[.pointer (some ⟨g, 0, none⟩), .slice A len cap] w fun e w' => e = .returned (.tuple #[]) ∧ BkAtI w' g Bo (cnt + 1) (xInt ++ [⟨A, len, cap, cnt + 1, none, 0, 0⟩]) ∧ Kept w w' (fun b => b = g ∨ ∃ cs, w.heap[b]? = some (.cells cs 61 (0, 0))) ∧ Below Bo w w' := by
  have HK := Lib.hid (tellIntI_any g Bo cnt xInt A len cap w h hp hd hc hl)
  clear h hp hd
  go_enter Tryz.func7, Tryz.ntmps7
  go_wp2_with fail
  refine HK.out.mono ?_
  rintro e w' ⟨rfl, h1, h2⟩
  have H := Lib.hid (And.intro h1 h2)
  clear h1 h2
  go_wp2_with fail
  exact bodyPost_end (results_none rfl _ _ _) rfl ⟨rfl, H.out⟩
theorem p0_of {w : World} {B n cap k : Nat} {A : Option Addr} {l : List Int} (h : TkAt Icell 1 3 w B A n cap l) (hn : n ≤ 17592186044345) (hk : k ≤ 1152921504606846976) : P0 mkInt 1 3 17592186044345 w B ⟨A, n, cap, k, none, 0, 0⟩ := ⟨h.le, hn, hk, h.zero_⟩
set_option maxHeartbeats 4000000 in
theorem lawmarks_any (A : Option Addr) (len cap : Nat) (l : List Ev) (w : World) (he : EsAt w w.heap.size A len l) (hl : len * 48 ≤ 140737488351232) (hT : TabB Tryz.prog w.heap.size w) :
    Calls Tryz.prog 3 #[.slice A len cap] w fun e w' => e = .returned (.bool true) ∧ Below w.heap.size w w' := by
  obtain ⟨lo, hlo⟩ : ∃ lo, lo = w.heap.size := ⟨_, rfl⟩
  have H0 := Lib.hid hlo
  have He := Lib.hid he
  have HT : Hid (TabB Tryz.prog lo w) := Lib.hid (hlo ▸ hT)
  have hll := he.len
  have HM : Hid ((l.map Ev.mark).length = len) := Lib.hid (by rw [List.length_map, hll])
  clear he hT hll hlo
  go_enter Tryz.func3, Tryz.ntmps3
  go_wp2_with fail
  refine (marks_any A len cap l w He.out (by omega)).mono ?_
  rintro e w1 ⟨Aa, ca, rfl, h1, h2⟩
  have Ha1 : Hid (TkAt Icell 1 3 w1 lo Aa len ca (l.map Ev.mark)) := Lib.hid (H0.out ▸ h1)
  have HB1 : Hid (Below lo w w1) := Lib.hid (H0.out ▸ h2)
  have hz1 : lo ≤ w1.heap.size := by have := HB1.out.size; have := H0.out; omega
  have He1 := Lib.hid ((He.out.below h2).more h2.size)
  clear h1 h2
  go_wp2_with fail
  refine (marks_any A len cap l w1 He1.out (by omega)).mono ?_
  rintro e w2 ⟨Ab, cb, rfl, h1, h2⟩
  have Hb2 : Hid (TkAt Icell 1 3 w2 lo Ab len cb (l.map Ev.mark)) := Lib.hid (h1.more hz1)
  have Hne : Hid (∀ a c, Aa = some a → Ab = some c → a.block ≠ c.block) := Lib.hid (fun a c ea ec e => by have := (Ha1.out.lt ea).2; have := (h1.lt ec).1; omega)
  have Ha2 := Lib.hid (Ha1.out.below h2)
  have HB2 : Hid (Below lo w w2) := Lib.hid (HB1.out.trans (h2.mono hz1))
  have hz2 : lo ≤ w2.heap.size := by have := HB2.out.size; have := H0.out; omega
  have He2 := Lib.hid ((He1.out.below h2).more h2.size)
  clear h1 h2 Ha1
  go_wp2_with fail
  refine (rmarks_any A len cap l w2 He2.out (by omega)).mono ?_
  rintro e w3 ⟨Ar, cr, rfl, h1, h2⟩
  have Hr3 := Lib.hid h1.row
  have Ha3 := Lib.hid (Ha2.out.below h2)
  have Hb3 := Lib.hid (Hb2.out.below h2)
  have HB3 : Hid (Below lo w w3) := Lib.hid (HB2.out.trans (h2.mono hz2))
  have hz3 : lo ≤ w3.heap.size := by have := HB3.out.size; have := H0.out; omega
  clear h1 h2 Ha2 Hb2
  go_wp2_with fail
  refine (sameI_any Aa len ca Ar cr (l.map Ev.mark) w3 Ha3.out.row Hr3.out (by omega)).mono ?_
  rintro e w11 ⟨rfl, h2⟩
  have HB11 := Lib.hid (HB3.out.trans (h2.mono hz3))
  have hz11 : lo ≤ w11.heap.size := by have := HB11.out.size; have := H0.out; omega
  have Ha11 := Lib.hid (Ha3.out.below h2)
  have Hb11 := Lib.hid (Hb3.out.below h2)
  clear h2 Ha3 Hb3
  go_wp2_with fail
  obtain ⟨g, hg⟩ : ∃ g, g = w11.heap.size := ⟨_, rfl⟩
  obtain ⟨w12, hV⟩ : ∃ V, V = w11.alloc (.cells #[.int .i64 0, .slice none 0 0, .slice none 0 0, .slice none 0 0, .slice none 0 0, .slice none 0 0, .slice none 0 0, .slice none 0 0, .slice none 0 0, .slice none 0 0, .slice none 0 0, .slice none 0 0] 38) := ⟨_, rfl⟩
  have h2 : Below w11.heap.size w11 w12 := hV ▸ (Below.refl _ _).alloc (Nat.le_refl _) _
  have HG := Lib.hid (show BkAtI w12 g lo 0 [] from book_newI (by rw [hV, hg]; exact blk_new _ _) (by rw [hg]; exact hz11))
  have HB12 := Lib.hid (HB11.out.trans (h2.mono hz11))
  have hz12 : lo ≤ w12.heap.size := by have := HB12.out.size; have := H0.out; omega
  have Ha12 := Lib.hid (Ha11.out.below h2)
  have Hb12 := Lib.hid (Hb11.out.below h2)
  rw [← hV, ← hg]
  clear h2 hV hg Ha11 Hb11
  have HPA := Lib.hid (p0_of (k := 0 + 1) Ha12.out (by omega) (by omega))
  have HPB := Lib.hid (p0_of (k := 0 + 1 + 1) Hb12.out (by omega) (by omega))
  refine (ints_any g lo 0 [] Aa len ca w12 HG.out HPA.out (by simp) (by omega) (by simp)).mono ?_
  rintro e w13 ⟨rfl, h1, h2, h3⟩
  have HG13 := Lib.hid h1
  have HB13 := Lib.hid (HB12.out.trans h3)
  have hz13 : lo ≤ w13.heap.size := by have := HB13.out.size; have := H0.out; omega
  have HPB13 := Lib.hid (HPB.out.more h2 (fun a ea hx => by
    obtain ⟨c1, k1⟩ := HPB.out.tk.ty ea
    obtain ⟨cs, k0, -⟩ := HG.out.st
    rcases hx with hx | ⟨c2, k2⟩
    · rw [hx] at k1; rw [k1] at k0; injection k0 with k0; injection k0 with q1 q2 q3; revert q2; decide
    · rw [k1] at k2; injection k2 with k2; injection k2 with q1 q2 q3; revert q2; decide))
  clear h1 h2 h3
  go_wp2_with fail
  refine (ints_any g lo (0 + 1) ([] ++ [⟨Aa, len, ca, 0 + 1, none, 0, 0⟩]) Ab len cb w13 HG13.out HPB13.out (by
    intro e he a c ea ec
    simp at he; subst he
    exact Hne.out a c ea ec) (by omega) (by simp)).mono ?_
  rintro e w14 ⟨rfl, h1, h2, h3⟩
  have HG14 := Lib.hid h1
  have HB14 := Lib.hid (HB13.out.trans h3)
  have hz14 : lo ≤ w14.heap.size := by have := HB14.out.size; have := H0.out; omega
  clear h1 h2 h3
  go_wp2_with fail
  refine (apartI_any g lo _ _ w14 HG14.out (HT.out.next HB14.out)).mono ?_
  rintro e w15 ⟨rfl, -, h3⟩
  have HB15 := Lib.hid (HB14.out.trans h3)
  have hz15 : lo ≤ w15.heap.size := by have := HB15.out.size; have := H0.out; omega
  clear h3
  go_wp2_with fail
  refine (lives21_any w15).mono ?_
  rintro e w16 ⟨rfl, h3⟩
  have HB16 := Lib.hid (HB15.out.trans (h3.mono hz15))
  clear h3
  go_wp2_with fail
  go_ret
  exact ⟨rfl, H0.out ▸ HB16.out⟩
end Go.Proofs.YtbiamjgkedmceaaGreatDoor

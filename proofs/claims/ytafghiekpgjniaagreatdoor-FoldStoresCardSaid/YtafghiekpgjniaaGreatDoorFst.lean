/- FoldStores: the walk of its law. -/
import Derived.Test.YtafghiekpgjniaaGreatDoorFrc
import Derived.Test.YtafghiekpgjniaaGreatDoorBkG
import Derived.Test.YtafghiekpgjniaaGreatDoorSizeX
namespace Go.Proofs.YtafghiekpgjniaaGreatDoor
open Go.RowKit
set_option linter.unusedVariables false
set_option linter.unusedSimpArgs false

set_option maxHeartbeats 1000000 in
/-- Two rows of one list are the same. -/
theorem sameE_any (A1 : Option Addr) (len cap1 : Nat) (A2 : Option Addr) (cap2 : Nat) (xs : List Ent) (w : World) (h1 : RowAt Ent.cells 2 w w.heap.size A1 len xs) (h2 : RowAt Ent.cells 2 w w.heap.size A2 len xs) (hl : len ≤ 4398046511104) :
    Calls Tryz.prog 12 #[.slice A1 len cap1, .slice A2 len cap2] w fun e w' => e = .returned (.bool true) ∧ Below w.heap.size w w' := by
  have hb0 := beq_self_eq_true (len : Int)
  go_enter Tryz.func12, Tryz.ntmps12
  go_wp2_with fail
  go_loopw [5] (fun i wr => ∃ k : Nat, k ≤ len ∧ i = .int .i64 k ∧ Below w.heap.size w wr) (fun i _ => len - (RowKit.intOf i).toNat)
  case atStart => exact ⟨0, Nat.zero_le _, rfl, Below.refl _ _⟩
  case round =>
    obtain ⟨k, hk, rfl, hb⟩ := hrel
    have hr := h1.below hb
    have ht := h2.below hb
    have Hb := Lib.hid hb
    have hs := hb.size
    clear hb
    by_cases hlt : k < len
    · obtain ⟨b, off, x, rfl, hbl, hx, hxc⟩ := hr.at_ hlt
      have x0 := hxc 0 _ rfl
      have x1 := hxc 1 _ rfl
      simp only [Nat.add_zero] at x0
      obtain ⟨b', off', y, rfl, hbl', hy, hyc⟩ := ht.at_ hlt
      have y0 := hyc 0 _ rfl
      have y1 := hyc 1 _ rfl
      simp only [Nat.add_zero] at y0
      obtain rfl : y = x := by rw [hx] at hy; exact (Option.some.inj hy).symm
      clear hx hy hxc hyc hr ht
      go_wp2_with fail
      go_quiet (fail)
      go_wp2_with fail
      exact ⟨⟨k + 1, by omega, by go_num, below_drewN Hb.out _⟩, by simp [RowKit.intOf]; omega⟩
    · obtain rfl : k = len := by omega
      go_wp2_with fail
      go_ret
      exact ⟨rfl, Hb.out⟩
set_option maxRecDepth 100000
def bookZ : Array Value := #[.int .i64 0, .slice none 0 0, .slice none 0 0, .slice none 0 0, .slice none 0 0, .slice none 0 0, .slice none 0 0, .slice none 0 0, .slice none 0 0, .slice none 0 0, .slice none 0 0, .slice none 0 0]
theorem book_newF {w : World} {g Bo : Nat} (h : w.heap[g]? = some (.cells bookZ 44 (0, 0))) (lo : Bo ≤ g) : BkAtF w g Bo 0 [] [] [] := by
  refine ⟨⟨lo, Nat.le_trans lo (Nat.le_of_lt (blk_lt h))⟩, by omega, ⟨bookZ, h, rfl, rfl, rfl, rfl, rfl, rfl, rfl, rfl, rfl, rfl, ?_, ?_, ?_⟩, by simp, by simp, by simp⟩
  all_goals exact ⟨none, 0, rfl, TkAt.nil _ _, by simp, List.Pairwise.nil⟩
theorem wsz_ge : ∀ (ws : List Wr) (n : Int), n ≤ wsz n ws
  | [], n => by simp [wsz]
  | x :: r, n => by
    rw [wsz]; split
    · have := wsz_ge r (n + x.key.size + x.val.size); omega
    · omega
theorem txsz_ge : ∀ (rs : List RTx) (n : Int), n ≤ txsz n rs
  | [], n => by simp [txsz]
  | x :: r, n => by
    rw [txsz]; split
    · have := txsz_ge r (n + tsz x.ws)
      have h2 : (0 : Int) ≤ tsz x.ws := by have := wsz_ge x.ws x.ws.length; unfold tsz; omega
      omega
    · omega
theorem bey_one {q : Int} (h : beyB 0 [q] = false) : q ≤ 1048576 := by
  simp only [beyB] at h
  split at h
  · cases h
  · omega
/-- A twin of transactions, as the book takes it. -/
theorem twin_tk {w : World} {g Bo n : Nat} {rs' : List RTx} (hl' : rs'.length = n) (hg : w.heap[g]? = some (.cells ((rs' ++ [spT]).flatMap RTx.cells).toArray 64 (0, 0))) (hB : Bo ≤ g) : TkAt RTx.cells 2 64 w Bo (some ⟨g, 0, none⟩) n (n + 1) rs' := by
  have hfl : ((rs' ++ [spT]).flatMap RTx.cells).length = (n + 1) * 2 := by rw [flat_len _ (len_tx _)]; simp [hl']
  refine ⟨hl', by omega, Or.inr ⟨g, 0, _, rfl, hB, hg, by simp only [List.size_toArray, hfl]; omega, fun i x hx j u hu => ?_⟩⟩
  have hi := (List.getElem?_eq_some_iff.1 hx).1
  have := flat_get (rs' ++ [spT]) (len_tx _) i x (by rw [List.getElem?_append_left hi]; exact hx) j u hu
  simpa using this
theorem twin_writes {w : World} {g Bo : Nat} {rs rs' : List RTx} (hl : rs'.length ≤ rs.length) (htw : TwAll w g rs rs') (hB : Bo ≤ g) (hrl : ∀ r ∈ rs, r.len * 40 ≤ 140737488351232) : ∀ r ∈ rs', r.len ≤ r.cap ∧ r.len ≤ 3518437208812 ∧ TkAt mkWrite 3 87 w Bo r.A 0 r.cap [] := fun r' hr' => by
  obtain ⟨i, hi⟩ := List.getElem?_of_mem hr'
  have hil : i < rs.length := by have := (List.getElem?_eq_some_iff.1 hi).1; omega
  obtain ⟨e1, e2, e3, b, h4, h5, h6, h7, h8, h9⟩ := htw i _ r' (List.getElem?_eq_getElem hil) hi
  have := hrl _ (List.getElem_mem hil)
  have hfl : ((r'.ws ++ [spW]).flatMap Wr.cells).length = (r'.len + 1) * 3 := by rw [flat_len _ (len_wr _)]; simp [h9]
  refine ⟨by omega, by omega, rfl, Nat.zero_le _, Or.inr ⟨b, 0, _, h6, by omega, h8, by rw [h7, List.size_toArray, hfl]; omega, fun i x hx => by simp at hx⟩⟩
theorem ents_tk {w : World} {base Bo : Nat} {v : Value} {xs : List Ent} (h : EntsOwn w base v xs) (hB : Bo ≤ base) : ∃ A cap, v = .slice A xs.length cap ∧ (∀ a, A = some a → base ≤ a.block) ∧ TkAt Ent.cells 2 116 w Bo A xs.length cap xs := TkAt.own (fun x _ => rfl) h hB
set_option maxHeartbeats 8000000 in
theorem lawstores_any (A : Option Addr) (len cap : Nat) (rs : List RTx) (a : Int) (w : World) (hw : TxsAt w w.heap.size A len rs) (hl : len * 32 ≤ 140737488351232) (hc : len ≤ cap)
    (hs : ∀ r ∈ rs, ∀ x ∈ r.ws, x.key.size ≤ 140737488351232 ∧ x.val.size ≤ 140737488351232) (hT : TabB Tryz.prog w.heap.size w) :
    Calls Tryz.prog 3 #[.slice A len cap, .int .i64 a] w (TrueB w) := by
  have hlen := Lib.hid hw.1.len
  have Hs := Lib.hid hs
  have HT := Lib.hid hT
  have Hrl := Lib.hid (fun r hr => (hw.2 r hr).2)
  obtain ⟨lo, hlo⟩ : ∃ lo, lo = w.heap.size := ⟨_, rfl⟩
  have H0 := Lib.hid hlo
  clear hs hT hlo
  go_enter Tryz.func3, Tryz.ntmps3
  go_wp2_with fail
  refine (txsizex_any A len cap rs _ hw (by omega) Hs.out).mono ?_
  rintro e w2 ⟨rfl, ⟨q0, q1⟩, hb2⟩
  have hqge : (len : Int) ≤ txsz len rs := txsz_ge _ _
  generalize hq : txsz len rs = q at q0 q1 hqge ⊢
  clear hq
  have hs2 := hb2.size
  have hq : RowAt Icell 1 (w2.alloc (.cells #[.int .i64 q] 3)) (w2.alloc (.cells #[.int .i64 q] 3)).heap.size (some ⟨w2.heap.size, 0, none⟩) 1 [q] := rowAt_block [q] (len_int _) (blk_new _ _) (by simp) (fun j u hu => by simpa [Icell] using hu)
  have Hq := Lib.hid hq
  have Hb2 := Lib.hid hb2
  clear hq hb2
  go_wp2_with fail
  refine (beyondx_any _ 1 1 [q] _ Hq.out (by omega) (fun x hx => by simp at hx; omega)).mono ?_
  rintro e w3 ⟨rfl, hb3⟩
  have hb3' : Below w.heap.size w w3 := Hb2.out.trans (((bel_alloc (Below.refl _ _) _).trans (hb3.mono (by simp))).mono (by omega))
  have hw3 := (hw.below hb3').more hb3'.size
  have Hb3 := Lib.hid hb3'
  have hs3 := hb3'.size
  have hbey : beyB 0 [q] = false → len ≤ 1048576 := fun h => by have := bey_one h; omega
  generalize beyB 0 [q] = bb at hbey ⊢
  clear hb3 hb3'
  cases bb
  case true =>
    clear hw3
    go_wp2_with fail
    go_ret
    exact ⟨rfl, Hb3.out⟩
  have hlm := hbey rfl
  clear hbey q0 q1 hqge Hq
  go_wp2_with fail
  refine (twinsD_any A len cap rs _ hw3 hl).mono ?_
  rintro e w4 ⟨rs', hl', rfl, hblk, htw, hdt, hb4⟩
  obtain ⟨gt, hgt⟩ : ∃ gt, gt = w3.heap.size := ⟨_, rfl⟩
  rw [← hgt] at hblk htw ⊢
  have hs4 := hb4.size
  have htx4 := txs_of_twin hl' hlen.out hblk htw Hrl.out
  have hsame := tw_same htw (by rw [hl', hlen.out])
  have hlt4 : gt < w4.heap.size := blk_lt hblk
  have h04 : Below w.heap.size w w4 := Hb3.out.trans (hb4.mono hs3)
  have hgs : scanErr rs' a = scanErr rs a := scanErr_congr hsame a
  have hgl : scanL rs' a ⟨#[]⟩ ⟨#[]⟩ = scanL rs a ⟨#[]⟩ ⟨#[]⟩ := scanL_congr hsame a _ _
  have hsl : (scanL rs a ⟨#[]⟩ ⟨#[]⟩).length ≤ 2097152 := by
    unfold scanL; split
    · rename_i h
      have h3 := scanErr_zero h
      exact Nat.le_trans (List.length_filter_le _ _) (len_foldE_le h3.1 (by omega))
    · simp
  have hcg : ∀ X : World, TxsAt X X.heap.size (some ⟨gt, 0, none⟩) len rs' → Calls Tryz.prog 10 #[.slice (some ⟨gt, 0, none⟩) len (len + 1), .int .i64 a] X (ScanPost X rs a ⟨#[]⟩ ⟨#[]⟩) := fun X h => by
    unfold ScanPost; rw [← hgs, ← hgl]; exact fstore_any _ len (len + 1) rs' a X h (by omega) (by omega)
  have hcr : ∀ X : World, TxsAt X X.heap.size A len rs → Calls Tryz.prog 11 #[.slice A len cap, .int .i64 a] X (ScanPost X rs a ⟨#[]⟩ ⟨#[]⟩) := fun X h => rstore_any A len cap rs a X h (by omega)
  unfold ScanPost at hcg hcr
  generalize scanErr rs a = se at hcg hcr
  generalize scanL rs a ⟨#[]⟩ ⟨#[]⟩ = sl at hcg hcr hsl
  have HX : Hid (∀ X : World, Below w4.heap.size w4 X → TxsAt X X.heap.size (some ⟨gt, 0, none⟩) len rs' ∧ TxsAt X X.heap.size A len rs ∧ X.heap[gt]? = some (.cells ((rs' ++ [spT]).flatMap RTx.cells).toArray 64 (0, 0)) ∧ TwAll X gt rs rs' ∧ Below w.heap.size w X) := Lib.hid (fun X h => by
    have h0 : Below w.heap.size w X := h04.trans (h.mono h04.size)
    exact ⟨(htx4.below h).more h.size, (hw.below h0).more h0.size, (h.block _ hlt4).trans hblk, htw.keep h.size (fun q _ hq => h.block q hq), h0⟩)
  have G := Lib.hid hcg
  have R := Lib.hid hcr
  have Hl' := Lib.hid hl'
  have Hdt := Lib.hid hdt
  have Hgt : Hid (w.heap.size ≤ gt ∧ gt < w4.heap.size) := Lib.hid ⟨by omega, hlt4⟩
  have t4 := htx4
  clear hgt hcg hcr hl' hblk htw hsame h04 hgs hgl hb4 htx4 hdt hw3 hlt4
  go_wp2_with fail
  refine (G.out _ t4).mono ?_
  rintro e w5 ⟨v1, rfl, ho1, hb5⟩
  have Hb5 := Lib.hid hb5
  have hs5 := hb5.size
  have t5 := (HX.out _ hb5).1
  obtain ⟨A1, c1, rfl, hal1, htk1⟩ := ents_tk (Bo := w.heap.size) ho1 (by have := Hgt.out; omega)
  have Hal1 := Lib.hid hal1
  have Htk1 := Lib.hid htk1
  clear hb5 t4 ho1 hal1 htk1
  go_wp2_with fail
  refine (G.out _ t5).mono ?_
  rintro e w6 ⟨v2, rfl, ho2, hb6⟩
  have hb46 := Hb5.out.trans (hb6.mono hs5)
  have Hb6 := Lib.hid hb46
  have hs6 := hb46.size
  have u6 := (HX.out _ hb46).2.1
  obtain ⟨A2, c2, rfl, hal2, htk2⟩ := ents_tk (Bo := w.heap.size) ho2 (by have := Hgt.out; omega)
  have Hal2 := Lib.hid hal2
  have Htk2 := Lib.hid htk2
  have Htk1b := Lib.hid (Htk1.out.below hb6)
  clear hb6 hb46 t5 ho2 hal2 htk2
  go_wp2_with fail
  refine (R.out _ u6).mono ?_
  rintro e w7 ⟨v3, rfl, ho3, hb7⟩
  obtain ⟨Ar, cr, rfl, hrow3, -, -⟩ := ho3.row
  have hb47 := Hb6.out.trans (hb7.mono hs6)
  have Hb7 := Lib.hid hb47
  have hs7 := hb47.size
  have Htk1c := Lib.hid (Htk1b.out.below hb7)
  have Htk2c := Lib.hid (Htk2.out.below hb7)
  have hrow1 := Htk1c.out.row
  have Hrow3 := Lib.hid hrow3
  clear hb7 hb47 u6 ho3
  go_wp2_with fail
  refine (sameE_any A1 _ c1 Ar cr sl _ hrow1 hrow3 (by omega)).mono ?_
  rintro e w8 ⟨rfl, hb8⟩
  have hb48 := Hb7.out.trans (hb8.mono hs7)
  have Hb8 := Lib.hid hb48
  have hs8 := hb48.size
  have Htk1d := Lib.hid (Htk1c.out.below hb8)
  have Htk2d := Lib.hid (Htk2c.out.below hb8)
  have hrow2 := Htk2d.out.row
  have hrow3' := (hrow3.below hb8).more hb8.size
  clear hb8 hb48 hrow1 hrow3
  go_wp2_with fail
  refine (sameE_any A2 _ c2 Ar cr sl _ hrow2 hrow3' (by omega)).mono ?_
  rintro e w9 ⟨rfl, hb9⟩
  have hb49 := Hb8.out.trans (hb9.mono hs8)
  have Hb9 := Lib.hid hb49
  have hs9 := hb49.size
  have Htk1e := Lib.hid (Htk1d.out.below hb9)
  have Htk2e := Lib.hid (Htk2d.out.below hb9)
  obtain ⟨-, u9, l1, l2, -⟩ := HX.out _ hb49
  have L1 := Lib.hid l1
  have L2 := Lib.hid l2
  clear hb9 hb49 hrow2 hrow3' l1 l2
  go_wp2_with fail
  refine (lefts_any gt A len cap rs rs' _ Hl'.out L1.out L2.out u9 hl).mono ?_
  rintro e w10 ⟨rfl, hb10⟩
  have hb410 := Hb9.out.trans (hb10.mono hs9)
  have Hb10 := Lib.hid hb410
  have hs10 := hb410.size
  have Htk1f := Lib.hid (Htk1e.out.below hb10)
  have Htk2f := Lib.hid (Htk2e.out.below hb10)
  clear hb10 hb410 u9 L1 L2
  go_wp2_with fail
  obtain ⟨g, hg⟩ : ∃ g, g = w10.heap.size := ⟨_, rfl⟩
  obtain ⟨W, hW⟩ : ∃ V, V = w10.alloc (.cells #[.int .i64 0, .slice none 0 0, .slice none 0 0, .slice none 0 0, .slice none 0 0, .slice none 0 0, .slice none 0 0, .slice none 0 0, .slice none 0 0, .slice none 0 0, .slice none 0 0, .slice none 0 0] 44) := ⟨_, rfl⟩
  have hbW : Below w10.heap.size w10 W := hW ▸ (Below.refl _ _).alloc (Nat.le_refl _) _
  have hWg : W.heap[g]? = some (.cells bookZ 44 (0, 0)) := by rw [hW, hg]; exact blk_new _ _
  have hb4W : Below w4.heap.size w4 W := Hb10.out.trans (hbW.mono hs10)
  obtain ⟨-, -, l1, l2, l3⟩ := HX.out _ hb4W
  have hgl : w.heap.size ≤ g := by have := Hgt.out; omega
  have HTx := Lib.hid (txnsF_any g w.heap.size 0 [] [] [] (some ⟨gt, 0, none⟩) len (len + 1) rs' W (book_newF hWg hgl) (twin_tk Hl'.out l1 Hgt.out.1) (twin_writes (by rw [Hl'.out, hlen.out]; exact Nat.le_refl _) l2 Hgt.out.1 Hrl.out) Hdt.out (by simp) (by simp) (by omega) (by simp; omega) (by simp))
  have L3 := Lib.hid l3
  have HWg := Lib.hid hWg
  have Ha := Lib.hid (Htk1f.out.below hbW)
  have Hb := Lib.hid (Htk2f.out.below hbW)
  have Hap : Hid (∀ a c, A1 = some a → A2 = some c → a.block ≠ c.block) := Lib.hid (fun a c ea ec => by
    have h1 := (Htk1.out.lt ea).2
    have h2 := Hal2.out c ec
    omega)
  rw [← hW, ← hg]
  clear hW hg hbW hWg hb4W l1 l2 l3
  refine HTx.out.mono ?_
  rintro e w11 ⟨rfl, h1, h2, h3⟩
  have hnt : ∀ (X : World) (A : Option Addr) (n c : Nat) (P : TypeId → Prop), TkAt Ent.cells 2 116 X w.heap.size A n c sl → (∃ cs, X.heap[g]? = some (.cells cs 44 (0, 0))) → ¬ P 116 → ∀ a, A = some a → ¬ TyX X g P a.block := fun X A n c P hk ⟨cs, hg⟩ hP a ea => by
    obtain ⟨c1, k1⟩ := hk.ty ea
    exact TyX.ne k1 (blk_ne2 k1 hg (by decide)) hP
  have Hnt := Lib.hid hnt
  have Ha1 := Lib.hid (Ha.out.kept h2 (hnt W A1 _ _ _ Ha.out ⟨_, HWg.out⟩ (by decide)))
  have Hb1 := Lib.hid (Hb.out.kept h2 (hnt W A2 _ _ _ Hb.out ⟨_, HWg.out⟩ (by decide)))
  have HG1 := Lib.hid h1
  have HB1 := Lib.hid (L3.out.trans h3)
  clear h1 h2 h3 hnt
  go_wp2_with fail
  refine (entriesF_any g w.heap.size _ _ _ _ A1 sl.length c1 w11 HG1.out ⟨Ha1.out.le, by simp only; omega, by simp only; omega, Ha1.out.empty⟩ (by simp) (by omega) (by simp)).mono ?_
  rintro e w12 ⟨rfl, h1, h2, h3⟩
  have HgB : Hid (∃ cs, w11.heap[g]? = some (.cells cs 44 (0, 0))) := Lib.hid (by obtain ⟨cs, hg, -⟩ := HG1.out.st; exact ⟨cs, hg⟩)
  have Hb2 := Lib.hid (Hb1.out.kept h2 (Hnt.out w11 A2 _ _ _ Hb1.out HgB.out (by decide)))
  have HG2 := Lib.hid h1
  have HB2 := Lib.hid (HB1.out.trans h3)
  clear h1 h2 h3
  go_wp2_with fail
  refine (entriesF_any g w.heap.size _ _ _ _ A2 sl.length c2 w12 HG2.out ⟨Hb2.out.le, by simp only; omega, by simp only; omega, Hb2.out.empty⟩ (by intro e he a c ea ec; simp at he; subst he; exact Hap.out a c ea ec) (by omega) (by simp)).mono ?_
  rintro e w13 ⟨rfl, h1, h2, h3⟩
  have HG3 := Lib.hid h1
  have HB3 := Lib.hid (HB2.out.trans h3)
  clear h1 h2 h3
  go_wp2_with fail
  refine (apartF_any g w.heap.size _ _ _ _ w13 HG3.out (HT.out.next HB3.out)).mono ?_
  rintro e w14 ⟨rfl, -, h3⟩
  have HB4 := Lib.hid (HB3.out.trans h3)
  clear h3
  go_wp2_with fail
  go_ret
  exact ⟨rfl, HB4.out⟩
end Go.Proofs.YtafghiekpgjniaaGreatDoor

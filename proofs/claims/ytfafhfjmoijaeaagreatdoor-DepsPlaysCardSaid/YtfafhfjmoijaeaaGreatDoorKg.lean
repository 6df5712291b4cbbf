/- DepsPlays: the walk of its law. -/
import Derived.Test.YtfafhfjmoijaeaaGreatDoorKe
import Derived.StillTail
namespace Go.Proofs.YtfafhfjmoijaeaaGreatDoor
open Go.RowKit
set_option linter.unusedVariables false
set_option linter.unusedSimpArgs false

open Go.Maps
set_option maxRecDepth 100000
set_option maxHeartbeats 4000000 in
theorem asked01_any (lo : Nat) (t : TB) (gz gr gb N : Nat) (n tn : Int) (A : Option Addr) (len cap : Nat) (ws : List Wr) (key : ByteArray) (w : World) (H : DPS w lo t gz gr gb N) (hws : WsAt w lo A len ws) (hreach : len * 40 ≤ 140737488351232) (hN : N ≤ 8000) :
    Calls Tryz.prog 7 #[.pointer (some ⟨gz, 0, none⟩), .pointer none, OpV 1 n tn A len cap key, .pointer (some ⟨gb, 0, none⟩)] w (AskP w lo t gz gr gb (N + 1)) := by
  obtain ⟨m, d, A0, n0, c0, xs, cnt, xI, xW, hD, hB, hcnt, hlI, hlW, hsep⟩ := H
  have hlo := hD.lo_
  obtain ⟨W0, hW0⟩ : ∃ W0, W0 = w.alloc (.cells #[.int .u8 1, .int .i64 n, .int .i64 tn, .slice A len cap, .string key] 52) := ⟨_, rfl⟩
  have hb0 : Below w.heap.size w W0 := hW0 ▸ bel_alloc (Below.refl _ _) _
  have hblk : W0.heap[w.heap.size]? = some (.cells #[.int .u8 1, .int .i64 n, .int .i64 tn, .slice A len cap, .string key] 52 (0, 0)) := by rw [hW0]; exact blk_new _ _
  have x0 : W0.cell? ⟨w.heap.size, 0, none⟩ = some (.int .u8 1) := blk_cell hblk 0
  have x2 : W0.cell? ⟨w.heap.size, 2, none⟩ = some (.int .i64 tn) := blk_cell hblk 2
  have x3 : W0.cell? ⟨w.heap.size, 3, none⟩ = some (.slice A len cap) := blk_cell hblk 3
  have Hb0 := Lib.hid hb0
  have Hblk := Lib.hid hblk
  have HW0 := Lib.hid hW0
  have HD := Lib.hid hD
  have HB := Lib.hid hB
  have Hsep := Lib.hid hsep
  have Hws := Lib.hid hws
  have Hlo := Lib.hid hlo
  have Hwl := Lib.hid hws.len
  have hz0 := hb0.size
  have hz0' : w.heap.size < W0.heap.size := blk_lt hblk
  clear hb0 hblk hsep hws hlo hW0 hD hB
  unfold OpV
  go_enter Tryz.func7, Tryz.ntmps7
  go_wp2_with fail
  rw [← HW0.out]
  go_wp2_with fail
  refine (twintx_any tn A len cap ws W0 (((Hws.out.more Hlo.out).below Hb0.out).more hz0) hreach).mono ?_
  rintro e w1 ⟨b, g1, g2, rfl, g3, g4⟩
  have HB1 := Lib.hid (Hb0.out.trans (g4.mono hz0))
  have HG3 := Lib.hid g3
  have HG := Lib.hid (And.intro g1 g2)
  have Hop1 := Lib.hid ((g4.block _ hz0').trans Hblk.out)
  clear g3 g4 g1 g2 x0 x2 x3
  go_wp2_with fail
  obtain ⟨w2, hw2⟩ : ∃ w2, w2 = w1.alloc (.cells #[.int .i64 tn, .slice (some ⟨b, 0, none⟩) len (len + 1)] 50) := ⟨_, rfl⟩
  have hk2 : Below w1.heap.size w1 w2 := hw2 ▸ bel_alloc (Below.refl _ _) _
  have HK2 : Hid (Bks w2 [(w1.heap.size, #[.int .i64 tn, .slice (some ⟨b, 0, none⟩) len (len + 1)], 50), (b, ((ws ++ [spW]).flatMap Wr.cells).toArray, 75), (w.heap.size, #[.int .u8 1, .int .i64 n, .int .i64 tn, .slice A len cap, .string key], 52)]) := Lib.hid (fun p hp => by
    simp only [List.mem_cons, List.not_mem_nil, or_false] at hp
    rcases hp with rfl | rfl | rfl
    · rw [hw2]; exact blk_new _ _
    · exact (hk2.block _ HG.out.2).trans HG3.out
    · exact (hk2.block _ (by have := HB1.out.size; have := HG.out; omega)).trans Hop1.out)
  have HB2 := Lib.hid (HB1.out.trans (hk2.mono HB1.out.size))
  rw [← hw2]
  have hz2 := HB2.out.size
  have hzg : w1.heap.size ≤ w2.heap.size := hk2.size
  have hbw : w.heap.size < b := by have := HG.out.1; omega
  have hbw2 : b < w2.heap.size := by have := HG.out.2; omega
  clear hk2 hw2
  have HD2 := Lib.hid (HD.out.below HB2.out)
  refine (zadd_any gz w2 HD2.out.z tn (some ⟨b, 0, none⟩) len (len + 1)).mono ?_
  rintro e w3 ⟨rfl, hb3⟩
  have HK3 := Lib.hid (HK2.out.below hb3)
  have HB3 := Lib.hid (HB2.out.trans (hb3.mono hz2))
  have hz3 := hb3.size
  have x2 : w3.cell? ⟨w.heap.size, 2, none⟩ = some (.int .i64 tn) := blk_cell HK3.out.tl.tl.g0 2
  have x3 : w3.cell? ⟨w.heap.size, 3, none⟩ = some (.slice A len cap) := blk_cell HK3.out.tl.tl.g0 3
  clear hb3
  go_wp2_with fail
  refine (r11add_nil tn A len cap w3).mono ?_
  rintro e w4 ⟨rfl, hb4⟩
  have HK4 := Lib.hid (HK3.out.below hb4)
  have HB4 := Lib.hid (HB3.out.trans (hb4.mono HB3.out.size))
  have hz4 := hb4.size
  have y2 : w4.cell? ⟨w.heap.size, 2, none⟩ = some (.int .i64 tn) := blk_cell HK4.out.tl.tl.g0 2
  have y3 : w4.cell? ⟨w.heap.size, 3, none⟩ = some (.slice A len cap) := blk_cell HK4.out.tl.tl.g0 3
  have z0 : w4.cell? ⟨w1.heap.size, 0, none⟩ = some (.int .i64 tn) := blk_cell HK4.out.g0 0
  have z1 : w4.cell? ⟨w1.heap.size, 1, none⟩ = some (.slice (some ⟨b, 0, none⟩) len (len + 1)) := blk_cell HK4.out.g0 1
  have HW4 := Lib.hid HK4.out.tl.g0
  clear hb4 x2 x3
  go_wp2_with fail
  refine (lefttx_any tn b A len cap ws w4 HW4.out (((Hws.out.more Hlo.out).below HB4.out).more HB4.out.size) hreach).mono ?_
  rintro e w5 ⟨rfl, hb5⟩
  have HK5 := Lib.hid (HK4.out.below hb5)
  have HB5 := Lib.hid (HB4.out.trans (hb5.mono HB4.out.size))
  have HD5 := Lib.hid (HD.out.below HB5.out)
  have HQ5 := Lib.hid (HB.out.kept (X := fun _ => False) (Kept.of_below HB5.out) (fun _ h => h.elim))
  have u0 : w5.cell? ⟨w1.heap.size, 0, none⟩ = some (.int .i64 tn) := blk_cell HK5.out.g0 0
  have u1 : w5.cell? ⟨w1.heap.size, 1, none⟩ = some (.slice (some ⟨b, 0, none⟩) len (len + 1)) := blk_cell HK5.out.g0 1
  have HP5 := Lib.hid (twin_p0 (b := b) (lo := lo) (k := cnt + 1) HK5.out.tl.g0 (by have := Hlo.out; omega) Hwl.out hreach (by omega))
  clear hb5 z0 z1 y2 y3
  go_wp2_with fail
  refine (txnK_any gb lo cnt xI xW tn (some ⟨b, 0, none⟩) len (len + 1) w5 HQ5.out HP5.out (fun e he a c ea ec => by
    injection ec with ec; subst ec
    have := (HB.out.inlt (Or.inr ⟨e, he, a, ea, rfl⟩)).2
    show a.block ≠ b
    omega) (by omega) (by omega)).mono ?_
  rintro e w6 ⟨rfl, hq6, hk6, hb6⟩
  have HQ6 := Lib.hid hq6
  have HB6 := Lib.hid ((HB5.out.mono Hlo.out).trans hb6)
  have HD6 := Lib.hid (HD5.out.keptT hk6 (fun b hb => HQ5.out.typX b hb) (by decide))
  clear hq6 hk6 hb6 u0 u1
  go_wp2_with fail
  go_ret
  refine ⟨rfl, ⟨m, d, A0, n0, c0, xs, cnt + 1, xI, _, HD6.out.up, HQ6.out, by omega, by omega, by simp; omega, fun q hq hx => ?_⟩, HB6.out⟩
  have hx' : (InE xI q ∨ InE xW q) ∨ q = b := by
    rcases hx with hx | hx
    · exact Or.inl (Or.inl hx)
    · rcases hx.snoc with hx | ⟨a, ea, hx⟩
      · exact Or.inl (Or.inr hx)
      · injection ea with ea; subst ea; exact Or.inr hx
  rcases hx' with hx' | rfl
  · exact Hsep.out q hq hx'
  · have := (hasL.lt HD.out.rr hq).2; omega
/-- What is asked, at memory. -/
structure KOp where
  kind : Int
  n : Int
  tn : Int
  A : Option Addr
  len : Nat
  cap : Nat
  ws : List Wr
  key : ByteArray
def KOp.cells (o : KOp) : List Value := [.int .u8 o.kind, .int .i64 o.n, .int .i64 o.tn, .slice o.A o.len o.cap, .string o.key]
structure OpOk (w : World) (B : Nat) (o : KOp) : Prop where
  ws : WsAt w B o.A o.len o.ws
  nil : o.A = none → o.cap = 0
  reach : o.len * 40 ≤ 140737488351232
  key : o.key.size ≤ 140737488351232
  txt : ∀ x ∈ o.ws, x.key.size ≤ 140737488351232 ∧ x.val.size ≤ 140737488351232
theorem OpOk.below {w w' : World} {B : Nat} {o : KOp} (h : OpOk w B o) (hb : Below B w w') : OpOk w' B o := ⟨h.ws.below hb, h.nil, h.reach, h.key, h.txt⟩
theorem asked_all (lo : Nat) (t : TB) (gz gr gb N : Nat) (o : KOp) (w : World) (H : DPS w lo t gz gr gb N) (ho : OpOk w lo o) (hN : N ≤ 8000) :
    Calls Tryz.prog 7 #[.pointer (some ⟨t.g, 0, none⟩), .pointer (some ⟨gr, 0, none⟩), OpV o.kind o.n o.tn o.A o.len o.cap o.key, .pointer (some ⟨gb, 0, none⟩)] w (AskP w lo t gz gr gb (N + 1)) := by
  obtain ⟨kd, n, tn, A, len, cap, ws, key⟩ := o
  by_cases h1 : kd = 1
  · subst h1; exact asked1_any lo t gz gr gb N n tn A len cap ws key w H ho.ws ho.nil ho.reach hN
  by_cases h2 : kd = 2
  · subst h2; exact asked2_any lo t gz gr gb N n tn A len cap key w H hN
  by_cases h3 : kd = 3
  · subst h3; exact asked3_any lo t gz gr gb N n tn A len cap key w H hN
  by_cases h4 : kd = 4
  · subst h4; exact asked4_any lo t gz gr gb N n tn A len cap key w H hN
  exact asked5_any lo t gz gr gb N n tn A len cap key w H hN kd h1 h2 h3 h4
theorem asked0_all (lo : Nat) (t : TB) (gz gr gb N : Nat) (o : KOp) (w : World) (H : DPS w lo t gz gr gb N) (ho : OpOk w lo o) (hN : N ≤ 8000) :
    Calls Tryz.prog 7 #[.pointer (some ⟨gz, 0, none⟩), .pointer none, OpV o.kind o.n o.tn o.A o.len o.cap o.key, .pointer (some ⟨gb, 0, none⟩)] w (AskP w lo t gz gr gb (N + 1)) := by
  obtain ⟨kd, n, tn, A, len, cap, ws, key⟩ := o
  by_cases h1 : kd = 1
  · subst h1; exact asked01_any lo t gz gr gb N n tn A len cap ws key w H ho.ws ho.reach hN
  by_cases h2 : kd = 2
  · subst h2; exact asked02_any lo t gz gr gb N n tn A len cap key w H hN
  by_cases h3 : kd = 3
  · subst h3; exact asked03_any lo t gz gr gb N n tn A len cap key w H hN
  by_cases h4 : kd = 4
  · subst h4; exact asked04_any lo t gz gr gb N n tn A len cap key w H hN
  exact asked05_any lo t gz gr gb N n tn A len cap key w H hN kd h1 h2 h3 h4
/-- Apart leaves the tables as they are. -/
theorem DPT.apart {w w' : World} {lo gz gr gb cnt N m n c : Nat} {t : TB} {d : DT} {A : Option Addr} {xs : List O2} {xI xW : List BkE} (h : DPT w lo t gz gr N m d A n c xs) (hB : BkAtK w gb lo cnt xI xW) (hsep : ∀ b, hasL xs b → ¬ (InE xI b ∨ InE xW b))
    (k : Kept w w' (fun b => InE xI b ∨ InE xW b ∨ (∃ cs, w.heap[b]? = some (.cells cs 93 (0, 0))) ∨ ∃ cs, w.heap[b]? = some (.cells cs 99 (0, 0)))) : DPT w' lo t gz gr N m d A n c xs := by
  have hX : ∀ b, (InE xI b ∨ InE xW b ∨ (∃ cs, w.heap[b]? = some (.cells cs 93 (0, 0))) ∨ ∃ cs, w.heap[b]? = some (.cells cs 99 (0, 0))) → ∃ cs e, w.heap[b]? = some (.cells cs e (0, 0)) ∧ e ∈ [3, 75, 93, 99] := fun b hb => by
    rcases hb with hb | hb | ⟨cs, hb⟩ | ⟨cs, hb⟩
    · obtain ⟨cs, hc⟩ := hB.tyI hb; exact ⟨cs, _, hc, by simp⟩
    · obtain ⟨cs, hc⟩ := hB.tyW hb; exact ⟨cs, _, hc, by simp⟩
    · exact ⟨cs, _, hb, by simp⟩
    · exact ⟨cs, _, hb, by simp⟩
  have hT : ∀ b, _ → Typ w b [3, 75, 93, 99] := fun b hb => Or.inr (hX b hb)
  refine ⟨h.kk, h.tt.keptT k (fun b hb => ?_), h.rr.kept k (fun b hb hx => ?_), h.nn, h.w32, k.blk h.z (blk_lt h.z) (fun hb => (hT _ hb).no h.z (by decide)), h.lot, h.log⟩
  · obtain ⟨cs, e, h1, h2⟩ := hX b hb
    exact ⟨cs, e, h1, fun e2 => by subst e2; revert h2; decide⟩
  · rcases hb with rfl | ⟨a, ea, rfl⟩ | hb
    · exact (hT _ hx).no h.rr.st (by decide)
    · obtain ⟨cs, hc⟩ := h.rr.tk.ty ea; exact (hT _ hx).no hc (by decide)
    · rcases hx with hx | hx | ⟨cs, hx⟩ | ⟨cs, hx⟩
      · exact hsep b hb (Or.inl hx)
      · exact hsep b hb (Or.inr hx)
      · obtain ⟨cs2, e, h1, h2⟩ := h.rr.hasL_ty hb
        exact blk_ne2 h1 hx (by rcases h2 with rfl | rfl <;> decide) rfl
      · obtain ⟨cs2, e, h1, h2⟩ := h.rr.hasL_ty hb
        exact blk_ne2 h1 hx (by rcases h2 with rfl | rfl <;> decide) rfl
/-- A new book. -/
theorem DPT.book {w w' : World} {lo gz gr gb N m n c : Nat} {t : TB} {d : DT} {A : Option Addr} {xs : List O2} (h : DPT w lo t gz gr N m d A n c xs) (hb : Below w.heap.size w w') (hg : w'.heap[gb]? = some (.cells bookZ 46 (0, 0))) (hl : lo ≤ gb) : DPS w' lo t gz gr gb N :=
  ⟨m, d, A, n, c, xs, 0, [], [], h.below hb, book_newK hg hl, by omega, by simp, by simp, fun b _ hx => by rcases hx with ⟨e, he, -⟩ | ⟨e, he, -⟩ <;> cases he⟩
theorem wsz_ge : ∀ (ws : List Wr) (n : Int), n ≤ wsz n ws
  | [], n => by simp [wsz]
  | x :: r, n => by
    rw [wsz]; split
    · have := wsz_ge r (n + x.key.size + x.val.size); omega
    · omega
theorem wsz_le : ∀ (ws : List Wr) (n : Int), (∀ x ∈ ws, x.key.size ≤ 140737488351232 ∧ x.val.size ≤ 140737488351232) → n ≤ 1125899906842624 → wsz n ws ≤ 1125899906842624
  | [], n, _, h => by simpa [wsz] using h
  | x :: r, n, hs, h => by
    rw [wsz]; split
    · have := hs x (by simp)
      exact wsz_le r _ (fun y hy => hs y (by simp [hy])) (by omega)
    · exact h
set_option maxHeartbeats 4000000 in
theorem beyond11_any (A : Option Addr) (len cap : Nat) (l : List KOp) (w : World) (h : RowAt KOp.cells 5 w w.heap.size A len l) (ho : ∀ o ∈ l, OpOk w w.heap.size o) (hl : len ≤ 4398046511104) :
    Calls Tryz.prog 4 #[.slice A len cap] w fun e w' => (∃ q, e = .returned (.bool q)) ∧ Below w.heap.size w w' := by
  have H := Lib.hid h
  have HO := Lib.hid ho
  clear h ho
  go_enter Tryz.func4, Tryz.ntmps4
  go_wp2_with fail
  go_loopw [3, 4] (fun v i wr => ∃ (k : Nat) (q : Int), k ≤ len ∧ i = .int .i64 k ∧ v = .int .i64 q ∧ 0 ≤ q ∧ q ≤ 1048576 ∧ Hid (Below w.heap.size w wr)) (fun _ i _ => len - (RowKit.intOf i).toNat)
  case atStart => exact ⟨0, 0, Nat.zero_le _, rfl, rfl, by omega, by omega, Lib.hid (Below.refl _ _)⟩
  case round =>
    obtain ⟨k, q, hk, rfl, rfl, hq0, hq1, HB⟩ := hrel
    by_cases hlt : k < len
    · obtain ⟨b, off, o, rfl, hbl, hx, hxc⟩ := (H.out.below HB.out).at_ hlt
      have hoo := (HO.out o (List.mem_of_getElem? hx)).below HB.out
      have y2 : wr.cell? ⟨b, off + k * 5 + 2, none⟩ = some (.int .i64 o.tn) := hxc 2 _ rfl
      have y3 : wr.cell? ⟨b, off + k * 5 + 3, none⟩ = some (.slice o.A o.len o.cap) := hxc 3 _ rfl
      have y4 : wr.cell? ⟨b, off + k * 5 + 4, none⟩ = some (.string o.key) := hxc 4 _ rfl
      have hbw : b < wr.heap.size := by have := HB.out.size; omega
      have x2 : ∀ n : Ext wr, n.X.cell? ⟨b, off + k * 5 + 2, none⟩ = some (.int .i64 o.tn) := fun n => (n.h.cell hbw).trans y2
      have x3 : ∀ n : Ext wr, n.X.cell? ⟨b, off + k * 5 + 3, none⟩ = some (.slice o.A o.len o.cap) := fun n => (n.h.cell hbw).trans y3
      have x4 : ∀ n : Ext wr, n.X.cell? ⟨b, off + k * 5 + 4, none⟩ = some (.string o.key) := fun n => (n.h.cell hbw).trans y4
      have hsz := hoo.key
      have hts : (0 ≤ tsz o.ws ∧ tsz o.ws ≤ 1125899906842625) := by
        have h1 := wsz_ge o.ws o.ws.length
        have h2 := wsz_le o.ws o.ws.length hoo.txt (by have := hoo.ws.len; have := hoo.reach; omega)
        unfold tsz
        omega
      have hN := Lib.hid (fun n : Ext wr => Ext.call ((tsizex_any o.tn o.A o.len o.cap o.ws n.X (((hoo.ws.more HB.out.size).below n.h).more n.h.size) (by have := hoo.reach; omega) hoo.txt).mono (fun e w' h => (⟨h.1, h.2.2⟩ : e = .returned (.int .i64 (tsz o.ws)) ∧ Below n.X.heap.size n.X w'))))
      have hi0 : (0 : Int) ≤ (k : Int) := by omega
      have hil : (k : Int) < (len : Int) := by omega
      clear hoo y2 y3 y4 hx hxc
      generalize tsz o.ws = s at hN hts
      have w1 : IntKind.i64.wrap (q + 1) = q + 1 := by rw [IntKind.wrap_i64]; omega
      have w2 : IntKind.i64.wrap (q + 1 + (o.key.size : Int)) = q + 1 + o.key.size := by rw [IntKind.wrap_i64]; omega
      have w3 : IntKind.i64.wrap (q + 1 + (o.key.size : Int) + s) = q + 1 + o.key.size + s := by rw [IntKind.wrap_i64]; omega
      go_wp2_with fail
      refine wp_region_ext (by kernel_rfl) (by kernel_rfl) ?_
      repeat (go_big_quiet_step ((go_at_call 9; exact hN.out _)))
      refine Ext.end_ fun X hX => ?_
      by_cases hbig : 1048576 < q + 1 + (o.key.size : Int) + s
      · go_wp2_with fail
        go_ret
        exact ⟨⟨_, rfl⟩, HB.out.trans (hX.mono HB.out.size)⟩
      · go_wp2_with fail
        exact ⟨⟨k + 1, _, by omega, by go_num, rfl, by omega, by omega, Lib.hid (HB.out.trans (hX.mono HB.out.size))⟩, by simp [RowKit.intOf]; omega⟩
    · obtain rfl : k = len := by omega
      go_wp2_with fail
      go_ret
      exact ⟨⟨_, rfl⟩, HB.out⟩
end Go.Proofs.YtfafhfjmoijaeaaGreatDoor
